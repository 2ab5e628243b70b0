/-
  An evaluator of runs and its soundness, part A. No condition of its own.
-/
import Derived.RangeFuncLeaves
import Derived.LoopNIn
import Derived.Below
import Derived.KernelRfl
namespace Go.Ev

/-! ### A trie over numbers, made for the kernel -/
inductive Pa where
  | z
  | l (p : Pa)
  | r (p : Pa)
noncomputable def pathF (f : Nat) : Nat → Pa :=
  Nat.rec (motive := fun _ => Nat → Pa) (fun _ => .z)
    (fun _ ih n => Nat.rec (motive := fun _ => Pa) .z
      (fun m _ => Bool.rec (motive := fun _ => Pa) (.r (ih (Nat.div m (nat_lit 2)))) (.l (ih (Nat.div m (nat_lit 2)))) (Nat.beq (Nat.mod m (nat_lit 2)) (nat_lit 0))) n) f
/-- A number's way down. -/
noncomputable def pathOf (n : Nat) : Pa := pathF n n
theorem beq_mod (m : Nat) : Nat.beq (Nat.mod m 2) 0 = decide (m % 2 = 0) := by
  show Nat.beq (m % 2) 0 = decide (m % 2 = 0)
  cases h : Nat.beq (m % 2) 0 with
  | true => exact (decide_eq_true (Nat.eq_of_beq_eq_true h)).symm
  | false => exact (decide_eq_false (Nat.ne_of_beq_eq_false h)).symm
theorem rec_bool {β : Type} (a b : β) (m : Nat) : Bool.rec (motive := fun _ => β) a b (Nat.beq (Nat.mod m 2) 0) = if m % 2 = 0 then b else a := by
  rw [beq_mod]; by_cases h : m % 2 = 0 <;> simp [h]
theorem pathF_zero (f : Nat) : pathF f 0 = .z := by cases f <;> rfl
theorem pathF_succ (f m : Nat) : pathF (f + 1) (m + 1) = if m % 2 = 0 then .l (pathF f (m / 2)) else .r (pathF f (m / 2)) := rec_bool _ _ m
theorem pathF_inj : ∀ (f g n k : Nat), n ≤ f → k ≤ g → pathF f n = pathF g k → n = k
  | 0, g, n, k, hn, hk, h => by
    have : n = 0 := by omega
    subst this
    cases k with
    | zero => rfl
    | succ k =>
      obtain ⟨g', rfl⟩ : ∃ g', g = g' + 1 := ⟨g - 1, by omega⟩
      rw [pathF_zero, pathF_succ] at h
      split at h <;> cases h
  | f + 1, g, 0, k, hn, hk, h => by
    cases k with
    | zero => rfl
    | succ k =>
      obtain ⟨g', rfl⟩ : ∃ g', g = g' + 1 := ⟨g - 1, by omega⟩
      rw [pathF_zero, pathF_succ] at h
      split at h <;> cases h
  | f + 1, g, n + 1, 0, hn, hk, h => by
    rw [pathF_zero, pathF_succ] at h
    split at h <;> cases h
  | f + 1, g, n + 1, k + 1, hn, hk, h => by
    obtain ⟨g', rfl⟩ : ∃ g', g = g' + 1 := ⟨g - 1, by omega⟩
    rw [pathF_succ, pathF_succ] at h
    split at h <;> split at h
    · have := pathF_inj f g' _ _ (by omega) (by omega) (Pa.l.inj h)
      omega
    · cases h
    · cases h
    · have := pathF_inj f g' _ _ (by omega) (by omega) (Pa.r.inj h)
      omega
theorem pathOf_inj {n k : Nat} (h : pathOf n = pathOf k) : n = k := pathF_inj n k n k (Nat.le_refl _) (Nat.le_refl _) h

inductive Tr (α : Type) where
  | leaf
  | node (v : Option α) (l r : Tr α)

namespace Tr
variable {α : Type}
noncomputable def getP (p : Pa) : Tr α → Option α :=
  Pa.rec (motive := fun _ => Tr α → Option α)
    (fun t => Tr.rec (motive := fun _ => Option α) none (fun v _ _ _ _ => v) t)
    (fun _ ih t => Tr.rec (motive := fun _ => Option α) none (fun _ l _ _ _ => ih l) t)
    (fun _ ih t => Tr.rec (motive := fun _ => Option α) none (fun _ _ r _ _ => ih r) t) p
noncomputable def setP (x : Option α) (p : Pa) : Tr α → Tr α :=
  Pa.rec (motive := fun _ => Tr α → Tr α)
    (fun t => Tr.rec (motive := fun _ => Tr α) (node x leaf leaf) (fun _ l r _ _ => node x l r) t)
    (fun _ ih t => Tr.rec (motive := fun _ => Tr α) (node none (ih leaf) leaf) (fun v l r _ _ => node v (ih l) r) t)
    (fun _ ih t => Tr.rec (motive := fun _ => Tr α) (node none leaf (ih leaf)) (fun v l r _ _ => node v l (ih r)) t) p
noncomputable def get (t : Tr α) (n : Nat) : Option α := getP (pathOf n) t
noncomputable def set (x : α) (t : Tr α) (n : Nat) : Tr α := setP (some x) (pathOf n) t
noncomputable def erase (t : Tr α) (n : Nat) : Tr α := setP none (pathOf n) t

theorem getP_leaf : ∀ (p : Pa), getP p (leaf : Tr α) = none
  | .z => rfl
  | .l _ => rfl
  | .r _ => rfl
theorem getP_setP (x : Option α) : ∀ (p q : Pa) (t : Tr α), (p = q → getP q (setP x p t) = x) ∧ (p ≠ q → getP q (setP x p t) = getP q t)
  | .z, .z, t => ⟨(fun _ => by cases t <;> rfl), fun h => absurd rfl h⟩
  | .z, .l q, t => ⟨(fun h => by cases h), (fun _ => by
    cases t with
    | leaf => exact getP_leaf q
    | node v l r => rfl)⟩
  | .z, .r q, t => ⟨(fun h => by cases h), (fun _ => by
    cases t with
    | leaf => exact getP_leaf q
    | node v l r => rfl)⟩
  | .l p, .z, t => ⟨(fun h => by cases h), (fun _ => by cases t <;> rfl)⟩
  | .r p, .z, t => ⟨(fun h => by cases h), (fun _ => by cases t <;> rfl)⟩
  | .l p, .r q, t => ⟨(fun h => by cases h), (fun _ => by
    cases t with
    | leaf => exact getP_leaf q
    | node v l r => rfl)⟩
  | .r p, .l q, t => ⟨(fun h => by cases h), (fun _ => by
    cases t with
    | leaf => exact getP_leaf q
    | node v l r => rfl)⟩
  | .l p, .l q, t => by
    cases t with
    | leaf =>
      obtain ⟨h1, h2⟩ := getP_setP x p q leaf
      exact ⟨fun h => h1 (Pa.l.inj h), fun h => (h2 (fun e => h (by rw [e]))).trans (getP_leaf q)⟩
    | node v l r =>
      obtain ⟨h1, h2⟩ := getP_setP x p q l
      exact ⟨fun h => h1 (Pa.l.inj h), fun h => h2 (fun e => h (by rw [e]))⟩
  | .r p, .r q, t => by
    cases t with
    | leaf =>
      obtain ⟨h1, h2⟩ := getP_setP x p q leaf
      exact ⟨fun h => h1 (Pa.r.inj h), fun h => (h2 (fun e => h (by rw [e]))).trans (getP_leaf q)⟩
    | node v l r =>
      obtain ⟨h1, h2⟩ := getP_setP x p q r
      exact ⟨fun h => h1 (Pa.r.inj h), fun h => h2 (fun e => h (by rw [e]))⟩
theorem get_set (t : Tr α) (x : α) (n k : Nat) : (t.set x n).get k = if k = n then some x else t.get k := by
  unfold get set
  obtain ⟨h1, h2⟩ := getP_setP (some x) (pathOf n) (pathOf k) t
  by_cases e : k = n
  · subst e; rw [if_pos rfl]; exact h1 rfl
  · rw [if_neg e]; exact h2 (fun hh => e (pathOf_inj hh).symm)
theorem get_erase (t : Tr α) (n k : Nat) : (t.erase n).get k = if k = n then none else t.get k := by
  unfold get erase
  obtain ⟨h1, h2⟩ := getP_setP none (pathOf n) (pathOf k) t
  by_cases e : k = n
  · subst e; rw [if_pos rfl]; exact h1 rfl
  · rw [if_neg e]; exact h2 (fun hh => e (pathOf_inj hh).symm)
theorem get_leaf (n : Nat) : (leaf : Tr α).get n = none := getP_leaf _
end Tr

/-! ### Abstract values -/
/-- A slice's capacity: known; or all up to its block's end, in elements of so many cells. -/
inductive Cap where
  | ex (k : Nat)
  | te (sz : Nat)
  deriving Inhabited
inductive AV where
  | bool (b : Bool)
  | int (k : IntKind) (n : Int)
  | str (s : List Nat)
  | ptr (b o : Nat)
  | nilPtr
  | slice (b o len : Nat) (cap : Cap)
  | empty
  | nilSlice
  | map (b : Nat)
  | nilMap
  | func (f : FuncId) (first captured : List AV)
  | yield (l : Nat)
  | nilFunc
  | iface (t : TypeId) (v : AV)
  | nilIface
  | agg (cs : List AV)
  | tuple (vs : List AV)
  | lst (n : Nat) (cs : List AV)
  | fptr (cs : List AV)
  deriving Inhabited

structure Blk where
  c : Nat
  base : Nat
  lim : Nat

/-- Where abstract blocks lie (f), and which blocks hold what for good (K). -/
structure Mp where
  f : Nat → Option Blk
  K : Nat → Option (Array Value)
instance : CoeFun Mp (fun _ => Nat → Option Blk) := ⟨Mp.f⟩

structure Mp.le (m m' : Mp) : Prop where
  fn : ∀ b x, m b = some x → m' b = some x
  K : ∀ c a, m.K c = some a → m'.K c = some a
instance {m m' : Mp} : CoeFun (Mp.le m m') (fun _ => ∀ b x, m b = some x → m' b = some x) := ⟨Mp.le.fn⟩
theorem Mp.le_refl (m : Mp) : m.le m := ⟨fun _ _ h => h, fun _ _ h => h⟩
theorem Mp.le_trans {a b c : Mp} (h : a.le b) (k : b.le c) : a.le c := ⟨fun x y e => k.fn x y (h.fn x y e), fun x y e => k.K x y (h.K x y e)⟩

def CapRel (x : Blk) (o : Nat) : Cap → Nat → Prop
  | .ex k, c => c = k
  | .te sz, c => x.base + o + c * sz = x.lim

def bytesOf (s : ByteArray) : List Nat := s.data.toList.map UInt8.toNat

/-- The same, of no block by name. -/
def Mp.bare (m : Mp) : Mp := ⟨fun _ => none, m.K⟩
theorem Mp.bare_le (m : Mp) : m.bare.le m := ⟨(fun _ _ h => by cases h), fun _ _ h => h⟩
theorem Mp.bare_mono {m m' : Mp} (h : ∀ c a, m.K c = some a → m'.K c = some a) : m.bare.le m'.bare := ⟨(fun _ _ h => by cases h), h⟩

mutual
inductive VRel : Mp → AV → Value → Prop
  | bool {m : Mp} (b : Bool) : VRel m (.bool b) (.bool b)
  | int {m : Mp} (k : IntKind) (n : Int) : VRel m (.int k n) (.int k n)
  | str {m : Mp} {s : ByteArray} {l : List Nat} (h : bytesOf s = l) : VRel m (.str l) (.string s)
  | ptr {m : Mp} {b o : Nat} {x : Blk} (h : m b = some x) : VRel m (.ptr b o) (.pointer (some ⟨x.c, x.base + o, none⟩))
  | nilPtr {m : Mp} : VRel m .nilPtr (.pointer none)
  | slice {m : Mp} {b o len : Nat} {cap : Cap} {x : Blk} {c : Nat} (h : m b = some x) (hc : CapRel x o cap c) (hl : len ≤ c) :
      VRel m (.slice b o len cap) (.slice (some ⟨x.c, x.base + o, none⟩) len c)
  | empty {m : Mp} (a : Addr) (c : Nat) : VRel m .empty (.slice (some a) 0 c)
  | nilSlice {m : Mp} : VRel m .nilSlice (.slice none 0 0)
  | map {m : Mp} {b : Nat} {x : Blk} (h : m b = some x) : VRel m (.map b) (.map (some x.c))
  | nilMap {m : Mp} : VRel m .nilMap (.map none)
  | func {m : Mp} (f : FuncId) {a c : List AV} {a' c' : Array Value} (ha : LRel m a a'.toList) (hc : LRel m c c'.toList) : VRel m (.func f a c) (.func (.func f) a' c')
  | yield {m : Mp} {l : Nat} {x : Blk} (h : m l = some x) : VRel m (.yield l) (.func (.yield x.c) #[] #[])
  | nilFunc {m : Mp} : VRel m .nilFunc .nilFunc
  | iface {m : Mp} (t : TypeId) {v : AV} {v' : Value} (h : VRel m v v') : VRel m (.iface t v) (.iface t v')
  | nilIface {m : Mp} : VRel m .nilIface .nilIface
  | agg {m : Mp} {cs : List AV} {cs' : Array Value} (h : LRel m cs cs'.toList) : VRel m (.agg cs) (.agg cs')
  | tuple {m : Mp} {cs : List AV} {cs' : Array Value} (h : LRel m cs cs'.toList) : VRel m (.tuple cs) (.tuple cs')
  | lst {m : Mp} {n : Nat} {cs : List AV} {c o cap : Nat} {arr : Array Value} (hK : m.K c = some arr) (hb : o + cs.length ≤ arr.size) (hn : n ≤ cap) (hr : LRel m.bare cs ((arr.toList.drop o).take cs.length)) :
      VRel m (.lst n cs) (.slice (some ⟨c, o, none⟩) n cap)
  | lst0 {m : Mp} (a : Option Addr) (c : Nat) : VRel m (.lst 0 []) (.slice a 0 c)
  | fptr {m : Mp} {cs : List AV} {c o : Nat} {arr : Array Value} (hK : m.K c = some arr) (hb : o + cs.length ≤ arr.size) (hr : LRel m.bare cs ((arr.toList.drop o).take cs.length)) :
      VRel m (.fptr cs) (.pointer (some ⟨c, o, none⟩))
inductive LRel : Mp → List AV → List Value → Prop
  | nil {m : Mp} : LRel m [] []
  | cons {m : Mp} {v : AV} {v' : Value} {l : List AV} {l' : List Value} (h : VRel m v v') (t : LRel m l l') : LRel m (v :: l) (v' :: l')
end

mutual
theorem VRel.mono : ∀ {m m' : Mp} (_ : m.le m') {v : AV} {v' : Value}, VRel m v v' → VRel m' v v'
  | _, _, _, _, _, .bool b => .bool b
  | _, _, _, _, _, .int k n => .int k n
  | _, _, _, _, _, .str h => .str h
  | _, _, hm, _, _, .ptr h => .ptr (hm _ _ h)
  | _, _, _, _, _, .nilPtr => .nilPtr
  | _, _, hm, _, _, .slice h hc hl => .slice (hm _ _ h) hc hl
  | _, _, _, _, _, .empty a c => .empty a c
  | _, _, _, _, _, .nilSlice => .nilSlice
  | _, _, hm, _, _, .map h => .map (hm _ _ h)
  | _, _, _, _, _, .nilMap => .nilMap
  | _, _, hm, _, _, .func f ha hc => .func f (LRel.mono hm ha) (LRel.mono hm hc)
  | _, _, hm, _, _, .yield h => .yield (hm _ _ h)
  | _, _, _, _, _, .nilFunc => .nilFunc
  | _, _, hm, _, _, .iface t h => .iface t (VRel.mono hm h)
  | _, _, _, _, _, .nilIface => .nilIface
  | _, _, hm, _, _, .agg h => .agg (LRel.mono hm h)
  | _, _, hm, _, _, .tuple h => .tuple (LRel.mono hm h)
  | _, _, hm, _, _, .lst hK hb hn hr => .lst (hm.K _ _ hK) hb hn (LRel.mono (Mp.bare_mono hm.K) hr)
  | _, _, _, _, _, .lst0 a c => .lst0 a c
  | _, _, hm, _, _, .fptr hK hb hr => .fptr (hm.K _ _ hK) hb (LRel.mono (Mp.bare_mono hm.K) hr)
theorem LRel.mono : ∀ {m m' : Mp} (_ : m.le m') {v : List AV} {v' : List Value}, LRel m v v' → LRel m' v v'
  | _, _, _, _, _, .nil => .nil
  | _, _, hm, _, _, .cons h t => .cons (VRel.mono hm h) (LRel.mono hm t)
end

section lrel
variable {m : Mp}
theorem LRel.length : ∀ {l : List AV} {l' : List Value}, LRel m l l' → l'.length = l.length
  | _, _, .nil => rfl
  | _, _, .cons _ t => by simp [LRel.length t]
theorem LRel.get : ∀ {l : List AV} {l' : List Value}, LRel m l l' → ∀ {i : Nat} {v : AV}, l[i]? = some v → ∃ v', l'[i]? = some v' ∧ VRel m v v'
  | _, _, .nil, i, v, h => by simp at h
  | _, _, .cons (v := x) (v' := x') (l := xs) (l' := xs') h0 t, i, v, h => by
    cases i with
    | zero => simp at h; subst h; exact ⟨x', by simp, h0⟩
    | succ i => simp at h; obtain ⟨v', e, r⟩ := LRel.get t h; exact ⟨v', by simpa using e, r⟩
theorem LRel.getD {l : List AV} {l' : List Value} (h : LRel m l l') (i : Nat) {d : AV} {d' : Value} (hd : VRel m d d') : VRel m (l.getD i d) (l'.getD i d') := by
  rw [List.getD_eq_getElem?_getD, List.getD_eq_getElem?_getD]
  cases e : l[i]? with
  | none =>
    have : l'[i]? = none := by
      rw [List.getElem?_eq_none_iff] at e ⊢
      rw [h.length]; exact e
    simp [this, hd]
  | some v => obtain ⟨v', e', r⟩ := h.get e; simp [e', r]
theorem LRel.of_get : ∀ {l : List AV} {l' : List Value}, l'.length = l.length → (∀ (i : Nat) (v : AV), l[i]? = some v → ∃ v' : Value, l'[i]? = some v' ∧ VRel m v v') → LRel m l l'
  | [], l', hl, _ => by simp at hl; subst hl; exact .nil
  | v :: l, [], hl, _ => by simp at hl
  | v :: l, v' :: l', hl, h => by
    obtain ⟨x, hx, r⟩ := h 0 v (by simp)
    simp at hx; subst hx
    exact .cons r (LRel.of_get (by simpa using hl) fun i w hw => by
      obtain ⟨y, hy, ry⟩ := h (i + 1) w (by simpa using hw)
      exact ⟨y, by simpa using hy, ry⟩)
theorem LRel.append : ∀ {l : List AV} {l' : List Value} {k : List AV} {k' : List Value}, LRel m l l' → LRel m k k' → LRel m (l ++ k) (l' ++ k')
  | _, _, _, _, .nil, h => h
  | _, _, _, _, .cons h t, h2 => .cons h (LRel.append t h2)
theorem LRel.take (n : Nat) : ∀ {l : List AV} {l' : List Value}, LRel m l l' → LRel m (l.take n) (l'.take n) := by
  induction n with
  | zero => intro l l' _; simp; exact .nil
  | succ n ih =>
    intro l l' h
    cases h with
    | nil => simp; exact .nil
    | cons h t => simp; exact .cons h (ih t)
theorem LRel.drop (n : Nat) : ∀ {l : List AV} {l' : List Value}, LRel m l l' → LRel m (l.drop n) (l'.drop n) := by
  induction n with
  | zero => intro l l' h; simpa using h
  | succ n ih =>
    intro l l' h
    cases h with
    | nil => simp; exact .nil
    | cons h t => simp; exact ih t
theorem LRel.replicate {v : AV} {v' : Value} (h : VRel m v v') (n : Nat) : LRel m (List.replicate n v) (List.replicate n v') := by
  induction n with
  | zero => exact .nil
  | succ n ih => exact .cons h ih
theorem LRel.set {v : AV} {v' : Value} (hv : VRel m v v') : ∀ {l : List AV} {l' : List Value}, LRel m l l' → ∀ (i : Nat), LRel m (l.set i v) (l'.set i v')
  | _, _, .nil, i => by simp; exact .nil
  | _, _, .cons h t, 0 => .cons hv t
  | _, _, .cons h t, i + 1 => .cons h (LRel.set hv t i)
end lrel
end Go.Ev
