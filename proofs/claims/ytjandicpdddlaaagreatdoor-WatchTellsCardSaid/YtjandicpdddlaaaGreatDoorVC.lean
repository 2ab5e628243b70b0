/-
  Walks over written-out states, part C. No condition of its own.
-/
import Derived.Test.YtjandicpdddlaaaGreatDoorVB
namespace Go.Ev
noncomputable section

/-! ### What a value has to do with a block -/
mutual
def AV.men (b : Nat) : AV → Bool
  | .ptr c _ => Nat.beq c b
  | .slice c _ _ _ => Nat.beq c b
  | .map c => Nat.beq c b
  | .yield c => Nat.beq c b
  | .func _ x y => match AV.menL b x with | true => true | false => AV.menL b y
  | .iface _ v => AV.men b v
  | .agg l => AV.menL b l
  | .tuple l => AV.menL b l
  | _ => false
def AV.menL (b : Nat) : List AV → Bool
  | [] => false
  | v :: l => match AV.men b v with | true => true | false => AV.menL b l
end
/-- The same map but at one block. -/
structure Mp.but (b : Nat) (m m' : Mp) : Prop where
  fn : ∀ k x, k ≠ b → m k = some x → m' k = some x
  K : ∀ c a, m.K c = some a → m'.K c = some a
theorem men_func {b : Nat} {f : FuncId} {x y : List AV} (e : AV.men b (.func f x y) = false) : AV.menL b x = false ∧ AV.menL b y = false := by
  have e' : (match AV.menL b x with | true => true | false => AV.menL b y) = false := e
  cases hx : AV.menL b x with
  | true => rw [hx] at e'; cases e'
  | false => rw [hx] at e'; exact ⟨rfl, e'⟩
theorem men_cons {b : Nat} {x : AV} {y : List AV} (e : AV.menL b (x :: y) = false) : AV.men b x = false ∧ AV.menL b y = false := by
  have e' : (match AV.men b x with | true => true | false => AV.menL b y) = false := e
  cases hx : AV.men b x with
  | true => rw [hx] at e'; cases e'
  | false => rw [hx] at e'; exact ⟨rfl, e'⟩
theorem exists_least {p : Nat → Prop} (h : ∃ n, p n) : ∃ n, p n ∧ ∀ k, p k → n ≤ k := by
  obtain ⟨n, hn⟩ := h
  induction n using Nat.strongRecOn with
  | _ n ih =>
    by_cases hl : ∃ k, k < n ∧ p k
    · obtain ⟨k, hk, hp⟩ := hl; exact ih k hk hp
    · exact ⟨n, hn, fun k hk => by
        rcases Nat.lt_or_ge k n with h | h
        · exact absurd ⟨k, h, hk⟩ hl
        · exact h⟩
mutual
theorem VRel.but {b : Nat} {m m' : Mp} (hm : Mp.but b m m') : ∀ (v : AV) {v' : Value}, AV.men b v = false → VRel m v v' → VRel m' v v'
  | .bool _, _, _, h => by cases h; exact .bool _
  | .int _ _, _, _, h => by cases h; exact .int _ _
  | .str _, _, _, h => by cases h with | str h => exact .str h
  | .ptr _ _, _, e, h => by cases h with | ptr h => exact .ptr (hm.fn _ _ (beq_ne e) h)
  | .nilPtr, _, _, h => by cases h; exact .nilPtr
  | .slice _ _ _ _, _, e, h => by cases h with | slice h hc hl => exact .slice (hm.fn _ _ (beq_ne e) h) hc hl
  | .empty, _, _, h => by cases h; exact .empty _ _
  | .nilSlice, _, _, h => by cases h; exact .nilSlice
  | .map _, _, e, h => by cases h with | map h => exact .map (hm.fn _ _ (beq_ne e) h)
  | .nilMap, _, _, h => by cases h; exact .nilMap
  | .func _ x y, _, e, h => by
    cases h with | func f ha hc => exact .func _ (LRel.but hm x (men_func e).1 ha) (LRel.but hm y (men_func e).2 hc)
  | .yield _, _, e, h => by cases h with | yield h => exact .yield (hm.fn _ _ (beq_ne e) h)
  | .nilFunc, _, _, h => by cases h; exact .nilFunc
  | .iface _ v, _, e, h => by
    cases h with | iface _ h => exact .iface _ (VRel.but hm v e h)
  | .nilIface, _, _, h => by cases h; exact .nilIface
  | .agg l, _, e, h => by
    cases h with | agg h => exact .agg (LRel.but hm l e h)
  | .tuple l, _, e, h => by
    cases h with | tuple h => exact .tuple (LRel.but hm l e h)
  | .lst _ _, _, _, h => by
    cases h with
    | lst hK hb hn hr => exact .lst (hm.K _ _ hK) hb hn (LRel.mono (Mp.bare_mono hm.K) hr)
    | lst0 a c => exact .lst0 a c
  | .fptr _, _, _, h => by cases h with | fptr hK hb hr => exact .fptr (hm.K _ _ hK) hb (LRel.mono (Mp.bare_mono hm.K) hr)
theorem LRel.but {b : Nat} {m m' : Mp} (hm : Mp.but b m m') : ∀ (v : List AV) {v' : List Value}, AV.menL b v = false → LRel m v v' → LRel m' v v'
  | [], _, _, h => by cases h; exact .nil
  | x :: y, _, e, h => by
    cases h with | cons h t => exact .cons (VRel.but hm x (men_cons e).1 h) (LRel.but hm y (men_cons e).2 t)
end
def menS (b : Nat) : Sl → Bool
  | [] => false
  | (_, none) :: l => menS b l
  | (_, some v) :: l => match AV.men b v with | true => true | false => menS b l
def menO (b : Nat) : AObj → Bool
  | .cells cs _ _ => AV.menL b cs
  | .map _ _ => true
  | .loop _ _ _ _ _ _ _ => true
  | .dfr _ => false
def menH (b : Nat) : Ls → Bool
  | [] => false
  | (_, o) :: l => match menO b o with | true => true | false => menH b l
theorem ORel.but {b : Nat} {m m' : Mp} (hm : Mp.but b m m') {o : AObj} {x : Blk} {c : Obj} (e : menO b o = false) (h : ORel m o x c) : ORel m' o x c := by
  cases o with
  | cells cs wr op => cases c <;> first | exact h.elim | exact ⟨h.1, h.2.1, h.2.2.1, LRel.but hm _ e h.2.2.2.1, h.2.2.2.2⟩
  | map es clock => cases e
  | loop st pend T params asg body df => cases e
  | dfr live => cases c <;> first | exact h.elim | exact h
theorem menS_get {b : Nat} : ∀ {S : Sl} {i : Nat} {v : AV}, menS b S = false → sget S i = some v → AV.men b v = false
  | [], i, v, _, h => by cases h
  | (k, none) :: l, i, v, e, h => by
    rw [sget_cons] at h
    by_cases hi : i = k
    · rw [if_pos hi] at h; cases h
    · rw [if_neg hi] at h; exact menS_get (S := l) e h
  | (k, some u) :: l, i, v, e, h => by
    have e' : (match AV.men b u with | true => true | false => menS b l) = false := e
    cases hx : AV.men b u with
    | true => rw [hx] at e'; cases e'
    | false =>
      rw [hx] at e'
      rw [sget_cons] at h
      by_cases hi : i = k
      · rw [if_pos hi] at h; cases h; exact hx
      · rw [if_neg hi] at h; exact menS_get (S := l) e' h
theorem menH_get {b : Nat} : ∀ {L : Ls} {i : Nat} {o : AObj}, menH b L = false → hget L i = some o → menO b o = false
  | [], i, v, _, h => by cases h
  | (k, u) :: l, i, v, e, h => by
    have e' : (match menO b u with | true => true | false => menH b l) = false := e
    cases hx : menO b u with
    | true => rw [hx] at e'; cases e'
    | false =>
      rw [hx] at e'
      rw [hget_cons] at h
      by_cases hi : i = k
      · rw [if_pos hi] at h; cases h; exact hx
      · rw [if_neg hi] at h; exact menH_get (L := l) e' h
theorem SRel.but {b : Nat} {m m' : Mp} (hm : Mp.but b m m') {S : Sl} {a : Act} (e : menS b S = false) (s : SRel m S a) : SRel m' S a := ⟨fun i v hv => VRel.but hm _ (menS_get e hv) (s.get i v hv)⟩

/-! ### The rest of a function, written out -/
inductive It2 where
  | code (c : Code)
  | blk (id : Nat)
  | back (J : Sl → Ls → Prop)
abbrev Fin := AEx → Sl → Ls → Prop

def GoodJ (sz : Nat) (m0 : Mp) (L0 : Ls) (w0 : World) (J : Sl → Ls → Prop) : Act → World → Prop := fun a w =>
  ∃ S L m, J S L ∧ Fr m0 L0 w0 m L w ∧ St m L w ∧ SRel m S a ∧ a.tmps.size = sz ∧ a.defers = []
def Ends (sz : Nat) (m0 : Mp) (L0 : Ls) (w0 : World) (K : Fin) : Exit → Act → World → Prop := fun e a w =>
  ∃ ex S L m, K ex S L ∧ Fr m0 L0 w0 m L w ∧ St m L w ∧ SRel m S a ∧ a.tmps.size = sz ∧ a.defers = [] ∧ ExRel m ex e
def wpK (F : Fence) (n : Nat) (P : Program) (G : (Sl → Ls → Prop) → Act → World → Prop) (Q : Exit → Act → World → Prop) : List It2 → Exit → Act → World → Prop
  | [], e => Q e
  | .code c :: st, .normal => c.wpIn F n P (wpK F n P G Q st)
  | .code _ :: st, e => wpK F n P G Q st e
  | .blk id :: st, .exit id' => if id' = id then wpK F n P G Q st .normal else wpK F n P G Q st (.exit id')
  | .blk _ :: st, e => wpK F n P G Q st e
  | .back J :: _, .normal => G J
  | .back _ :: st, e => wpK F n P G Q st e

/-- The rest of a function, left by 'e', ends as K says. -/
def TT (P : Program) (GT : GTab) (sz : Nat) (st : List It2) (e : AEx) (S : Sl) (L : Ls) (K : Fin) : Prop :=
  ∀ (m : Mp) (w : World) (a : Act) (lo : Option Nat) (n : Nat) (m0 : Mp) (L0 : Ls) (w0 : World), GOk GT m0 → Fr m0 L0 w0 m L w → St m L w → SRel m S a → a.tmps.size = sz → a.defers = [] →
    ∀ e', ExRel m e e' → wpK (Wd lo) n P (GoodJ sz m0 L0 w0) (Ends sz m0 L0 w0 K) st e' a w
/-- The same within a region in the text's order. -/
def TO (P : Program) (GT : GTab) (sz : Nat) (ops : Array Oper) (rest : List Oper) (st : List It2) (S : Sl) (L : Ls) (K : Fin) : Prop :=
  ∀ (m : Mp) (w : World) (a : Act) (lo : Option Nat) (n : Nat) (m0 : Mp) (L0 : Ls) (w0 : World), GOk GT m0 → Fr m0 L0 w0 m L w → St m L w → SRel m S a → a.tmps.size = sz → a.defers = [] →
    wpListIn (Wd lo) n P ops (wpK (Wd lo) n P (GoodJ sz m0 L0 w0) (Ends sz m0 L0 w0 K) st) rest a w

section
variable {P : Program} {GT : GTab} {sz : Nat} {st : List It2} {S : Sl} {L : Ls} {K : Fin} {e : AEx}

theorem TT.nil (h : K e S L) : TT P GT sz [] e S L K := fun m w a _ _ m0 L0 w0 hG f H s hz hd _ he => ⟨e, S, L, m, h, f, H, s, hz, hd, he⟩
theorem TT.seq {x y : Code} (h : TT P GT sz (.code x :: .code y :: st) .normal S L K) : TT P GT sz (.code (.seq x y) :: st) .normal S L K := by
  intro m w a lo n m0 L0 w0 hG f H s hz hd e' he
  cases he
  refine wpIn_seq ?_
  refine wpIn_mono (h m w a lo n m0 L0 w0 hG f H s hz hd _ .normal) ?_
  intro e a w hp
  cases e <;> exact hp
theorem TT.skip (h : TT P GT sz st .normal S L K) : TT P GT sz (.code .skip :: st) .normal S L K := by
  intro m w a lo n m0 L0 w0 hG f H s hz hd e' he
  cases he
  exact wpIn_skip (h m w a lo n m0 L0 w0 hG f H s hz hd _ .normal)
theorem TT.cond {c : Operand} {x y : Code} {b : Bool} (hc : sev GT S c = some (.bool b)) (hx : b = true → TT P GT sz (.code x :: st) .normal S L K) (hy : b = false → TT P GT sz (.code y :: st) .normal S L K) :
    TT P GT sz (.code (.cond c x y) :: st) .normal S L K := by
  intro m w a lo n m0 L0 w0 hG f H s hz hd e' he
  cases he
  have hv := sev_sound (hG.mono f.K) s hc
  have hb : a.eval c = .bool b := by generalize a.eval c = c' at hv ⊢; cases hv; rfl
  exact wpIn_cond_split hb (fun hb => hx hb m w a lo n m0 L0 w0 hG f H s hz hd _ .normal) (fun hb => hy hb m w a lo n m0 L0 w0 hG f H s hz hd _ .normal)
theorem TT.block {id : Nat} {x : Code} (h : TT P GT sz (.code x :: .blk id :: st) .normal S L K) : TT P GT sz (.code (.block id x) :: st) .normal S L K := by
  intro m w a lo n m0 L0 w0 hG f H s hz hd e' he
  cases he
  refine wpIn_block ?_
  refine wpIn_mono (h m w a lo n m0 L0 w0 hG f H s hz hd _ .normal) ?_
  intro e a w hp
  cases e <;> first | exact hp | skip
  rename_i id'
  show (if id' = id then _ else _)
  by_cases hi : id' = id
  · rw [if_pos hi]
    have hp' : (if id' = id then wpK (Wd lo) n P (GoodJ sz m0 L0 w0) (Ends sz m0 L0 w0 K) st .normal else wpK (Wd lo) n P (GoodJ sz m0 L0 w0) (Ends sz m0 L0 w0 K) st (.exit id')) a w := hp
    rw [if_pos hi] at hp'; exact hp'
  · rw [if_neg hi]
    have hp' : (if id' = id then wpK (Wd lo) n P (GoodJ sz m0 L0 w0) (Ends sz m0 L0 w0 K) st .normal else wpK (Wd lo) n P (GoodJ sz m0 L0 w0) (Ends sz m0 L0 w0 K) st (.exit id')) a w := hp
    rw [if_neg hi] at hp'; exact hp'
theorem TT.blkEnd {id : Nat} (h : TT P GT sz st .normal S L K) : TT P GT sz (.blk id :: st) .normal S L K := by
  intro m w a lo n m0 L0 w0 hG f H s hz hd e' he
  cases he
  exact h m w a lo n m0 L0 w0 hG f H s hz hd _ .normal
theorem TT.exit {id : Nat} (h : TT P GT sz st (.exit id) S L K) : TT P GT sz (.code (.exit id) :: st) .normal S L K := by
  intro m w a lo n m0 L0 w0 hG f H s hz hd e' he
  cases he
  exact wpIn_exit (h m w a lo n m0 L0 w0 hG f H s hz hd _ (.exit id))
theorem TT.ret (h : TT P GT sz st .ret S L K) : TT P GT sz (.code .ret :: st) .normal S L K := by
  intro m w a lo n m0 L0 w0 hG f H s hz hd e' he
  cases he
  exact wpIn_ret (h m w a lo n m0 L0 w0 hG f H s hz hd _ .ret)
theorem TT.exitHere {id : Nat} (h : TT P GT sz st .normal S L K) : TT P GT sz (.blk id :: st) (.exit id) S L K := by
  intro m w a lo n m0 L0 w0 hG f H s hz hd e' he
  cases he
  unfold wpK
  rw [if_pos rfl]
  exact h m w a lo n m0 L0 w0 hG f H s hz hd _ .normal
theorem TT.exitOn {id id' : Nat} (hn : Nat.beq id' id = false) (h : TT P GT sz st (.exit id') S L K) : TT P GT sz (.blk id :: st) (.exit id') S L K := by
  intro m w a lo n m0 L0 w0 hG f H s hz hd e' he
  cases he
  unfold wpK
  rw [if_neg (beq_ne hn)]
  exact h m w a lo n m0 L0 w0 hG f H s hz hd _ (.exit id')
theorem TT.exitCode {id : Nat} {c : Code} (h : TT P GT sz st (.exit id) S L K) : TT P GT sz (.code c :: st) (.exit id) S L K := by
  intro m w a lo n m0 L0 w0 hG f H s hz hd e' he
  cases he
  exact h m w a lo n m0 L0 w0 hG f H s hz hd _ (.exit id)
theorem TT.exitBack {id : Nat} {J : Sl → Ls → Prop} (h : TT P GT sz st (.exit id) S L K) : TT P GT sz (.back J :: st) (.exit id) S L K := by
  intro m w a lo n m0 L0 w0 hG f H s hz hd e' he
  cases he
  exact h m w a lo n m0 L0 w0 hG f H s hz hd _ (.exit id)
/-- A return leaves all. -/
theorem TT.retAll : ∀ {st : List It2}, K .ret S L → TT P GT sz st .ret S L K
  | [], h => TT.nil h
  | .code c :: st, h => by
    intro m w a lo n m0 L0 w0 hG f H s hz hd e' he
    cases he
    exact TT.retAll (st := st) h m w a lo n m0 L0 w0 hG f H s hz hd _ .ret
  | .blk id :: st, h => by
    intro m w a lo n m0 L0 w0 hG f H s hz hd e' he
    cases he
    exact TT.retAll (st := st) h m w a lo n m0 L0 w0 hG f H s hz hd _ .ret
  | .back J :: st, h => by
    intro m w a lo n m0 L0 w0 hG f H s hz hd e' he
    cases he
    exact TT.retAll (st := st) h m w a lo n m0 L0 w0 hG f H s hz hd _ .ret

theorem TT.region {id : Nat} {ops : Array Oper} (h : TO P GT sz ops ops.toList st S L K) : TT P GT sz (.code (.region id ops false) :: st) .normal S L K := by
  intro m w a lo n m0 L0 w0 hG f H s hz hd e' he
  cases he
  exact wpIn_region_list (h m w a lo n m0 L0 w0 hG f H s hz hd)
theorem TO.nil {ops : Array Oper} (h : TT P GT sz st .normal S L K) : TO P GT sz ops [] st S L K :=
  fun m w a lo n m0 L0 w0 hG f H s hz hd => h m w a lo n m0 L0 w0 hG f H s hz hd _ .normal

/-! ### Less is kept -/
def subS : Sl → Sl → Prop
  | [], _ => True
  | (i, v) :: l, S => sget S i = v ∧ subS l S
def subH : Ls → Ls → Prop
  | [], _ => True
  | (b, o) :: l, L => hget L b = some o ∧ subH l L
theorem subS_get : ∀ {S' S : Sl}, subS S' S → ∀ i v, sget S' i = some v → sget S i = some v
  | [], _, _, i, v, h => by cases h
  | (k, u) :: l, S, ⟨h1, h2⟩, i, v, h => by
    rw [sget_cons] at h
    by_cases e : i = k
    · rw [if_pos e] at h; rw [e, h1]; exact h
    · rw [if_neg e] at h; exact subS_get h2 i v h
theorem subH_get : ∀ {L' L : Ls}, subH L' L → ∀ b o, hget L' b = some o → hget L b = some o
  | [], _, _, i, v, h => by cases h
  | (k, u) :: l, S, ⟨h1, h2⟩, i, v, h => by
    rw [hget_cons] at h
    by_cases e : i = k
    · rw [if_pos e] at h; rw [e, h1]; exact h
    · rw [if_neg e] at h; exact subH_get h2 i v h
theorem TT.less {S' : Sl} {L' : Ls} (hS : subS S' S) (hL : subH L' L) (h : TT P GT sz st e S' L' K) : TT P GT sz st e S L K :=
  fun m w a lo n m0 L0 w0 hG f H s hz hd e' he => h m w a lo n m0 L0 w0 hG (f.less (subH_get hL)) (H.less (subH_get hL)) (s.less (subS_get hS)) hz hd e' he
theorem TT.lessS {S' : Sl} (hS : subS S' S) (h : TT P GT sz st e S' L K) : TT P GT sz st e S L K :=
  fun m w a lo n m0 L0 w0 hG f H s hz hd e' he => h m w a lo n m0 L0 w0 hG f H (s.less (subS_get hS)) hz hd e' he

/-! ### Loops -/
theorem TT.back {J : Sl → Ls → Prop} (h : J S L) : TT P GT sz (.back J :: st) .normal S L K := by
  intro m w a lo n m0 L0 w0 hG f H s hz hd e' he
  cases he
  exact ⟨S, L, m, h, f, H, s, hz, hd⟩
theorem TT.backLess {J : Sl → Ls → Prop} (S' : Sl) (L' : Ls) (hS : subS S' S) (hL : subH L' L) (h : J S' L') : TT P GT sz (.back J :: st) .normal S L K := TT.less hS hL (TT.back h)
open Classical in
theorem TT.loop {x : Code} (I : Nat → Sl → Ls → Prop) (j0 : Nat) (h0 : I j0 S L)
    (hr : ∀ j S L, I j S L → TT P GT sz (.code x :: .back (fun S' L' => ∃ j', j' < j ∧ I j' S' L') :: st) .normal S L K) : TT P GT sz (.code (.loop x) :: st) .normal S L K := by
  intro m w a lo n m0 L0 w0 hG f H s hz hd e' he
  cases he
  let Inv : Nat → Act → World → Prop := fun j => GoodJ sz m0 L0 w0 (I j)
  let mu : Act → World → Nat := fun a w => if h : ∃ j, Inv j a w then Classical.choose (exists_least h) else 0
  refine wpIn_loop (fun a w => ∃ j, Inv j a w) mu ⟨j0, S, L, m, h0, f, H, s, hz, hd⟩ ?_
  intro a1 w1 hI
  obtain ⟨⟨S1, L1, m1, g0, g1, g2, g3, g4, g5⟩, hmin⟩ := Classical.choose_spec (exists_least hI)
  refine wpIn_mono (hr _ S1 L1 g0 m1 w1 a1 lo n m0 L0 w0 hG g1 g2 g3 g4 g5 _ .normal) ?_
  intro e a2 w2 hp
  cases e <;> first | exact hp | skip
  obtain ⟨S2, L2, m2, ⟨j', hj, k0⟩, k1, k2, k3, k4, k5⟩ := hp
  have hI2 : ∃ j, Inv j a2 w2 := ⟨j', S2, L2, m2, k0, k1, k2, k3, k4, k5⟩
  refine ⟨hI2, ?_⟩
  show (if h : ∃ j, Inv j a2 w2 then Classical.choose (exists_least h) else 0) < (if h : ∃ j, Inv j a1 w1 then Classical.choose (exists_least h) else 0)
  rw [dif_pos hI2, dif_pos hI]
  exact Nat.lt_of_le_of_lt ((Classical.choose_spec (exists_least hI2)).2 j' ⟨S2, L2, m2, k0, k1, k2, k3, k4, k5⟩) hj
end
end
end Go.Ev
