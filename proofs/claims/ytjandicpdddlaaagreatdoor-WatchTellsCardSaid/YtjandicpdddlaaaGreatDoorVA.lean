/-
  Walks over written-out states, part A. No condition of its own.
-/
import Derived.Test.YtjandicpdddlaaaGreatDoorEvAE
import Derived.TacticsIn
namespace Go.Ev
noncomputable section

/-! ### Slots and heaps that are written out -/
abbrev Sl := List (Nat × Option AV)
def sget : Sl → Nat → Option AV
  | [], _ => none
  | (k, v) :: l, i => match Nat.beq i k with
    | true => v
    | false => sget l i
abbrev Ls := List (Nat × AObj)
def hget : Ls → Nat → Option AObj
  | [], _ => none
  | (k, o) :: l, i => match Nat.beq i k with
    | true => some o
    | false => hget l i
def hset : Ls → Nat → AObj → Ls
  | [], _, _ => []
  | (k, x) :: l, b, o => match Nat.beq b k with
    | true => (k, o) :: l
    | false => (k, x) :: hset l b o
theorem beq_iff (a b : Nat) : Nat.beq a b = decide (a = b) := nat_beq a b
theorem sget_cons (k : Nat) (v : Option AV) (l : Sl) (i : Nat) : sget ((k, v) :: l) i = if i = k then v else sget l i := by
  simp only [sget, beq_iff]; by_cases h : i = k <;> simp [h]
theorem hget_cons (k : Nat) (o : AObj) (l : Ls) (i : Nat) : hget ((k, o) :: l) i = if i = k then some o else hget l i := by
  simp only [hget, beq_iff]; by_cases h : i = k <;> simp [h]
theorem hget_hset : ∀ (L : Ls) (b : Nat) (o : AObj) (i : Nat), hget (hset L b o) i = if i = b then (hget L b).map (fun _ => o) else hget L i
  | [], b, o, i => by simp [hset, hget]
  | (k, x) :: l, b, o, i => by
    simp only [hset, beq_iff]
    by_cases h : b = k
    · subst h
      simp only [decide_true, hget_cons]
      by_cases h2 : i = b <;> simp [h2]
    · simp only [h, decide_false, hget_cons, hget_hset l b o i]
      by_cases h2 : i = b
      · subst h2; simp [h]
      · simp [h2]
def toTr (L : Ls) : Tr AObj := L.foldr (fun x t => t.set x.2 x.1) .leaf
theorem toTr_get : ∀ (L : Ls) (i : Nat), (toTr L).get i = hget L i
  | [], i => Tr.get_leaf i
  | (k, o) :: l, i => by
    show ((toTr l).set o k).get i = _
    rw [Tr.get_set, hget_cons, toTr_get l i]

/-! ### What a written-out state says of a real one -/
structure SRel (m : Mp) (S : Sl) (a : Act) : Prop where
  get : ∀ i v, sget S i = some v → VRel m v (a.tmps.getD i undef)

/-- The heap of a written-out state. -/
structure St (m : Mp) (L : Ls) (w : World) : Prop where
  dom : ∃ N, ∀ b x, m b = some x → b < N
  bnd : ∀ b x, m b = some x → x.c < w.heap.size
  obj : ∀ b o, hget L b = some o → ∃ x c, m b = some x ∧ w.heap[x.c]? = some c ∧ ORel m o x c
  inj : ∀ b b' o o' x x', hget L b = some o → hget L b' = some o' → m b = some x → m b' = some x' → x.c = x'.c → b = b'
  frz : ∀ c a, m.K c = some a → (∃ e fr, w.heap[c]? = some (.cells a e fr)) ∧ ∀ b o x, hget L b = some o → m b = some x → x.c = c → o.ro = true

theorem St.hrel {m : Mp} {L : Ls} {w : World} (s : St m L w) : ∃ N, HRel m ⟨toTr L, N, 0⟩ w := by
  obtain ⟨N, hN⟩ := s.dom
  exact ⟨N, hN, s.bnd, fun b o hb => s.obj b o (by rw [← toTr_get]; exact hb), fun b b' o o' x x' h1 h2 => s.inj b b' o o' x x' (by rw [← toTr_get]; exact h1) (by rw [← toTr_get]; exact h2),
    (fun g hg => absurd hg (Nat.not_lt_zero g)), fun c a hk => ⟨(s.frz c a hk).1, fun b o x hb => (s.frz c a hk).2 b o x (by rw [← toTr_get]; exact hb)⟩⟩
theorem St.of_hrel {m : Mp} {L : Ls} {h : Hp} {w : World} (H : HRel m h w) (hL : ∀ b o, hget L b = some o → h.get b = some o) : St m L w :=
  ⟨⟨h.next, H.dom⟩, H.bnd, fun b o hb => H.obj b o (hL _ _ hb), fun b b' o o' x x' h1 h2 => H.inj b b' o o' x x' (hL _ _ h1) (hL _ _ h2),
    fun c a hk => ⟨(H.frz c a hk).1, fun b o x hb => (H.frz c a hk).2 b o x (hL _ _ hb)⟩⟩

/-- What became of the world since some beginning. -/
structure Fr (m : Mp) (L : Ls) (w : World) (m' : Mp) (L' : Ls) (w' : World) : Prop where
  K : ∀ c a, m.K c = some a → m'.K c = some a
  os : w'.os = w.os
  tape : w'.tape = w.tape
  output : w'.output = w.output
  size : w.heap.size ≤ w'.heap.size
  kept : ∀ c, c < w.heap.size → (∀ b o x, hget L b = some o → o.ro = false → m b = some x → x.c ≠ c) → w'.heap[c]? = w.heap[c]?
  img : ∀ b o x, hget L' b = some o → o.ro = false → m' b = some x → x.c < w.heap.size → ∃ b' o' x', hget L b' = some o' ∧ o'.ro = false ∧ m b' = some x' ∧ x'.c = x.c
  kn : ∀ c a, m'.K c = some a → c < w.heap.size → (∀ b o x, hget L b = some o → o.ro = false → m b = some x → x.c ≠ c) → m.K c = some a

theorem Fr.refl (m : Mp) (L : Ls) (w : World) : Fr m L w m L w :=
  ⟨fun _ _ h => h, rfl, rfl, rfl, Nat.le_refl _, fun _ _ _ => rfl, fun b o x h1 h2 h3 _ => ⟨b, o, x, h1, h2, h3, rfl⟩, fun _ _ h _ _ => h⟩
theorem Fr.trans {m m1 m2 : Mp} {L L1 L2 : Ls} {w w1 w2 : World} (a : Fr m L w m1 L1 w1) (b : Fr m1 L1 w1 m2 L2 w2) : Fr m L w m2 L2 w2 where
  K := fun c r h => b.K c r (a.K c r h)
  os := b.os.trans a.os
  tape := b.tape.trans a.tape
  output := b.output.trans a.output
  size := Nat.le_trans a.size b.size
  kept := fun c hc hn => by
    rw [b.kept c (Nat.lt_of_lt_of_le hc a.size) ?_, a.kept c hc hn]
    intro k o x h1 h2 h3 e
    obtain ⟨b', o', x', g1, g2, g3, g4⟩ := a.img k o x h1 h2 h3 (e ▸ hc)
    exact hn b' o' x' g1 g2 g3 (g4.trans e)
  img := fun k o x h1 h2 h3 hx => by
    obtain ⟨b', o', x', g1, g2, g3, g4⟩ := b.img k o x h1 h2 h3 (Nat.lt_of_lt_of_le hx a.size)
    obtain ⟨b2, o2, x2, e1, e2, e3, e4⟩ := a.img b' o' x' g1 g2 g3 (g4 ▸ hx)
    exact ⟨b2, o2, x2, e1, e2, e3, e4.trans g4⟩
  kn := fun c r hk hc hn => a.kn c r (b.kn c r hk (Nat.lt_of_lt_of_le hc a.size) (fun k o x h1 h2 h3 e => by
    obtain ⟨b', o', x', g1, g2, g3, g4⟩ := a.img k o x h1 h2 h3 (e ▸ hc)
    exact hn b' o' x' g1 g2 g3 (g4.trans e))) hc hn

/-- From the evaluator's own relation. -/
theorem Fr.of_ext {m m1 : Mp} {L L1 : Ls} {h h1 : Hp} {w w1 : World} (E : Ext m h w m1 h1 w1) (H1 : HRel m1 h1 w1) (hl : ∀ b, h.get b = hget L b) (hl1 : ∀ b o, hget L1 b = some o → h1.get b = some o) : Fr m L w m1 L1 w1 where
  K := E.sub.K
  os := E.os
  tape := E.tape
  output := E.output
  size := E.size
  kept := fun c hc hn => by
    by_cases hro : ∃ b o x, h.get b = some o ∧ m b = some x ∧ x.c = c
    · obtain ⟨b, o, x, h1', h2, h3⟩ := hro
      cases ho : o.ro with
      | false => exact absurd h3 (hn b o x (by rw [← hl]; exact h1') ho h2)
      | true => rw [← h3]; exact (E.ro b o h1' ho).2 x h2
    · exact E.kept c hc (fun b o x h1' h2 h3 => hro ⟨b, o, x, h1', h2, h3⟩)
  img := fun b o x h1' h2 h3 hx => by
    obtain ⟨b', o', x', g1, g2, g3⟩ := E.img b o x (hl1 _ _ h1') h3 hx
    cases ho : o'.ro with
    | false => exact ⟨b', o', x', by rw [← hl]; exact g1, ho, g2, g3⟩
    | true =>
      exfalso
      obtain ⟨e1, _⟩ := E.ro b' o' g1 ho
      have := H1.inj _ _ _ _ _ _ e1 (hl1 _ _ h1') (E.sub _ _ g2) h3 g3
      subst this
      rw [hl1 _ _ h1'] at e1
      cases e1
      rw [h2] at ho; cases ho
  kn := fun c r hk _ _ => by rw [← E.kq]; exact hk

/-! ### Less is known -/
theorem St.less {m : Mp} {L L' : Ls} {w : World} (s : St m L w) (h : ∀ b o, hget L' b = some o → hget L b = some o) : St m L' w :=
  ⟨s.dom, s.bnd, fun b o hb => s.obj b o (h _ _ hb), fun b b' o o' x x' h1 h2 => s.inj b b' o o' x x' (h _ _ h1) (h _ _ h2), fun c a hk => ⟨(s.frz c a hk).1, fun b o x hb => (s.frz c a hk).2 b o x (h _ _ hb)⟩⟩
theorem Fr.less {m m1 : Mp} {L L1 L2 : Ls} {w w1 : World} (f : Fr m L w m1 L1 w1) (h : ∀ b o, hget L2 b = some o → hget L1 b = some o) : Fr m L w m1 L2 w1 :=
  ⟨f.K, f.os, f.tape, f.output, f.size, f.kept, fun b o x hb => f.img b o x (h _ _ hb), f.kn⟩
theorem SRel.less {m : Mp} {S S' : Sl} {a : Act} (s : SRel m S a) (h : ∀ i v, sget S' i = some v → sget S i = some v) : SRel m S' a := ⟨fun i v hv => s.get i v (h i v hv)⟩
theorem SRel.put {m : Mp} {S : Sl} {a : Act} (s : SRel m S a) {d : Nat} (hd : d < a.tmps.size) {v : AV} {v' : Value} (hv : VRel m v v') : SRel m ((d, some v) :: S) (a.put (some d) v') := by
  refine ⟨fun i u hu => ?_⟩
  rw [sget_cons] at hu
  show VRel m u ((a.tmps.setIfInBounds d v').getD i undef)
  by_cases h : i = d
  · subst h
    simp only [if_true, Option.some.injEq] at hu; subst hu
    simpa [Array.getD_eq_getD_getElem?, Array.getElem?_setIfInBounds, hd] using hv
  · rw [if_neg h] at hu
    have := s.get i u hu
    simpa [Array.getD_eq_getD_getElem?, Array.getElem?_setIfInBounds, Ne.symm h] using this
theorem SRel.drop {m : Mp} {S : Sl} {a : Act} (s : SRel m S a) (d : Nat) (v' : Value) : SRel m ((d, none) :: S) (a.put (some d) v') := by
  refine ⟨fun i u hu => ?_⟩
  rw [sget_cons] at hu
  by_cases h : i = d
  · rw [if_pos h] at hu; cases hu
  · rw [if_neg h] at hu
    have := s.get i u hu
    show VRel m u ((a.tmps.setIfInBounds d v').getD i undef)
    simpa [Array.getD_eq_getD_getElem?, Array.getElem?_setIfInBounds, Ne.symm h] using this
theorem put_size (a : Act) (d : Option Tmp) (v : Value) : (a.put d v).tmps.size = a.tmps.size := by
  cases d with
  | none => rfl
  | some d => show (a.tmps.setIfInBounds d v).size = _; simp
theorem SRel.mono {m m' : Mp} (hm : m.le m') {S : Sl} {a : Act} (s : SRel m S a) : SRel m' S a := ⟨fun i v hv => (s.get i v hv).mono hm⟩

/-! ### What the package-level variables hold for good -/
abbrev GTab := List (Nat × List AV)
def gget : GTab → Nat → Option (List AV)
  | [], _ => none
  | (k, v) :: l, i => match Nat.beq i k with
    | true => some v
    | false => gget l i
def GOk (GT : GTab) (m : Mp) : Prop := ∀ g cs, gget GT g = some cs → ∃ arr, m.K g = some arr ∧ cs.length ≤ arr.size ∧ LRel m.bare cs (arr.toList.take cs.length)
theorem GOk.mono {GT : GTab} {m m' : Mp} (h : GOk GT m) (hK : ∀ c a, m.K c = some a → m'.K c = some a) : GOk GT m' := fun g cs hg => by
  obtain ⟨arr, h1, h2, h3⟩ := h g cs hg
  exact ⟨arr, hK _ _ h1, h2, LRel.mono (Mp.bare_mono hK) h3⟩

/-! ### Operands -/
def sev (GT : GTab) (S : Sl) : Operand → Option AV
  | .tmp t => sget S t
  | .const v => ofV v
  | .global g => match gget GT g with | some cs => some (.fptr cs) | none => none
  | .func f => some (.func f [] [])
def sevs (GT : GTab) (S : Sl) : List Operand → Option (List AV)
  | [] => some []
  | x :: l => match sev GT S x with
    | some v => match sevs GT S l with
      | some k => some (v :: k)
      | none => none
    | none => none
def sevp (GT : GTab) (S : Sl) : List (Nat × Operand) → Option (List (Nat × AV))
  | [] => some []
  | (i, x) :: l => match sev GT S x with
    | some v => match sevp GT S l with
      | some k => some ((i, v) :: k)
      | none => none
    | none => none
def sevo (GT : GTab) (S : Sl) : Option Operand → Option (Option AV)
  | none => some none
  | some x => match sev GT S x with
    | some v => some (some v)
    | none => none
section
variable {GT : GTab} {m : Mp} {L : Ls} {w : World} {S : Sl} {a : Act}
theorem sev_sound (H : GOk GT m) (s : SRel m S a) {x : Operand} {V : AV} (he : sev GT S x = some V) : VRel m V (a.eval x) := by
  cases x with
  | tmp t => exact s.get t V he
  | const v => exact ofV_rel m v V he
  | global g =>
    simp only [sev] at he
    split at he
    · rename_i hg
      cases he
      obtain ⟨arr, h1, h2, h3⟩ := H g _ hg
      exact VRel.fptr (o := 0) h1 (by omega) (by simpa using h3)
    · cases he
  | func f => cases he; exact .func f .nil .nil
theorem sevs_sound (H : GOk GT m) (s : SRel m S a) : ∀ {l : List Operand} {k : List AV}, sevs GT S l = some k → LRel m k (l.map a.eval)
  | [], k, he => by simp [sevs] at he; subst he; exact .nil
  | x :: l, k, he => by
    simp only [sevs] at he
    split at he
    · rename_i v hv
      split at he
      · rename_i k' hk
        cases he
        exact .cons (sev_sound H s hv) (sevs_sound H s hk)
      · cases he
    · cases he
theorem sevp_sound (H : GOk GT m) (s : SRel m S a) : ∀ {l : List (Nat × Operand)} {k : List (Nat × AV)}, sevp GT S l = some k → PRel m k (l.map fun (i, x) => (i, a.eval x))
  | [], k, he => by simp [sevp] at he; subst he; exact .nil
  | (i, x) :: l, k, he => by
    simp only [sevp] at he
    split at he
    · rename_i v hv
      split at he
      · rename_i k' hk
        cases he
        exact .cons i (sev_sound H s hv) (sevp_sound H s hk)
      · cases he
    · cases he
theorem sevo_sound (H : GOk GT m) (s : SRel m S a) {x : Option Operand} {r : Option AV} (he : sevo GT S x = some r) : ORelV m r (x.map a.eval) := by
  cases x with
  | none => cases he; trivial
  | some x =>
    simp only [sevo] at he
    split at he
    · rename_i v hv; cases he; exact sev_sound H s hv
    · cases he
end
end
end Go.Ev
