/-
  An evaluator of runs and its soundness, part AC. No condition of its own.
-/
import Derived.Test.YtjandicpdddlaaaGreatDoorEvAB
namespace Go.Ev
noncomputable section

section
variable {P : Program} {e : Ev} {ops : Array Oper} {df : List ADef} {base : Nat} {ms : List Nat} {sis : List SI} {h1 : Hp} {its : List It} {Te : Tm} {He : Hp}

theorem Drawn.ucls (D : Drawn P e ops df base ms sis h1 its Te He) {k : Nat} {y : It} (hk : its[k]? = some y) {b : Nat} {ob : AObj} (hu : y.u = some (b, ob)) : (y.c = .new ∧ b = base + k) ∨ y.c = .store := by
  obtain ⟨_, _, a3, a4, _⟩ := D.it k y hk
  rcases step1_cases a4 with ⟨_, _, _, q1, q2⟩ | ⟨_, _, ⟨n, ob', _, q1, q2⟩ | ⟨n, b', ob', _, _, q1, q2⟩ | ⟨n1, n2, q1, q2⟩⟩
  · rw [hu] at q2; cases q2
  · rw [hu] at q2; cases q2; exact .inl ⟨n, rfl⟩
  · exact .inr n
  · rw [hu] at q2; cases q2
theorem Drawn.ord (D : Drawn P e ops df base ms sis h1 its Te He) {i j : Nat} {x y : It} (hij : i < j) (hi : its[i]? = some x) (hj : its[j]? = some y) (hf : free x.c y.c = false) : y.msk.testBit i = true := by
  cases hb : y.msk.testBit i with
  | true => rfl
  | false =>
    have h1 := ((D.ordered hij hi hj).2 hb).2.2
    obtain ⟨_, _, a3, _⟩ := D.it i x hi
    obtain ⟨_, _, b3, _⟩ := D.it j y hj
    rw [← a3, ← b3, hf] at h1
    cases h1
theorem Drawn.stage_ng (D : Drawn P e ops df base ms sis h1 its Te He) {c : Nat} {B : Hp} (h : StageAt its h1 c B) : B.ng = h1.ng := by
  rcases h with ⟨_, rfl⟩ | ⟨k, x, q1, _, _, rfl⟩
  · rfl
  · exact D.ng k x q1

structure InvAt (D : Drawn P e ops df base ms sis h1 its Te He) (T0 : Tm) (m0 : Mp) (h0 : Hp) (w0 : World) (m : Mp) (T : Tm) (c : Nat) (B : Hp) (L : Nat → Bool) (a : Act) (w : World) : Prop where
  down : Down ops L
  stage : StageAt its h1 c B
  bigs : ∀ (k : Nat) (x : It), its[k]? = some x → x.c = .big → (L k = true ↔ k < c)
  ts : TSpec its L T0 T
  tm : TmRel m T a.tmps
  df : DRel m df a.defers
  H : HRel m (join L c its 0 B) w
  E : Ext m0 h0 w0 m (join L c its 0 B) w
  room : base + ops.size ≤ B.next
  fresh : ∀ (j : Nat) (x : It), its[j]? = some x → x.c = .new → L j = false → m (base + j) = none

variable {D : Drawn P e ops df base ms sis h1 its Te He} {T0 : Tm} {m0 m : Mp} {h0 : Hp} {w0 w : World} {T : Tm} {c : Nat} {B : Hp} {L : Nat → Bool} {a : Act} {i : Nat} {x : It}

theorem AtL.down' (A : AtL D L i x) : Down ops (plus L i) := by
  have mono : ∀ {o : Oper}, Binds o L → Binds o (plus L i) := fun hb e he hbb => by
    have := hb e he hbb
    unfold plus
    split
    · rfl
    · exact this
  intro j o ho hL
  by_cases hj : j = i
  · subst hj
    obtain ⟨a1, _⟩ := D.it j x A.hi
    rw [a1] at ho; cases ho
    exact mono A.binds
  · exact mono (A.down j o ho (by simpa [plus, hj] using hL))
theorem AtL.bigs' (A : AtL D L i x) (I : InvAt D T0 m0 h0 w0 m T c B L a w) (hc : x.c ≠ .big) (k : Nat) (y : It) (hk : its[k]? = some y) (hy : y.c = .big) : plus L i k = true ↔ k < c := by
  have : k ≠ i := fun hh => by subst hh; rw [A.hi] at hk; cases hk; exact hc hy
  simp only [plus, this, if_false]
  exact I.bigs k y hk hy
theorem fin (A : AtL D L i x) (I : InvAt D T0 m0 h0 w0 m T c B L a w) (hx : TSpec its (fun k => decide (k < i)) T0 x.T) {m' : Mp} {c' : Nat} {B' : Hp} {w' : World} {nv : Value} (hs : StageAt its h1 c' B')
    (hb : ∀ (k : Nat) (y : It), its[k]? = some y → y.c = .big → (plus L i k = true ↔ k < c')) (hm : m.le m') (hv : VRel m' x.v nv) (H' : HRel m' (join (plus L i) c' its 0 B') w')
    (E' : Ext m0 h0 w0 m' (join (plus L i) c' its 0 B') w') (hr : base + ops.size ≤ B'.next) (hf : ∀ (j : Nat) (y : It), its[j]? = some y → y.c = .new → plus L i j = false → m' (base + j) = none) :
    ∃ m1 T1 c1 B1, InvAt D T0 m0 h0 w0 m1 T1 c1 B1 (plus L i) (a.put x.o.dst nv) w' := by
  obtain ⟨_, _, _, _, a5, _⟩ := D.it i x A.hi
  obtain ⟨T2, hT2⟩ := putA_sz (T' := T) a5 (I.ts.sz.trans hx.sz.symm)
  exact ⟨m', T2, c', B', A.down', hs, hb, I.ts.step D A.hi hT2, putA_sound (I.tm.mono hm) hv hT2, by rw [put_defers]; exact I.df.mono hm, H', E', hr, hf⟩
theorem same_plus_none {L : Nat → Bool} {c : Nat} {B : Hp} (hi : ∀ it, its[i]? = some it → it.u = none) : (join L c its 0 B).same (join (plus L i) c its 0 B) :=
  ⟨fun b => (join_plus_none hi b).symm, by rw [(join_next _ _ _ _ _).1, (join_next _ _ _ _ _).1], by rw [(join_next _ _ _ _ _).2, (join_next _ _ _ _ _).2]⟩
theorem same_plus_add {L : Nat → Bool} {c : Nat} {B : Hp} {b : Nat} {ob : AObj} (hi : its[i]? = some x) (hu : x.u = some (b, ob)) (hc : c ≤ i)
    (hl : ∀ k it' ob', i < k → its[k]? = some it' → it'.u = some (b, ob') → L k = false) : ((join L c its 0 B).set b ob).same (join (plus L i) c its 0 B) :=
  ⟨fun b' => by rw [join_add hi hu hc hl b', Hp.get_set], by rw [(join_next _ _ _ _ _).1]; exact (join_next _ _ _ _ _).1, by rw [(join_next _ _ _ _ _).2]; exact (join_next _ _ _ _ _).2⟩
/-- Nothing that comes later writes the same block and is listed. -/
theorem AtL.later (A : AtL D L i x) {b : Nat} {ob : AObj} (hu : x.u = some (b, ob)) (k : Nat) (y : It) (ob' : AObj) (hik : i < k) (hk : its[k]? = some y) (hy : y.u = some (b, ob')) : L k = false :=
  A.post hk (D.pairs i k x y b ob ob' hik A.hi hk hu hy).1
theorem AtL.cle (A : AtL D L i x) (I : InvAt D T0 m0 h0 w0 m T c B L a w) (hx : free x.c .big = false) (hb : x.c ≠ .big) : c ≤ i := by
  rcases I.stage with ⟨rfl, _⟩ | ⟨k, y, q1, q2, rfl, _⟩
  · exact Nat.zero_le _
  · have hL := (I.bigs k y q1 q2).2 (Nat.lt_succ_self k)
    rcases Nat.lt_trichotomy k i with h | h | h
    · omega
    · subst h; rw [A.hi] at q1; cases q1; exact absurd q2 hb
    · have := A.post q1 (D.ord h A.hi q1 (by rw [q2]; exact hx))
      rw [this] at hL; cases hL
theorem AtL.stageEq (A : AtL D L i x) (I : InvAt D T0 m0 h0 w0 m T c B L a w) {ci : Nat} {Bi : Hp} (X : TextAt its h1 i x.H ci Bi) (hx : x.c = .store ∨ x.c = .big) : c = ci ∧ B = Bi := by
  refine stage_uniq I.stage X.stage (fun k y hk hy => ?_)
  rw [← I.bigs k y hk hy, ← X.bigs k y hk hy]
  rcases Nat.lt_trichotomy k i with h | h | h
  · have := A.pre (D.ord h hk A.hi (by rcases hx with hx | hx <;> rw [hx, hy] <;> rfl))
    simp [this, h]
  · subst h; rw [A.un]; simp
  · have := A.post hk (D.ord h A.hi hk (by rcases hx with hx | hx <;> rw [hx, hy] <;> rfl))
    rw [this]
    constructor
    · intro hh; cases hh
    · intro hh; omega
end
end
end Go.Ev
