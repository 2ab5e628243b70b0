/-
  An evaluator of runs and its soundness, part AA. No condition of its own.
-/
import Derived.Test.YtjandicpdddlaaaGreatDoorEvZ
namespace Go.Ev
noncomputable section

theorem plus_lt (i : Nat) : plus (fun k => decide (k < i)) i = fun k => decide (k < i + 1) := by
  funext k
  unfold plus
  by_cases h : k = i
  · subst h; simp
  · rw [if_neg h]
    show decide (k < i) = decide (k < i + 1)
    have : (k < i) = (k < i + 1) := propext ⟨fun h => by omega, fun h' => by omega⟩
    simp only [this]

/-! ### The temporaries when so many are listed -/
structure TSpec (its : List It) (L : Nat → Bool) (T0 T : Tm) : Prop where
  sz : T.sz = T0.sz
  put : ∀ (i : Nat) (x : It) (d : Tmp), its[i]? = some x → x.o.dst = some d → L i = true → T.get d = x.v
  old : ∀ (d : Tmp), (∀ (i : Nat) (x : It), its[i]? = some x → x.o.dst = some d → L i = false) → T.get d = T0.get d
theorem putA_get {T T' : Tm} {d : Option Tmp} {v : AV} (h : putA T d v = some T') : T'.sz = T.sz ∧ ∀ k, T'.get k = if d = some k then v else T.get k := by
  unfold putA at h
  split at h
  · cases h; exact ⟨rfl, fun k => by simp⟩
  · rename_i d'
    split at h
    · cases h
      refine ⟨rfl, fun k => ?_⟩
      rw [Tm.get_put]
      by_cases e : k = d'
      · subst e; simp
      · rw [if_neg e, if_neg (by simpa using Ne.symm e)]
    · cases h
theorem putA_sz {T T1 T' : Tm} {d : Option Tmp} {v : AV} (h : putA T d v = some T1) (hs : T'.sz = T.sz) : ∃ T2, putA T' d v = some T2 := by
  unfold putA at h ⊢
  split at h
  · exact ⟨T', rfl⟩
  · rename_i d'
    split at h
    · rename_i hb
      exact ⟨T'.put d' v, by simp only [hs, hb]⟩
    · cases h
section
variable {P : Program} {e : Ev} {ops : Array Oper} {df : List ADef} {base : Nat} {ms : List Nat} {sis : List SI} {h1 : Hp} {its : List It} {Te : Tm} {He : Hp}

theorem Drawn.ordered (D : Drawn P e ops df base ms sis h1 its Te He) {i j : Nat} {x y : It} (hij : i < j) (hi : its[i]? = some x) (hj : its[j]? = some y) : PairP P ops x.o y.o (y.msk.testBit i) := by
  obtain ⟨a1, a2, _⟩ := D.it i x hi
  obtain ⟨b1, b2, _⟩ := D.it j y hj
  exact D.st.pair hij a1 b1 a2 b2
theorem Drawn.one (D : Drawn P e ops df base ms sis h1 its Te He) {i j : Nat} {x y : It} {d : Tmp} (hi : its[i]? = some x) (hj : its[j]? = some y) (h1 : x.o.dst = some d) (h2 : y.o.dst = some d) : i = j := by
  rcases Nat.lt_trichotomy i j with h | h | h
  · exact absurd rfl ((D.ordered h hi hj).1 d d h1 h2)
  · exact h
  · exact absurd rfl ((D.ordered h hj hi).1 d d h2 h1)
theorem TSpec.step (D : Drawn P e ops df base ms sis h1 its Te He) {L : Nat → Bool} {T0 T T' : Tm} (h : TSpec its L T0 T) {i : Nat} {x : It} (hi : its[i]? = some x) (hp : putA T x.o.dst x.v = some T') : TSpec its (plus L i) T0 T' := by
  obtain ⟨p1, p2⟩ := putA_get hp
  refine ⟨p1.trans h.sz, fun j y d hj hd hL => ?_, fun d hn => ?_⟩
  · rw [p2]
    by_cases e : j = i
    · subst e; rw [hi] at hj; cases hj; rw [if_pos hd]
    · rw [if_neg (fun hx => e (D.one hj hi hd hx))]
      exact h.put j y d hj hd (by simpa [plus, e] using hL)
  · rw [p2, if_neg (fun hx => by have := hn i x hi hx; simp [plus] at this)]
    refine h.old d (fun j y hj hd => ?_)
    have := hn j y hj hd
    by_cases e : j = i
    · subst e; simp [plus] at this
    · simpa [plus, e] using this
theorem TSpec.agree (D : Drawn P e ops df base ms sis h1 its Te He) {L L' : Nat → Bool} {T0 T T' : Tm} (h : TSpec its L T0 T) (h' : TSpec its L' T0 T') {d : Tmp}
    (hs : ∀ (i : Nat) (x : It), its[i]? = some x → x.o.dst = some d → L i = L' i) : T.get d = T'.get d := by
  by_cases hw : ∃ (i : Nat) (x : It), its[i]? = some x ∧ x.o.dst = some d
  · obtain ⟨i, x, hi, hx⟩ := hw
    have hLL := hs i x hi hx
    cases hL : L i with
    | true => rw [h.put i x d hi hx hL, h'.put i x d hi hx (hLL ▸ hL)]
    | false =>
      have hn : ∀ {M : Nat → Bool}, M i = false → ∀ (j : Nat) (y : It), its[j]? = some y → y.o.dst = some d → M j = false := by
        intro M hM j y hj hy
        have := D.one hj hi hy hx
        subst this
        exact hM
      rw [h.old d (hn hL), h'.old d (hn (hLL ▸ hL))]
  · have hn : ∀ {M : Nat → Bool}, ∀ (j : Nat) (y : It), its[j]? = some y → y.o.dst = some d → M j = false := fun j y hj hy => absurd ⟨j, y, hj, hy⟩ hw
    rw [h.old d hn, h'.old d hn]

/-! ### Which are listed when one is about to be taken -/
structure AtL (D : Drawn P e ops df base ms sis h1 its Te He) (L : Nat → Bool) (i : Nat) (x : It) : Prop where
  hi : its[i]? = some x
  down : Down ops L
  binds : Binds x.o L
  un : L i = false
variable {D : Drawn P e ops df base ms sis h1 its Te He} {L : Nat → Bool} {i : Nat} {x : It}
theorem AtL.pre (A : AtL D L i x) {j : Nat} (h : x.msk.testBit j = true) : L j = true := by
  obtain ⟨a1, a2, _⟩ := D.it i x A.hi
  exact (D.st.good.bef i x.o x.msk a1 a2 j h).2 L A.down A.binds
theorem AtL.post (A : AtL D L i x) {j : Nat} {y : It} (hj : its[j]? = some y) (h : y.msk.testBit i = true) : L j = false := by
  cases hL : L j with
  | false => rfl
  | true =>
    obtain ⟨b1, b2, _⟩ := D.it j y hj
    have := (D.st.good.bef j y.o y.msk b1 b2 i h).2 L A.down (A.down j y.o b1 hL)
    rw [A.un] at this; cases this
theorem AtL.looks (A : AtL D L i x) {d : Tmp} (hd : d ∈ x.o.looksAt ops) (j : Nat) (y : It) (hj : its[j]? = some y) (hy : y.o.dst = some d) : L j = decide (j < i) := by
  rcases Nat.lt_trichotomy j i with h | h | h
  · rw [decide_eq_true h]
    have hp := D.ordered h hj A.hi
    cases hb : x.msk.testBit j with
    | true => exact A.pre hb
    | false => exact absurd hd ((hp.2 hb).1 d hy)
  · subst h; rw [A.un]; simp
  · rw [decide_eq_false (by omega)]
    have hp := D.ordered h A.hi hj
    cases hb : y.msk.testBit i with
    | true => exact A.post hj hb
    | false => exact absurd hd ((hp.2 hb).2.1 d hy)
theorem AtL.tmps (A : AtL D L i x) {T0 T T' : Tm} (h : TSpec its L T0 T) (h' : TSpec its (fun k => decide (k < i)) T0 T') :
    wantedA ops T x.o.guard = wantedA ops T' x.o.guard ∧ ∀ ng, ∀ y ∈ x.o.op.operands, aev T ng y = aev T' ng y := by
  have key : ∀ d ∈ x.o.looksAt ops, T.get d = T'.get d := fun d hd => h.agree D h' (fun j y hj hy => A.looks hd j y hj hy)
  refine ⟨?_, fun ng y hy => ?_⟩
  · unfold wantedA
    cases hg : x.o.guard with
    | none => rfl
    | some g =>
      obtain ⟨j, b⟩ := g
      simp only
      cases ho : ops[j]? with
      | none => rfl
      | some o =>
        simp only
        cases hd : o.dst with
        | none => rfl
        | some d =>
          simp only
          rw [key d (by simp [Oper.looksAt, hg, ho, hd])]
  · cases y with
    | tmp d =>
      simp only [aev]
      rw [key d ?_]
      unfold Oper.looksAt
      exact List.mem_append_left _ (List.mem_filterMap.2 ⟨.tmp d, by simpa using hy, rfl⟩)
    | const v => rfl
    | global g => rfl
    | func f => rfl
end
end
end Go.Ev
