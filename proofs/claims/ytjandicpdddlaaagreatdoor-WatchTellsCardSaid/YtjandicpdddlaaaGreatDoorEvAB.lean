/-
  An evaluator of runs and its soundness, part AB. No condition of its own.
-/
import Derived.Test.YtjandicpdddlaaaGreatDoorEvAA
namespace Go.Ev
noncomputable section

theorem step1_cases {P : Program} {e : Ev} {ops : Array Oper} {df : List ADef} {base i : Nat} {o : Oper} {c : Cl} {T : Tm} {H H' : Hp} {wt : Bool} {v : AV} {u : Option (Nat × AObj)}
    (h : step1 P e ops df base i o c T H = some (wt, v, H', u)) :
    (wt = false ∧ wantedA ops T o.guard = false ∧ v = .tuple [] ∧ H' = H ∧ u = none) ∨
    (wt = true ∧ wantedA ops T o.guard = true ∧
      ((c = .new ∧ ∃ ob, anew P T H.ng (base + i) o.op = some (v, ob) ∧ H' = H.set (base + i) ob ∧ u = some (base + i, ob)) ∨
       (c = .store ∧ ∃ b ob, astoreU P T H o.op = some (b, ob) ∧ v = .tuple [] ∧ H' = H.set b ob ∧ u = some (b, ob)) ∨
       (c ≠ .new ∧ c ≠ .store ∧ opRun P e ⟨T, df⟩ H o.op = some (v, H') ∧ u = none))) := by
  unfold step1 at h
  split at h
  · rename_i hw; cases h; exact .inl ⟨rfl, hw, rfl, rfl, rfl⟩
  · rename_i hw
    right
    split at h
    · split at h
      · rename_i V ob ha; cases h; exact ⟨rfl, hw, .inl ⟨rfl, ob, ha, rfl, rfl⟩⟩
      · cases h
    · split at h
      · rename_i b ob ha; cases h; exact ⟨rfl, hw, .inr (.inl ⟨rfl, b, ob, ha, rfl, rfl, rfl⟩)⟩
      · cases h
    · rename_i n1 n2
      split at h
      · rename_i v' H1 ha; cases h; exact ⟨rfl, hw, .inr (.inr ⟨n1, n2, ha, rfl⟩)⟩
      · cases h

section
variable {P : Program} {e : Ev} {ops : Array Oper} {df : List ADef} {base : Nat} {ms : List Nat} {sis : List SI} {h1 : Hp} {its : List It} {Te : Tm} {He : Hp}

theorem Drawn.small (D : Drawn P e ops df base ms sis h1 its Te He) {i : Nat} {x : It} (hi : its[i]? = some x) (hc : x.c ≠ .big) : (x.u = none ∧ x.H' = x.H) ∨ ∃ b ob, x.u = some (b, ob) ∧ x.H' = x.H.set b ob := by
  obtain ⟨_, _, a3, a4, _⟩ := D.it i x hi
  rcases step1_cases a4 with ⟨_, _, _, q1, q2⟩ | ⟨_, _, ⟨_, ob, _, q1, q2⟩ | ⟨_, b, ob, _, _, q1, q2⟩ | ⟨n1, n2, q1, q2⟩⟩
  · exact .inl ⟨q2, q1⟩
  · exact .inr ⟨_, _, q2, q1⟩
  · exact .inr ⟨_, _, q2, q1⟩
  · refine .inl ⟨q2, ?_⟩
    cases hx : x.c with
    | pure => exact (pure_any (by rw [← a3]; exact hx) q1).1
    | read => exact (read_mono (by rw [← a3]; exact hx) q1).1
    | new => exact absurd hx n1
    | store => exact absurd hx n2
    | big => exact absurd hx hc
theorem Drawn.bigu (D : Drawn P e ops df base ms sis h1 its Te He) {i : Nat} {x : It} (hi : its[i]? = some x) (hc : x.c = .big) : x.u = none := by
  obtain ⟨_, _, a3, a4, _⟩ := D.it i x hi
  rcases step1_cases a4 with ⟨_, _, _, q1, q2⟩ | ⟨_, _, ⟨n, ob, _, q1, q2⟩ | ⟨n, b, ob, _, _, q1, q2⟩ | ⟨n1, n2, q1, q2⟩⟩
  · exact q2
  · rw [hc] at n; cases n
  · rw [hc] at n; cases n
  · exact q2

structure TextAt (its : List It) (h1 : Hp) (i : Nat) (H : Hp) (c : Nat) (B : Hp) : Prop where
  stage : StageAt its h1 c B
  le : c ≤ i
  bigs : ∀ (k : Nat) (x : It), its[k]? = some x → x.c = .big → (k < i ↔ k < c)
  next : H.next = B.next
  ng : H.ng = h1.ng
  get : ∀ b, H.get b = (join (fun k => decide (k < i)) c its 0 B).get b

theorem text_inv (D : Drawn P e ops df base ms sis h1 its Te He) (hH : Hat its He 0 = h1) : ∀ i, i ≤ ops.size → TSpec its (fun k => decide (k < i)) (Tat its Te 0) (Tat its Te i) ∧ ∃ c B, TextAt its h1 i (Hat its He i) c B
  | 0, _ => by
    refine ⟨⟨rfl, fun i x d _ _ h => by simp at h, fun d _ => rfl⟩, 0, h1, .inl ⟨rfl, rfl⟩, Nat.le_refl _, fun _ _ _ _ => Iff.rfl, by rw [hH], by rw [hH], fun b => ?_⟩
    rw [hH, join_none]
    intro k it ob _ _
    simp [sel, andB]
  | i + 1, hle => by
    obtain ⟨t1, c, B, A⟩ := text_inv D hH i (by omega)
    have hlt : i < its.length := by rw [D.len]; omega
    obtain ⟨x, hi⟩ : ∃ x, its[i]? = some x := ⟨its[i], List.getElem?_eq_getElem hlt⟩
    obtain ⟨_, _, a3, a4, a5, a6⟩ := D.it i x hi
    have eT : Tat its Te i = x.T := by unfold Tat; rw [hi]
    have eH : Hat its He i = x.H := by unfold Hat; rw [hi]
    rw [eT] at t1
    rw [eH] at A
    refine ⟨by rw [← plus_lt]; exact t1.step D hi a5, ?_⟩
    by_cases hc : x.c = .big
    · refine ⟨i + 1, x.H', .inr ⟨i, x, hi, hc, rfl, rfl⟩, Nat.le_refl _, fun _ _ _ _ => Iff.rfl, by rw [a6], by rw [← a6]; exact D.ng i x hi, fun b => ?_⟩
      rw [← a6, join_none]
      intro k it ob _ _
      cases hs : sel (fun k => decide (k < i + 1)) (i + 1) (0 + k) with
      | false => rfl
      | true =>
        obtain ⟨g1, g2⟩ := andB_true hs
        have g1' := of_decide_eq_true g1
        rw [Nat.ble_eq] at g2
        omega
    · have hb : ∀ (k : Nat) (y : It), its[k]? = some y → y.c = .big → (k < i + 1 ↔ k < c) := by
        intro k y hk hy
        rw [← A.bigs k y hk hy]
        have : k ≠ i := fun hh => by subst hh; rw [hi] at hk; cases hk; exact hc hy
        omega
      rcases D.small hi hc with ⟨q1, q2⟩ | ⟨b0, ob, q1, q2⟩
      · refine ⟨c, B, A.stage, by have := A.le; omega, hb, by rw [← a6, q2]; exact A.next, by rw [← a6, q2]; exact A.ng, fun b => ?_⟩
        rw [← a6, q2, A.get b, ← plus_lt]
        exact (join_plus_none (fun it hit => by rw [hi] at hit; cases hit; exact q1) b).symm
      · refine ⟨c, B, A.stage, by have := A.le; omega, hb, by rw [← a6, q2]; exact A.next, by rw [← a6, q2]; exact A.ng, fun b => ?_⟩
        rw [← a6, q2, Hp.get_set, A.get b, ← plus_lt, join_add hi q1 A.le ?_ b]
        intro k it' ob' hk _ _
        exact decide_eq_false (by omega)
end
end
end Go.Ev
