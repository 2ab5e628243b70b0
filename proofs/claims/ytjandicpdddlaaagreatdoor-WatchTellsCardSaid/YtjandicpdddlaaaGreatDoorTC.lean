/-
  Walks of this seat's functions. No condition of its own.
-/
import Derived.Test.YtjandicpdddlaaaGreatDoorTB
namespace Go.Ev
noncomputable section
open Go.Proofs
set_option maxHeartbeats 2000000
def keepOk (was now : List LCell) (j : Nat) : Prop := (nth was j).dead = true ∨ (j < now.length ∧ (nth was j).fields = (nth now j).fields)
def Keeps (was now : List LCell) : Prop := ∀ j : Nat, j < was.length → keepOk was now j
noncomputable def keeps (was now : List LCell) : Bool := @decide (Keeps was now) (Classical.propDecidable _)
theorem keeps_true {was now : List LCell} (h : Keeps was now) : keeps was now = true := @decide_eq_true _ (Classical.propDecidable _) h
theorem keeps_false {was now : List LCell} (k : Nat) (hk : k < was.length) (h : ¬ keepOk was now k) : keeps was now = false := @decide_eq_false _ (Classical.propDecidable _) (fun e => h (e k hk))
theorem Keeps7 (a b : List LCell) (hl : (a.length : Int) ≤ 9223372036854775807) (hl2 : (b.length : Int) ≤ 9223372036854775807) (hf : ∀ j : Nat, j < a.length → ((nth a j).fields.length : Int) ≤ 9223372036854775807) : PF Tryz.prog E1.GT 7 [aCells a, aCells b] (.bool (keeps a b)) := by
  refine PF.enter cal7 rfl rfl rfl ?_
  unfold c7 Tryz.f7
  refine TT.run E1ok 12 1001 rfl ?_
  (refine TT.up a.length (fun k => [(0, some (aCells a)), (1, some (aCells b)), (7, some (aCells a)), (8, some (.int .i64 (a.length : Int))), (9, some (.int .i64 (k : Int)))]) (fun _ => []) (fun k => ∀ j : Nat, j < k → keepOk a b j) (by repeat (first | exact trivial | refine ⟨rfl, ?_⟩)) trivial (fun j h => by omega) ?_; intro k hk hI)
  refine TT.run E1ok 5 1001 rfl ?_
  refine TT.cond rfl (fun hb => ?_) (fun hb => ?_)
  · simp at hb
    refine TT.run E1ok 6 1001 rfl ?_
    refine TO.op rfl (OV.rowE E1ok rfl rfl rfl rfl (by omega) (by omega) (fun _ => rfl)) rfl rfl ?_
    refine TO.run E1ok 11 1001 rfl ?_
    refine TT.cond rfl (fun hb => ?_) (fun hb => ?_)
    · skip
      refine TT.run E1ok 4 1002 rfl ?_
      refine TO.op rfl (OV.add rfl rfl rfl (by omega) (by omega)) rfl rfl ?_
      refine TO.run E1ok 2 1002 rfl ?_
      refine TT.back ⟨by omega, (by repeat (first | exact trivial | refine ⟨rfl, ?_⟩)), (by repeat (first | exact trivial | refine ⟨rfl, ?_⟩)), ?_⟩
      (intro j hj; rcases Nat.lt_succ_iff_lt_or_eq.1 hj with h | h; exact hI j h; subst h; exact Or.inl hb)
    · skip
      refine TT.run E1ok 2 1002 rfl ?_
      refine TT.draw' mixed (by kernel_rfl) ?_
      refine TQ.run E1ok 5 1002 rfl ?_
      refine TQ.waysG rfl rfl (fun hb => ?_) (fun hb => ?_)
      · simp at hb
        refine TQ.run E1ok 17 1002 rfl ?_
        refine TT.ret1 rfl rfl ?_
        (congr 1; refine (keeps_false k (by omega) ?_).symm; rintro (h | ⟨h1, h2⟩); simp_all; omega)
      · simp at hb
        refine TQ.run E1ok 4 1002 rfl ?_
        refine TQ.op rfl (OV.rowE E1ok rfl rfl rfl rfl (by omega) (by omega) (fun _ => rfl)) rfl rfl ?_
        refine TQ.run E1ok 2 1002 rfl ?_
        refine TQ.call rfl rfl rfl ((Vals13 _ _ (hf k (by omega)))) rfl rfl ?_
        refine TQ.run E1ok 3 1002 rfl ?_
        refine TT.cond rfl (fun hb => ?_) (fun hb => ?_)
        · simp at hb
          refine TT.run E1ok 5 1002 rfl ?_
          refine TT.ret1 rfl rfl ?_
          (congr 1; refine (keeps_false k (by omega) ?_).symm; rintro (h | ⟨h1, h2⟩); simp_all; simp_all)
        · simp at hb
          refine TT.run E1ok 3 1002 rfl ?_
          refine TO.op rfl (OV.add rfl rfl rfl (by omega) (by omega)) rfl rfl ?_
          refine TO.run E1ok 2 1002 rfl ?_
          refine TT.back ⟨by omega, (by repeat (first | exact trivial | refine ⟨rfl, ?_⟩)), (by repeat (first | exact trivial | refine ⟨rfl, ?_⟩)), ?_⟩
          (intro j hj; rcases Nat.lt_succ_iff_lt_or_eq.1 hj with h | h; exact hI j h; subst h; exact Or.inr ⟨by omega, hb⟩)
  · simp at hb
    refine TT.run E1ok 9 1001 rfl ?_
    refine TT.ret1 rfl rfl ?_
    (congr 1; exact (keeps_true (fun j hj => hI j (by omega))).symm)
theorem Keeps8 (a b : List LCell) (hl : (a.length : Int) ≤ 9223372036854775807) (hl2 : (b.length : Int) ≤ 9223372036854775807) (hf : ∀ j : Nat, j < a.length → ((nth a j).fields.length : Int) ≤ 9223372036854775807) : PF Tryz.prog E1.GT 8 [aCells a, aCells b] (.bool (keeps a b)) := by
  refine PF.enter cal8 rfl rfl rfl ?_
  unfold c8 Tryz.f8
  refine TT.run E1ok 10 1001 rfl ?_
  (refine TT.up a.length (fun k => [(0, some (aCells a)), (1, some (aCells b)), (5, some (.int .i64 (k : Int)))]) (fun _ => []) (fun k => ∀ j : Nat, j < k → keepOk a b j) (by repeat (first | exact trivial | refine ⟨rfl, ?_⟩)) trivial (fun j h => by omega) ?_; intro k hk hI)
  refine TT.run E1ok 8 1001 rfl ?_
  refine TT.cond rfl (fun hb => ?_) (fun hb => ?_)
  · simp at hb
    refine TT.run E1ok 4 1001 rfl ?_
    refine TT.draw' mixed (by kernel_rfl) ?_
    refine TQ.run E1ok 2 1001 rfl ?_
    refine TQ.op rfl (OV.rowE E1ok rfl rfl rfl rfl (by omega) (by omega) (fun _ => rfl)) rfl rfl ?_
    refine TQ.run E1ok 4 1001 rfl ?_
    refine TQ.waysG rfl rfl (fun hb => ?_) (fun hb => ?_)
    · simp at hb
      refine TQ.run E1ok 5 1001 rfl ?_
      refine TQ.waysG rfl rfl (fun hb => ?_) (fun hb => ?_)
      · simp at hb
        refine TQ.run E1ok 21 1001 rfl ?_
        refine TT.ret1 rfl rfl ?_
        (congr 1; refine (keeps_false k (by omega) ?_).symm; rintro (h | ⟨h1, h2⟩); simp_all; omega)
      · simp at hb
        refine TQ.run E1ok 2 1001 rfl ?_
        refine TQ.op rfl (OV.rowE E1ok rfl rfl rfl rfl (by omega) (by omega) (fun _ => rfl)) rfl rfl ?_
        refine TQ.run E1ok 4 1001 rfl ?_
        refine TQ.op rfl (OV.rowE E1ok rfl rfl rfl rfl (by omega) (by omega) (fun _ => rfl)) rfl rfl ?_
        refine TQ.run E1ok 2 1001 rfl ?_
        refine TQ.call rfl rfl rfl ((Vals14 _ _ (hf k (by omega)))) rfl rfl ?_
        refine TQ.run E1ok 4 1001 rfl ?_
        refine TT.cond rfl (fun hb => ?_) (fun hb => ?_)
        · simp at hb
          refine TT.run E1ok 5 1001 rfl ?_
          refine TT.ret1 rfl rfl ?_
          (congr 1; refine (keeps_false k (by omega) ?_).symm; rintro (h | ⟨h1, h2⟩); simp_all; simp_all)
        · simp at hb
          refine TT.run E1ok 4 1001 rfl ?_
          refine TO.op rfl (OV.add rfl rfl rfl (by omega) (by omega)) rfl rfl ?_
          refine TO.run E1ok 2 1001 rfl ?_
          refine TT.back ⟨by omega, (by repeat (first | exact trivial | refine ⟨rfl, ?_⟩)), (by repeat (first | exact trivial | refine ⟨rfl, ?_⟩)), ?_⟩
          (intro j hj; rcases Nat.lt_succ_iff_lt_or_eq.1 hj with h | h; exact hI j h; subst h; exact Or.inr ⟨by omega, hb⟩)
    · simp at hb
      refine TQ.run E1ok 25 1001 rfl ?_
      refine TO.op rfl (OV.add rfl rfl rfl (by omega) (by omega)) rfl rfl ?_
      refine TO.run E1ok 2 1001 rfl ?_
      refine TT.back ⟨by omega, (by repeat (first | exact trivial | refine ⟨rfl, ?_⟩)), (by repeat (first | exact trivial | refine ⟨rfl, ?_⟩)), ?_⟩
      (intro j hj; rcases Nat.lt_succ_iff_lt_or_eq.1 hj with h | h; exact hI j h; subst h; exact Or.inl hb)
  · simp at hb
    refine TT.run E1ok 9 1001 rfl ?_
    refine TT.ret1 rfl rfl ?_
    (congr 1; exact (keeps_true (fun j hj => hI j (by omega))).symm)
end
end Go.Ev
