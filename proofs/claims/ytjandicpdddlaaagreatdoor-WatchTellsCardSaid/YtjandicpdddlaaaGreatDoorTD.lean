/-
  Walks of this seat's functions. No condition of its own.
-/
import Derived.Test.YtjandicpdddlaaaGreatDoorTC
import Derived.Test.YtjandicpdddlaaaGreatDoorVL
namespace Go.Ev
noncomputable section
open Go.Proofs
set_option maxHeartbeats 2000000
theorem PF.nil {P : Program} {GT : GTab} {f : Nat} {args : List AV} {v : AV} (h : PF P [] f args v) : PF P GT f args v :=
  ⟨h.1, fun m w a lo n _ H A => h.2 m w a lo n (fun _ _ e => by cases e) H A⟩
noncomputable def c3 : Code := match Tryz.f3.body with | some c => c | none => .skip
theorem cal3 : callable Tryz.prog 3 = some (Tryz.f3, c3) := by kernel_rfl
theorem KeepsSelf (a : List LCell) (hl : (a.length : Int) ≤ 9223372036854775807) (hf : ∀ j : Nat, j < a.length → ((nth a j).fields.length : Int) ≤ 9223372036854775807) : PF Tryz.prog E1.GT 7 [aCells a, aCells a] (.bool true) := by
  have := Keeps7 a a hl hl hf
  rwa [keeps_true (fun j hj => Or.inr ⟨hj, rfl⟩)] at this
theorem Law3 (a b : List LCell) (e : LEv) (hA : PF Tryz.prog E1.GT 4 [] (.bool true)) (ha : (a.length : Int) ≤ 9223372036854775807) (hb : (b.length : Int) ≤ 9223372036854775807) (hf : ∀ j : Nat, j < a.length → ((nth a j).fields.length : Int) ≤ 9223372036854775807) (hg : ∀ j : Nat, j < b.length → ((nth b j).fields.length : Int) ≤ 9223372036854775807) :
    PF Tryz.prog E1.GT 3 [.agg [aCells a, aCells b], .agg (eEv e)] (.bool true) := by
  have hc := hb
  clear hb
  refine PF.enter cal3 rfl rfl rfl ?_
  unfold c3 Tryz.f3
  refine TT.run E1ok 12 1001 rfl ?_
  (refine TT.up 2 (fun k => [(2, some (.ptr 1001 0)), (3, some (.ptr 1002 0)), (5, some (.int .i64 (k : Int)))]) (fun _ => [(1001, AObj.cells [aCells a, aCells b] true false), (1002, AObj.cells (eEv e) true false)]) (fun _ => True) (by repeat (first | exact trivial | refine ⟨rfl, ?_⟩)) (by repeat (first | exact trivial | refine ⟨rfl, ?_⟩)) trivial ?_; intro k hk hI; clear hI; rcases (show k = 0 ∨ k = 1 ∨ k = 2 by omega) with h | h | h <;> subst h <;> clear hk)
  · skip
    refine TT.run E1ok 15 1003 rfl ?_
    (refine TT.up a.length (fun k => [(2, some (.ptr 1001 0)), (3, some (.ptr 1002 0)), (5, some (.int .i64 (0 : Int))), (6, some (.int .i64 (k : Int)))]) (fun _ => [(1001, AObj.cells [aCells a, aCells b] true false), (1002, AObj.cells (eEv e) true false)]) (fun _ => True) (by repeat (first | exact trivial | refine ⟨rfl, ?_⟩)) (by repeat (first | exact trivial | refine ⟨rfl, ?_⟩)) trivial ?_; intro k hk hI; clear hI)
    refine TT.run E1ok 10 1003 rfl ?_
    refine TT.cond rfl (fun hb => ?_) (fun hb => ?_)
    · simp at hb
      refine TT.run E1ok 11 1003 rfl ?_
      refine TO.waysG rfl rfl (fun hb => ?_) (fun hb => ?_)
      · simp at hb
        refine TO.run E1ok 14 1003 rfl ?_
        refine TO.call rfl rfl rfl (hA) rfl rfl ?_
        refine TO.run E1ok 3 1003 rfl ?_
        refine TT.ret1 rfl rfl ?_
        rfl
      · simp at hb
        refine TO.run E1ok 4 1003 rfl ?_
        refine TO.op rfl (OV.rowE E1ok rfl rfl rfl rfl (by omega) (by omega) (fun _ => rfl)) rfl rfl ?_
        refine TO.run E1ok 6 1003 rfl ?_
        refine TT.cond rfl (fun hb => ?_) (fun hb => ?_)
        · simp at hb
          refine TT.run E1ok 2 1003 rfl ?_
          refine TO.call rfl rfl rfl (hA) rfl rfl ?_
          refine TO.run E1ok 3 1003 rfl ?_
          refine TT.ret1 rfl rfl ?_
          rfl
        · simp at hb
          refine TT.run E1ok 4 1003 rfl ?_
          refine TO.op rfl (OV.add rfl rfl rfl (by omega) (by omega)) rfl rfl ?_
          refine TO.run E1ok 2 1003 rfl ?_
          refine TT.back ⟨by omega, (by repeat (first | exact trivial | refine ⟨rfl, ?_⟩)), (by repeat (first | exact trivial | refine ⟨rfl, ?_⟩)), ?_⟩
          exact trivial
    · simp at hb
      refine TT.run E1ok 7 1003 rfl ?_
      refine TO.op rfl (OV.add rfl rfl rfl (by omega) (by omega)) rfl rfl ?_
      refine TO.run E1ok 2 1003 rfl ?_
      refine TT.back ⟨by omega, (by repeat (first | exact trivial | refine ⟨rfl, ?_⟩)), (by repeat (first | exact trivial | refine ⟨rfl, ?_⟩)), ?_⟩
      exact trivial
  · skip
    refine TT.run E1ok 15 1003 rfl ?_
    (refine TT.up b.length (fun k => [(2, some (.ptr 1001 0)), (3, some (.ptr 1002 0)), (5, some (.int .i64 (1 : Int))), (6, some (.int .i64 (k : Int)))]) (fun _ => [(1001, AObj.cells [aCells a, aCells b] true false), (1002, AObj.cells (eEv e) true false)]) (fun _ => True) (by repeat (first | exact trivial | refine ⟨rfl, ?_⟩)) (by repeat (first | exact trivial | refine ⟨rfl, ?_⟩)) trivial ?_; intro k hk hI; clear hI)
    refine TT.run E1ok 10 1003 rfl ?_
    refine TT.cond rfl (fun hb => ?_) (fun hb => ?_)
    · simp at hb
      refine TT.run E1ok 11 1003 rfl ?_
      refine TO.waysG rfl rfl (fun hb => ?_) (fun hb => ?_)
      · simp at hb
        refine TO.run E1ok 14 1003 rfl ?_
        refine TO.call rfl rfl rfl (hA) rfl rfl ?_
        refine TO.run E1ok 3 1003 rfl ?_
        refine TT.ret1 rfl rfl ?_
        rfl
      · simp at hb
        refine TO.run E1ok 4 1003 rfl ?_
        refine TO.op rfl (OV.rowE E1ok rfl rfl rfl rfl (by omega) (by omega) (fun _ => rfl)) rfl rfl ?_
        refine TO.run E1ok 6 1003 rfl ?_
        refine TT.cond rfl (fun hb => ?_) (fun hb => ?_)
        · simp at hb
          refine TT.run E1ok 2 1003 rfl ?_
          refine TO.call rfl rfl rfl (hA) rfl rfl ?_
          refine TO.run E1ok 3 1003 rfl ?_
          refine TT.ret1 rfl rfl ?_
          rfl
        · simp at hb
          refine TT.run E1ok 4 1003 rfl ?_
          refine TO.op rfl (OV.add rfl rfl rfl (by omega) (by omega)) rfl rfl ?_
          refine TO.run E1ok 2 1003 rfl ?_
          refine TT.back ⟨by omega, (by repeat (first | exact trivial | refine ⟨rfl, ?_⟩)), (by repeat (first | exact trivial | refine ⟨rfl, ?_⟩)), ?_⟩
          exact trivial
    · simp at hb
      refine TT.run E1ok 7 1003 rfl ?_
      refine TO.op rfl (OV.add rfl rfl rfl (by omega) (by omega)) rfl rfl ?_
      refine TO.run E1ok 2 1003 rfl ?_
      refine TT.back ⟨by omega, (by repeat (first | exact trivial | refine ⟨rfl, ?_⟩)), (by repeat (first | exact trivial | refine ⟨rfl, ?_⟩)), ?_⟩
      exact trivial
  · skip
    refine TT.run E1ok 12 1003 rfl ?_
    refine TT.draw' mixed (by kernel_rfl) ?_
    refine TQ.run E1ok 3 1003 rfl ?_
    refine TQ.call rfl rfl rfl (Wrote5 a e ha) rfl rfl ?_
    refine TQ.run E1ok 3 1003 rfl ?_
    refine TQ.call rfl rfl rfl (Wrote6 a e ha) rfl rfl ?_
    refine TQ.op rfl (OV.eqB (by kernel_rfl) rfl rfl rfl) rfl rfl ?_
    refine TQ.run E1ok 1 1003 rfl ?_
    refine TQ.waysG rfl rfl (fun hb => ?_) (fun hb => ?_)
    · simp at hb
      refine TQ.run E1ok 4 1003 rfl ?_
      refine TQ.call rfl rfl rfl (Keeps7 a b ha hc hf) rfl rfl ?_
      refine TQ.run E1ok 4 1003 rfl ?_
      refine TQ.call rfl rfl rfl (Keeps8 a b ha hc hf) rfl rfl ?_
      refine TQ.op rfl (OV.eqB (by kernel_rfl) rfl rfl rfl) rfl rfl ?_
      refine TQ.run E1ok 2 1003 rfl ?_
      refine TQ.waysG rfl rfl (fun hb => ?_) (fun hb => ?_)
      · simp at hb
        refine TQ.run E1ok 4 1003 rfl ?_
        refine TQ.call rfl rfl rfl (KeepsSelf a ha hf) rfl rfl ?_
        refine TQ.run E1ok 2 1003 rfl ?_
        refine TQ.call rfl rfl rfl (hA) rfl rfl ?_
        refine TQ.run E1ok 4 1003 rfl ?_
        refine TT.ret1 rfl rfl ?_
        rfl
      · (exfalso; simp at hb; done)
    · (exfalso; simp at hb; done)
end
end Go.Ev
