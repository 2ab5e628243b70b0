/-
  Walks of this seat's functions. No condition of its own.
-/
import Derived.Test.YtjandicpdddlaaaGreatDoorTA
namespace Go.Ev
noncomputable section
open Go.Proofs
structure LEv where
  kind : Int
  who : Int
  obj : Int
  name : List Nat
  v : LVal
  o0 : Int
  o1 : Int
  o2 : Int
  o3 : Int
def eEv (e : LEv) : List AV := [.int .i64 e.kind, .int .i64 e.who, .int .i64 e.obj, .str e.name, .bool e.v.ref, .int .i64 e.v.n, .int .i64 e.o0, .int .i64 e.o1, .int .i64 e.o2, .int .i64 e.o3]
theorem Vals13 (a b : List LVal) (hl : (a.length : Int) ≤ 9223372036854775807) : PF Tryz.prog E1.GT 13 [aVals a, aVals b] (.bool (decide (a = b))) := by
  refine PF.enter cal13 rfl rfl rfl ?_
  unfold c13 Tryz.f13
  refine TT.run E1ok 13 1001 rfl ?_
  refine TT.cond rfl (fun hb => ?_) (fun hb => ?_)
  · simp at hb
    refine TT.run E1ok 5 1001 rfl ?_
    refine TT.ret1 rfl rfl ?_
    (congr 1; simp; intro e; simp [e] at *; done)
  · simp at hb
    refine TT.run E1ok 9 1001 rfl ?_
    (refine TT.up a.length (fun k => [(0, some (aVals a)), (1, some (aVals b)), (12, some (.int .i64 (a.length : Int))), (13, some (.int .i64 (k : Int)))]) (fun _ => []) (fun k => ∀ j : Nat, j < k → nth a j = nth b j) (by repeat (first | exact trivial | refine ⟨rfl, ?_⟩)) trivial (fun j h => by omega) ?_; intro k hk hI)
    refine TT.run E1ok 5 1001 rfl ?_
    refine TT.cond rfl (fun hb => ?_) (fun hb => ?_)
    · simp at hb
      refine TT.run E1ok 9 1001 rfl ?_
      refine TT.draw' mixed (by kernel_rfl) ?_
      refine TQ.run E1ok 2 1001 rfl ?_
      refine TQ.op rfl (OV.rowE E1ok rfl rfl rfl rfl (by omega) (by omega) (fun _ => rfl)) rfl rfl ?_
      refine TQ.run E1ok 3 1001 rfl ?_
      refine TQ.op rfl (OV.rowE E1ok rfl rfl rfl rfl (by omega) (by omega) (fun _ => rfl)) rfl rfl ?_
      refine TQ.run E1ok 1 1001 rfl ?_
      refine TQ.op rfl (eq25.neq rfl rfl rfl rfl) rfl rfl ?_
      refine TQ.run E1ok 1 1001 rfl ?_
      refine TT.cond rfl (fun hb => ?_) (fun hb => ?_)
      · simp at hb
        refine TT.run E1ok 5 1001 rfl ?_
        refine TT.ret1 rfl rfl ?_
        (congr 1; simp; intro e; simp [e] at *; done)
      · simp at hb
        refine TT.run E1ok 3 1001 rfl ?_
        refine TO.op rfl (OV.add rfl rfl rfl (by omega) (by omega)) rfl rfl ?_
        refine TO.run E1ok 2 1001 rfl ?_
        refine TT.back ⟨by omega, (by repeat (first | exact trivial | refine ⟨rfl, ?_⟩)), (by repeat (first | exact trivial | refine ⟨rfl, ?_⟩)), ?_⟩
        (intro j hj; rcases Nat.lt_succ_iff_lt_or_eq.1 hj with h | h; exact hI j h; subst h; exact val_ext hb.1 hb.2)
    · simp at hb
      refine TT.run E1ok 9 1001 rfl ?_
      refine TT.ret1 rfl rfl ?_
      (congr 1; exact (decide_eq_true (vals_eq (by omega) (fun j hj => hI j (by omega)))).symm)
def wrote (l : List LCell) (e : LEv) : Bool := decide (e.kind ≠ 2) || decide (e.obj = e.who) || decide (up l e.obj = e.who) || decide (up l e.obj = up l e.who)
theorem Wrote5 (l : List LCell) (e : LEv) (hl : (l.length : Int) ≤ 9223372036854775807) : PF Tryz.prog E1.GT 5 [aCells l, .agg (eEv e)] (.bool (wrote l e)) := by
  refine PF.enter cal5 rfl rfl rfl ?_
  unfold c5 Tryz.f5
  refine TT.run E1ok 12 1001 rfl ?_
  refine TO.waysG rfl rfl (fun hb => ?_) (fun hb => ?_)
  · simp at hb
    refine TO.run E1ok 13 1002 rfl ?_
    refine TT.ret1 rfl rfl ?_
    (congr 1; unfold wrote; simp_all; done)
  · simp at hb
    refine TO.run E1ok 7 1002 rfl ?_
    refine TT.cond rfl (fun hb => ?_) (fun hb => ?_)
    · simp at hb
      refine TT.run E1ok 5 1002 rfl ?_
      refine TT.ret1 rfl rfl ?_
      (congr 1; unfold wrote; simp_all; done)
    · simp at hb
      refine TT.run E1ok 6 1002 rfl ?_
      refine TO.call rfl rfl rfl (Up11 l _ hl) rfl rfl ?_
      refine TO.run E1ok 9 1002 rfl ?_
      refine TO.waysG rfl rfl (fun hb => ?_) (fun hb => ?_)
      · simp at hb
        refine TO.run E1ok 10 1002 rfl ?_
        refine TT.ret1 rfl rfl ?_
        (congr 1; unfold wrote; simp_all; done)
      · simp at hb
        refine TO.run E1ok 4 1002 rfl ?_
        refine TO.call rfl rfl rfl (Up11 l _ hl) rfl rfl ?_
        refine TO.run E1ok 5 1002 rfl ?_
        refine TT.ret1 rfl rfl ?_
        (congr 1; unfold wrote; simp_all; done)
theorem Wrote6 (l : List LCell) (e : LEv) (hl : (l.length : Int) ≤ 9223372036854775807) : PF Tryz.prog E1.GT 6 [aCells l, .agg (eEv e)] (.bool (wrote l e)) := by
  refine PF.enter cal6 rfl rfl rfl ?_
  unfold c6 Tryz.f6
  refine TT.run E1ok 10 1001 rfl ?_
  refine TO.call rfl rfl rfl (Up12 l _ hl) rfl rfl ?_
  refine TO.run E1ok 8 1002 rfl ?_
  refine TO.waysG rfl rfl (fun hb => ?_) (fun hb => ?_)
  · simp at hb
    refine TO.run E1ok 23 1002 rfl ?_
    refine TT.ret1 rfl rfl ?_
    (congr 1; unfold wrote; simp_all; done)
  · simp at hb
    refine TO.run E1ok 7 1002 rfl ?_
    refine TO.waysG rfl rfl (fun hb => ?_) (fun hb => ?_)
    · simp at hb
      refine TO.run E1ok 16 1002 rfl ?_
      refine TT.ret1 rfl rfl ?_
      (congr 1; unfold wrote; simp_all; done)
    · simp at hb
      refine TO.run E1ok 6 1002 rfl ?_
      refine TO.waysG rfl rfl (fun hb => ?_) (fun hb => ?_)
      · simp at hb
        refine TO.run E1ok 10 1002 rfl ?_
        refine TT.ret1 rfl rfl ?_
        (congr 1; unfold wrote; simp_all; done)
      · simp at hb
        refine TO.run E1ok 4 1002 rfl ?_
        refine TO.call rfl rfl rfl (Up12 l _ hl) rfl rfl ?_
        refine TO.run E1ok 5 1002 rfl ?_
        refine TT.ret1 rfl rfl ?_
        (congr 1; unfold wrote; simp_all; done)
end
end Go.Ev
