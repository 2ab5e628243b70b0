/-
  Walks of this seat's functions. No condition of its own.
-/
import Derived.Test.YtjandicpdddlaaaGreatDoorVJ
import Derived.Test.YtjandicpdddlaaaGreatDoorProg
namespace Go.Ev
noncomputable section
open Go.Proofs
structure LVal where
  ref : Bool
  n : Int
  deriving Inhabited, DecidableEq
structure LCell where
  cls : List Nat
  o0 : Int
  o1 : Int
  o2 : Int
  o3 : Int
  fields : List LVal
  dead : Bool
instance : Inhabited LCell := ⟨⟨[], 0, 0, 0, 0, [], false⟩⟩
def eVal (v : LVal) : List AV := [.bool v.ref, .int .i64 v.n]
def aVals (l : List LVal) : AV := .lst l.length (flat eVal l)
def eCell (c : LCell) : List AV := [.str c.cls, .int .i64 c.o0, .int .i64 c.o1, .int .i64 c.o2, .int .i64 c.o3, aVals c.fields, .bool c.dead]
def aCells (l : List LCell) : AV := .lst l.length (flat eCell l)
noncomputable def c5 : Code := match Tryz.f5.body with | some c => c | none => .skip
theorem cal5 : callable Tryz.prog 5 = some (Tryz.f5, c5) := by kernel_rfl
noncomputable def c6 : Code := match Tryz.f6.body with | some c => c | none => .skip
theorem cal6 : callable Tryz.prog 6 = some (Tryz.f6, c6) := by kernel_rfl
noncomputable def c7 : Code := match Tryz.f7.body with | some c => c | none => .skip
theorem cal7 : callable Tryz.prog 7 = some (Tryz.f7, c7) := by kernel_rfl
noncomputable def c8 : Code := match Tryz.f8.body with | some c => c | none => .skip
theorem cal8 : callable Tryz.prog 8 = some (Tryz.f8, c8) := by kernel_rfl
noncomputable def c11 : Code := match Tryz.f11.body with | some c => c | none => .skip
theorem cal11 : callable Tryz.prog 11 = some (Tryz.f11, c11) := by kernel_rfl
noncomputable def c12 : Code := match Tryz.f12.body with | some c => c | none => .skip
theorem cal12 : callable Tryz.prog 12 = some (Tryz.f12, c12) := by kernel_rfl
noncomputable def c13 : Code := match Tryz.f13.body with | some c => c | none => .skip
theorem cal13 : callable Tryz.prog 13 = some (Tryz.f13, c13) := by kernel_rfl
noncomputable def c14 : Code := match Tryz.f14.body with | some c => c | none => .skip
theorem cal14 : callable Tryz.prog 14 = some (Tryz.f14, c14) := by kernel_rfl
theorem mixed : Tryz.prog.follows .mixedOrders = true := by kernel_rfl
theorem eq25 : EqTy Tryz.prog 25 [.b, .i] := ⟨by kernel_rfl, by kernel_rfl, by kernel_rfl⟩
def words : List AV := [.str [99, 108, 97, 115, 115], .str [101, 120, 116, 101, 110, 100, 115], .str [114, 101, 112], .str [112, 101, 101, 114], .str [119, 111, 114, 108, 100], .str [97, 110, 121], .str [117, 110, 105, 113, 117, 101], .str [112, 117, 114, 101], .str [118, 111, 105, 100], .str [105, 110, 116], .str [105, 102], .str [101, 108, 115, 101], .str [119, 104, 105, 108, 101], .str [114, 101, 116, 117, 114, 110], .str [110, 101, 119], .str [109, 111, 118, 101], .str [100, 101, 108, 101, 116, 101], .str [116, 104, 105, 115], .str [110, 117, 108, 108], .str [105, 110, 112, 117, 116], .str [110, 105, 108], .str [115, 97, 109, 101], .str [99, 97, 115, 116]]
def E1 : En := ⟨[(3, .sc), (4, .bo), (9, .sc), (22, .sl 31 7), (23, .ar 2 22 1 2), (25, .st [(0, 4), (1, 3)] 2), (26, .ar 4 3 1 4), (28, .st [(0, 3), (1, 3), (2, 3), (3, 9), (4, 25), (6, 26)] 10), (29, .sl 25 2), (31, .st [(0, 9), (1, 26), (5, 29), (6, 4)] 7)], [(31, .agg [.str [], .int .i64 0, .int .i64 0, .int .i64 0, .int .i64 0, .nilSlice, .bool false])], [(0, words)]⟩
theorem E1ok : EnOk Tryz.prog E1 := EnOk.of (by kernel_rfl) (by kernel_rfl)
def up (l : List LCell) (o : Int) : Int := if 1 ≤ o ∧ o ≤ l.length then (nth l (o - 1)).o0 else 0
theorem Up12 (l : List LCell) (o : Int) (hl : (l.length : Int) ≤ 9223372036854775807) : PF Tryz.prog E1.GT 12 [aCells l, .int .i64 o] (.int .i64 (up l o)) := by
  refine PF.enter cal12 rfl rfl rfl ?_
  unfold c12 Tryz.f12
  refine TT.run E1ok 10 1001 rfl ?_
  refine TO.waysG rfl rfl (fun hb => ?_) (fun hb => ?_)
  · simp at hb
    refine TO.run E1ok 12 1001 rfl ?_
    refine TT.ret1 rfl rfl ?_
    (congr 1; unfold up; (first | rw [if_pos (by omega)] | rw [if_neg (by omega)]))
  · simp at hb
    refine TO.run E1ok 6 1001 rfl ?_
    refine TT.cond rfl (fun hb => ?_) (fun hb => ?_)
    · simp at hb
      refine TT.run E1ok 5 1001 rfl ?_
      refine TT.ret1 rfl rfl ?_
      (congr 1; unfold up; (first | rw [if_pos (by omega)] | rw [if_neg (by omega)]))
    · simp at hb
      refine TT.run E1ok 5 1001 rfl ?_
      refine TO.op rfl (OV.sub rfl rfl rfl (by omega) (by omega)) rfl rfl ?_
      refine TO.op rfl (OV.rowE E1ok rfl rfl rfl rfl (by omega) (by omega) (fun _ => rfl)) rfl rfl ?_
      refine TO.run E1ok 6 1001 rfl ?_
      refine TT.ret1 rfl rfl ?_
      (congr 1; unfold up; (first | rw [if_pos (by omega)] | rw [if_neg (by omega)]))
theorem Up11 (l : List LCell) (o : Int) (hl : (l.length : Int) ≤ 9223372036854775807) : PF Tryz.prog E1.GT 11 [aCells l, .int .i64 o] (.int .i64 (up l o)) := by
  refine PF.enter cal11 rfl rfl rfl ?_
  unfold c11 Tryz.f11
  refine TT.run E1ok 10 1001 rfl ?_
  refine TO.waysG rfl rfl (fun hb => ?_) (fun hb => ?_)
  · simp at hb
    refine TO.run E1ok 6 1001 rfl ?_
    refine TT.cond rfl (fun hb => ?_) (fun hb => ?_)
    · simp at hb
      refine TT.run E1ok 4 1001 rfl ?_
      refine TO.op rfl (OV.sub rfl rfl rfl (by omega) (by omega)) rfl rfl ?_
      refine TO.op rfl (OV.rowE E1ok rfl rfl rfl rfl (by omega) (by omega) (fun _ => rfl)) rfl rfl ?_
      refine TO.run E1ok 6 1001 rfl ?_
      refine TT.ret1 rfl rfl ?_
      (congr 1; unfold up; (first | rw [if_pos (by omega)] | rw [if_neg (by omega)]))
    · simp at hb
      refine TT.run E1ok 6 1001 rfl ?_
      refine TT.ret1 rfl rfl ?_
      (congr 1; unfold up; (first | rw [if_pos (by omega)] | rw [if_neg (by omega)]))
  · simp at hb
    refine TO.run E1ok 13 1001 rfl ?_
    refine TT.ret1 rfl rfl ?_
    (congr 1; unfold up; (first | rw [if_pos (by omega)] | rw [if_neg (by omega)]))
theorem val_eq (v u : LVal) : (v.ref == u.ref && decide (v.n = u.n)) = decide (v = u) := by
  cases v; cases u; exact Bool.eq_iff_iff.2 (by simp)
theorem val_ext {v u : LVal} (h1 : v.ref = u.ref) (h2 : v.n = u.n) : v = u := by cases v; cases u; simp_all
theorem vals_eq {a b : List LVal} (hl : a.length = b.length) (h : ∀ j : Nat, j < a.length → nth a j = nth b j) : a = b := by
  apply List.ext_getElem hl
  intro i h1 h2
  have := h i h1
  rwa [nth_cast _ _ h1, nth_cast _ _ h2] at this
theorem vals_ne {a b : List LVal} (k : Nat) (hk : k < a.length) (hl : a.length = b.length) (h : nth a k ≠ nth b k) : a ≠ b := fun e => h (by rw [e])
theorem Vals14 (a b : List LVal) (hl : (a.length : Int) ≤ 9223372036854775807) : PF Tryz.prog E1.GT 14 [aVals a, aVals b] (.bool (decide (a = b))) := by
  refine PF.enter cal14 rfl rfl rfl ?_
  unfold c14 Tryz.f14
  refine TT.run E1ok 13 1001 rfl ?_
  refine TT.cond rfl (fun hb => ?_) (fun hb => ?_)
  · simp at hb
    refine TT.run E1ok 5 1001 rfl ?_
    refine TT.ret1 rfl rfl ?_
    (congr 1; simp; intro e; simp [e] at *; done)
  · simp at hb
    refine TT.run E1ok 7 1001 rfl ?_
    (refine TT.up a.length (fun k => [(0, some (aVals a)), (1, some (aVals b)), (5, some (.int .i64 (k : Int)))]) (fun _ => []) (fun k => ∀ j : Nat, j < k → nth a j = nth b j) (by repeat (first | exact trivial | refine ⟨rfl, ?_⟩)) trivial (fun j h => by omega) ?_; intro k hk hI)
    refine TT.run E1ok 8 1001 rfl ?_
    refine TT.cond rfl (fun hb => ?_) (fun hb => ?_)
    · simp at hb
      refine TT.run E1ok 4 1001 rfl ?_
      refine TT.draw' mixed (by kernel_rfl) ?_
      refine TQ.run E1ok 2 1001 rfl ?_
      refine TQ.op rfl (OV.rowE E1ok rfl rfl rfl rfl (by omega) (by omega) (fun _ => rfl)) rfl rfl ?_
      refine TQ.run E1ok 3 1001 rfl ?_
      refine TQ.op rfl (OV.rowE E1ok rfl rfl rfl rfl (by omega) (by omega) (fun _ => rfl)) rfl rfl ?_
      refine TQ.run E1ok 1 1001 rfl ?_
      refine TQ.op rfl (eq25.neq rfl rfl rfl rfl) rfl rfl ?_
      refine TQ.run E1ok 1 1001 rfl ?_
      refine TT.cond rfl (fun hb => ?_) (fun hb => ?_)
      · simp at hb
        refine TT.run E1ok 5 1001 rfl ?_
        refine TT.ret1 rfl rfl ?_
        (congr 1; simp; intro e; simp [e] at *; done)
      · simp at hb
        refine TT.run E1ok 4 1001 rfl ?_
        refine TO.op rfl (OV.add rfl rfl rfl (by omega) (by omega)) rfl rfl ?_
        refine TO.run E1ok 2 1001 rfl ?_
        refine TT.back ⟨by omega, (by repeat (first | exact trivial | refine ⟨rfl, ?_⟩)), (by repeat (first | exact trivial | refine ⟨rfl, ?_⟩)), ?_⟩
        (intro j hj; rcases Nat.lt_succ_iff_lt_or_eq.1 hj with h | h; exact hI j h; subst h; exact val_ext hb.1 hb.2)
    · simp at hb
      refine TT.run E1ok 9 1001 rfl ?_
      refine TT.ret1 rfl rfl ?_
      (congr 1; exact (decide_eq_true (vals_eq (by omega) (fun j hj => hI j (by omega)))).symm)
end
end Go.Ev
