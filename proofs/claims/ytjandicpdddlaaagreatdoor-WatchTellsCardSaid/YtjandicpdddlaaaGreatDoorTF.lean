/-
  Walks of this seat's functions. No condition of its own.
-/
import Derived.Test.YtjandicpdddlaaaGreatDoorTE
import Derived.Test.YtjandicpdddlaaaGreatDoorVL
namespace Go.Ev
noncomputable section
open Go.Proofs Go.Proofs.YtjandicpdddlaaaGreatDoor
theorem cal4 : ∃ fc, callable Tryz.prog 4 = some fc := ⟨(Tryz.f4, match Tryz.f4.body with | some c => c | none => .skip), by kernel_rfl⟩
theorem awake : PF Tryz.prog E1.GT 4 [] (.bool true) :=
  PF.closed (n := 400) mixed cal4 rfl (show comesTrue Tryz.prog 4 400 words = true by kernel_rfl)
end
end Go.Ev
