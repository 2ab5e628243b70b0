/-
  Walks of this seat's functions. No condition of its own.
-/
import Derived.Test.YtjandicpdddlaaaGreatDoorTD
import Derived.Test.YtjandicpdddlaaaGreatDoorCards
import Derived.Test.YtjandicpdddlaaaGreatDoorTie
import Derived.WalkKit
import Derived.ProofKit
import Derived.OpenShut
import Derived.Deep.DeepHandedRow
import Derived.MakeChecks
namespace Go.Ev
noncomputable section
open Go.Proofs Go.Proofs.YtjandicpdddlaaaGreatDoor
open Go.ChangeShapes Go.WideShapes Go.ChangeAt Go.RowKit
theorem VRel.agg_of {m : Mp} {cs : List AV} {v : Value} (h : LRel m cs v.cells.toList) (hl : cs.length ≠ 1) : VRel m (.agg cs) v := by
  have hn := h.length
  cases v <;> first | exact VRel.of_agg h | exact absurd hn (fun e => hl (e.symm.trans rfl)) | exact absurd hn (fun e => hl (e.trans rfl))
section
variable {H : Type} {enc : TypeId × Value → H} {W : World} {spare : Nat → Bool} {held : Bool} {bk : DataW H → Nat} {M : Nat}
theorem rdI (n : Nat) : RdB enc Tryz.prog W spare held bk M n 3 (fun z : Int => [.int .i64 z]) (fun _ => True) :=
  RdB.map (RdB.i64 Tryz.underlying3) (fun z => z) (fun _ _ => rfl) (fun _ _ => trivial)
theorem rdS (hbk : Bulk bk M) (n : Nat) : RdB enc Tryz.prog W spare held bk M n 9 (fun s : List Nat => [.str s]) (fun _ => True) :=
  RdB.map (RdB.str hbk Tryz.underlying9) (fun z => z) (fun _ _ => rfl) (fun _ _ => trivial)
theorem rdVal (hbk : Bulk bk M) (n : Nat) : RdB enc Tryz.prog W spare held bk M n 25 eVal (fun _ => True) := by
  cases n with
  | zero => exact .zero
  | succ n =>
    have r := RdB.struct (tot := 2) hbk Tryz.underlying25 rfl (by kernel_rfl) (RdS.cons (k := 1) (by kernel_rfl) (RdB.bool Tryz.underlying4) (RdS.cons (k := 1) (by kernel_rfl) (rdI (enc := enc) (W := W) (spare := spare) (held := held) (bk := bk) (M := M) n) RdS.nil))
    exact RdB.map r (fun x => ⟨x.1, x.2.1⟩) (fun _ _ => rfl) (fun _ _ => trivial)
theorem rdOwn (hbk : Bulk bk M) (n : Nat) : RdB enc Tryz.prog W spare held bk M n 26 (fun x : Int × Int × Int × Int => [.int .i64 x.1, .int .i64 x.2.1, .int .i64 x.2.2.1, .int .i64 x.2.2.2]) (fun _ => True) := by
  cases n with
  | zero => exact .zero
  | succ n =>
    have r := RdB.array (sz := 1) (len := 4) hbk Tryz.underlying26 (by kernel_rfl) (by kernel_rfl) (rdI (enc := enc) (W := W) (spare := spare) (held := held) (bk := bk) (M := M) n)
    exact RdB.map r (fun l => (nth l 0, nth l 1, nth l 2, nth l 3)) (fun l hl => match l, hl.1 with | [_, _, _, _], _ => rfl) (fun _ _ => trivial)
theorem rdVals (hbk : Bulk bk M) (n : Nat) : RdB enc Tryz.prog W spare held bk M n 29 (fun l => [aVals l]) (fun l => l.length ≤ M) := by
  cases n with
  | zero => exact .zero
  | succ n =>
    have r := RdB.slice (sz := 2) hbk Tryz.underlying29 (by kernel_rfl) (by decide) (fun _ => rfl) (rdVal (enc := enc) (W := W) (spare := spare) (held := held) hbk n)
    exact RdB.map r (fun l => l) (fun _ _ => rfl) (fun _ h => h.1)
theorem rdCell (hbk : Bulk bk M) (n : Nat) : RdB enc Tryz.prog W spare held bk M n 31 eCell (fun c => c.fields.length ≤ M) := by
  cases n with
  | zero => exact .zero
  | succ n =>
    have r := RdB.struct (tot := 7) hbk Tryz.underlying31 rfl (by kernel_rfl) (RdS.cons (k := 1) (by kernel_rfl) (rdS (enc := enc) (W := W) (spare := spare) (held := held) hbk n) (RdS.cons (k := 4) (by kernel_rfl) (rdOwn (enc := enc) (W := W) (spare := spare) (held := held) hbk n) (RdS.cons (k := 1) (by kernel_rfl) (rdVals (enc := enc) (W := W) (spare := spare) (held := held) hbk n) (RdS.cons (k := 1) (by kernel_rfl) (RdB.bool Tryz.underlying4) RdS.nil))))
    exact RdB.map r (fun x => ⟨x.1, x.2.1.1, x.2.1.2.1, x.2.1.2.2.1, x.2.1.2.2.2, x.2.2.1, x.2.2.2.1⟩) (fun _ _ => rfl) (fun _ h => h.2.2.1)
theorem rdCells (hbk : Bulk bk M) (n : Nat) : RdB enc Tryz.prog W spare held bk M n 22 (fun l => [aCells l]) (fun l => l.length ≤ M ∧ ∀ c ∈ l, c.fields.length ≤ M) := by
  cases n with
  | zero => exact .zero
  | succ n =>
    have r := RdB.slice (sz := 7) hbk Tryz.underlying22 (by kernel_rfl) (by decide) (fun _ => rfl) (rdCell (enc := enc) (W := W) (spare := spare) (held := held) hbk n)
    exact RdB.map r (fun l => l) (fun _ _ => rfl) (fun _ h => h)
theorem rdTwo (hbk : Bulk bk M) (n : Nat) : RdB enc Tryz.prog W spare held bk M n 23 (fun k : List LCell × List LCell => [aCells k.1, aCells k.2]) (fun k => (k.1.length ≤ M ∧ ∀ c ∈ k.1, c.fields.length ≤ M) ∧ (k.2.length ≤ M ∧ ∀ c ∈ k.2, c.fields.length ≤ M)) := by
  cases n with
  | zero => exact .zero
  | succ n =>
    have r := RdB.array (sz := 1) (len := 2) hbk Tryz.underlying23 (by kernel_rfl) (by kernel_rfl) (rdCells (enc := enc) (W := W) (spare := spare) (held := held) hbk n)
    exact RdB.map r (fun l => (nth l 0, nth l 1)) (fun l hl => match l, hl.1 with | [_, _], _ => rfl)
      (fun l hl => match l, hl.1, hl.2 with | [a, b], _, h => ⟨h a (List.mem_cons_self ..), h b (List.mem_cons_of_mem _ (List.mem_cons_self ..))⟩)
theorem rdEv (hbk : Bulk bk M) (n : Nat) : RdB enc Tryz.prog W spare held bk M n 28 eEv (fun _ => True) := by
  cases n with
  | zero => exact .zero
  | succ n =>
    have r := RdB.struct (tot := 10) hbk Tryz.underlying28 rfl (by kernel_rfl) (RdS.cons (k := 1) (by kernel_rfl) (rdI (enc := enc) (W := W) (spare := spare) (held := held) (bk := bk) (M := M) n) (RdS.cons (k := 1) (by kernel_rfl) (rdI n) (RdS.cons (k := 1) (by kernel_rfl) (rdI n) (RdS.cons (k := 1) (by kernel_rfl) (rdS hbk n) (RdS.cons (k := 2) (by kernel_rfl) (rdVal hbk n) (RdS.cons (k := 4) (by kernel_rfl) (rdOwn hbk n) RdS.nil))))))
    exact RdB.map r (fun x => ⟨x.1, x.2.1, x.2.2.1, x.2.2.2.1, x.2.2.2.2.1, x.2.2.2.2.2.1.1, x.2.2.2.2.2.1.2.1, x.2.2.2.2.2.1.2.2.1, x.2.2.2.2.2.1.2.2.2⟩) (fun _ _ => rfl) (fun _ _ => trivial)
end
def wordsL : List (List UInt8) := [[99, 108, 97, 115, 115], [101, 120, 116, 101, 110, 100, 115], [114, 101, 112], [112, 101, 101, 114], [119, 111, 114, 108, 100], [97, 110, 121], [117, 110, 105, 113, 117, 101], [112, 117, 114, 101], [118, 111, 105, 100], [105, 110, 116], [105, 102], [101, 108, 115, 101], [119, 104, 105, 108, 101], [114, 101, 116, 117, 114, 110], [110, 101, 119], [109, 111, 118, 101], [100, 101, 108, 101, 116, 101], [116, 104, 105, 115], [110, 117, 108, 108], [105, 110, 112, 117, 116], [110, 105, 108], [115, 97, 109, 101], [99, 97, 115, 116]]
theorem txt_words : txt wordsL = words := by kernel_rfl
theorem gt_of {W : World} (h : laidMet Tryz.prog Rows.watchTellsRow.laid W) : GOk E1.GT (mb W) := by
  obtain ⟨arr, h1, h2, h3⟩ := laid_txt (ls := wordsL) (rest := []) (g := 0) (len := 23) (show Tryz.prog.globalNamed "demesne/word.words" = some 0 by kernel_rfl) (show (Tryz.prog.globals[0]?).map (·.type) = some 339 by kernel_rfl) Tryz.underlying339 Tryz.underlying9 (by kernel_rfl) (by kernel_rfl) h
  rw [txt_words] at h2 h3
  intro g cs hg
  cases g with
  | zero => cases hg; exact ⟨arr, h1, h2, h3⟩
  | succ g => cases hg
theorem nth_mem {α : Type} [Inhabited α] {l : List α} {j : Nat} (h : j < l.length) : nth l (j : Int) ∈ l := by
  rw [nth_cast _ _ h]; exact List.getElem_mem h
theorem top (hA : PF Tryz.prog E1.GT 4 [] (.bool true)) {H : Type} {enc : TypeId × Value → H} {W : World} {v0 v1 : Value} {d0 d1 : DataW H} {p0 p1 : List MemPlace} (hL : laidMet Tryz.prog Rows.watchTellsRow.laid W) (h0 : DataW.Trod enc Tryz.prog W 0 (fun _ => true) true 23 v0 d0 p0)
    (h1 : DataW.Trod enc Tryz.prog W 0 (fun _ => true) true 28 v1 d1 p1) : Calls Tryz.prog 3 #[v0, v1] W fun e W' => e = .returned (.bool true) ∧ Below W.heap.size W W' := by
  obtain ⟨n0, h0⟩ := h0
  obtain ⟨n1, h1⟩ := h1
  obtain ⟨k, k1, ⟨k2, k3⟩, k4, k5⟩ := rdTwo Bulk.free n0 _ _ _ h0 (Nat.zero_le _)
  obtain ⟨e, e1, _⟩ := rdEv Bulk.free n1 _ _ _ h1 (Nat.zero_le _)
  have hm : maxLen = 9223372036854775807 := rfl
  rw [hm] at k2 k3 k4 k5
  refine PF.top (Law3 k.1 k.2 e hA (by omega) (by omega) (fun j hj => by have := k3 _ (nth_mem hj); omega) (fun j hj => by have := k5 _ (nth_mem hj); omega)) (gt_of hL) ?_
  exact .cons (VRel.agg_of k1 (fun h => by cases h)) (.cons (VRel.agg_of e1 (fun h => by cases h)) .nil)
theorem laidOut : laidOutB Tryz.prog = true := by kernel_rfl
theorem contract (hA : PF Tryz.prog E1.GT 4 [] (.bool true)) (H : Type) (enc : TypeId × Value → H) (W : World) (args : Array Value) (ds gs : List (DataW H)) (before : List MemPlace)
    (hW : DataW.Whole enc Tryz.prog Tryz.f3.params.toList Rows.watchTellsSpec.vars false W args.toList ds gs before) (hL : laidMetH Tryz.prog Rows.watchTellsRow.laid W) :
    Calls Tryz.prog 3 args W fun e W' => ∃ v, e = .returned v ∧ Rows.watchTellsSpec.post enc Tryz.prog Tryz.f3 false true false false W args v W' := by
  have hW' := hW
  have hlt : ∀ x ∈ before, x.block < W.heap.size := fun x hx => hW.lt x hx
  obtain ⟨p, q, hA0, hV, rfl, _, _⟩ := hW
  have hA1 : DataW.TrodAll enc Tryz.prog W 0 (fun _ => true) true Tryz.f3.params.toList args.toList ds p := hA0
  have hA2 := hA1
  rw [Tryz.params3] at hA1
  obtain ⟨v0, v1, d0, d1, p0, p1, rfl, rfl, rfl, h0, h1⟩ := trodAll_two hA1
  obtain ⟨rfl, rfl⟩ := trodVars_none hV
  rw [Go.MakeChecks.laidMetH_plain _ _ _ (by kernel_rfl)] at hL
  refine (top hA hL h0 h1).mono fun e W' ⟨he, hb⟩ => ?_
  subst he
  have hlater := trodAll_later laidOut hb (ts := Tryz.f3.params.toList) (fun t ht => by
    rw [Tryz.params3] at ht
    have : t = 23 ∨ t = 28 := by simpa using ht
    rcases this with rfl | rfl <;> exact ⟨by kernel_rfl, of_decide_eq_true (by kernel_rfl)⟩) (fun x hx => hlt x (List.mem_append_left _ hx)) hA2
  exact ⟨_, rfl, _, _, _, [], _, [], hW', trodAll_mk1 (shut_bool Tryz.underlying4 _), hlater, rfl, hb.frame _, fun h => by cases h⟩
end
end Go.Ev
