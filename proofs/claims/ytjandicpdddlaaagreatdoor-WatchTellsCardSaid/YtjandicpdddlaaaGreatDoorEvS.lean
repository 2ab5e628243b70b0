/-
  An evaluator of runs and its soundness, part S. No condition of its own.
-/
import Derived.Test.YtjandicpdddlaaaGreatDoorEvL
import Derived.Lib.ConvBytes
import Derived.Laws.BytesString
namespace Go.Ev
noncomputable section

/-! ### Strings to bytes and back -/
def byteL : List AV → Option (List Nat)
  | [] => some []
  | v :: l => match v with
    | .int k n => match k with
      | .u8 => match byteL l with
        | some r => some (Nat.mod n.toNat 256 :: r)
        | none => none
      | _ => none
    | _ => none
theorem byteL_sound {m : Mp} : ∀ {cs : List AV} {l : List Nat} {vs : List Value}, byteL cs = some l → LRel m cs vs →
    ∃ ns : List Int, vs = ns.map (Value.int .u8) ∧ l = ns.map (fun n => n.toNat % 256)
  | [], _, _, h, .nil => by cases h; exact ⟨[], rfl, rfl⟩
  | v :: cs, l, _, h, .cons hv t => by
    simp only [byteL] at h
    split at h
    · rename_i k n
      split at h
      · split at h
        · rename_i r hr
          cases h
          cases hv
          obtain ⟨ns, e1, e2⟩ := byteL_sound hr t
          exact ⟨n :: ns, by rw [e1]; rfl, by rw [e2]; rfl⟩
        · cases h
      · cases h
    · cases h
theorem bytesOf_push (r : ByteArray) (b : UInt8) : bytesOf (r.push b) = bytesOf r ++ [b.toNat] := by
  unfold bytesOf
  simp [ByteArray.push]
theorem bytesOf_pushes : ∀ (ns : List Int) (r : ByteArray), bytesOf (ns.foldl (fun r n => r.push (UInt8.ofNat n.toNat)) r) = bytesOf r ++ ns.map (fun n => n.toNat % 256)
  | [], r => by simp
  | n :: ns, r => by
    rw [List.foldl_cons, bytesOf_pushes ns, bytesOf_push]
    simp [UInt8.toNat_ofNat']

def aconvH (P : Program) (src dst : TypeId) (x : AV) (h : Hp) : Option (AV × Hp) :=
  match P.underlying src with
  | some s => match P.underlying dst with
    | some (.slice e) => match P.underlying e with
      | some (.int .u8) => match x with
        | .str l => some (.slice h.next 0 l.length (.te 1), h.alloc (.cells (l.map fun n => .int .u8 (.ofNat n)) true true))
        | _ => none
      | _ => none
    | some .string => match s with
      | .slice e => match P.underlying e with
        | some (.int .u8) => match x with
          | .slice b o len cap => match acells h 1 len (.slice b o len cap) with
            | some cs => match byteL cs with
              | some l => some (.str l, h)
              | none => none
            | none => none
          | .nilSlice => some (.str [], h)
          | .empty => some (.str [], h)
          | _ => none
        | _ => none
      | _ => keep' h (aconv P src dst x)
    | some (.int _) => keep' h (aconv P src dst x)
    | _ => none
  | none => none
  where keep' (h : Hp) : Option AV → Option (AV × Hp)
  | some v => some (v, h)
  | none => none

theorem bytesWorld_eq (w : World) (e : TypeId) (s : ByteArray) :
    Lib.bytesWorld w e s = w.drew.alloc (.cells (Lib.bytesCells w e s) e ((Lib.bytesCells w e s).size, (Lib.bytesCells w e s).size + 1)) := by
  unfold Lib.bytesWorld
  have hm : ∀ (a : Array Obj) (x : Obj) (f : Obj → Obj), (a.push x).modify a.size f = a.push (f x) := by
    intro a x f
    apply Array.ext
    · simp
    · intro i h1 h2
      simp only [Array.getElem_modify, Array.getElem_push]
      by_cases h : a.size = i
      · subst h
        simp
      · have hi : i < a.size := by simp at h1; omega
        simp [h, hi]
  unfold World.freeze
  rw [if_neg (by decide)]
  show ({ w.drew.alloc (.cells (Lib.bytesCells w e s) e) with heap := (w.drew.heap.push (.cells (Lib.bytesCells w e s) e)).modify w.drew.heap.size _ } : World) = _
  rw [hm]
  rfl

theorem LRel.bytes {m : Mp} : ∀ (l : List UInt8), LRel m ((l.map UInt8.toNat).map fun n => .int .u8 (.ofNat n)) (l.map fun b => Value.int .u8 b.toNat)
  | [] => .nil
  | b :: l => .cons (.int _ _) (LRel.bytes l)

theorem aconvH_sound {P : Program} {m : Mp} {h h' : Hp} {w : World} (H : HRel m h w) {src dst : TypeId} {x : AV} {x' : Value} {V : AV} (hx : VRel m x x') (he : aconvH P src dst x h = some (V, h')) :
    Does P m h w (convert src dst x') V h' := by
  have kp : ∀ {o : Option AV}, aconvH.keep' h o = some (V, h') → o = some V ∧ h' = h := by
    intro o ho
    cases o with
    | none => cases ho
    | some v => cases ho; exact ⟨rfl, rfl⟩
  unfold aconvH at he
  split at he
  · rename_i s hs
    split at he
    · rename_i e hd
      split at he
      · rename_i hu
        split at he
        · rename_i l
          cases he
          cases hx with
          | @str _ sb _ hsb =>
            subst hsb
            have hcap : sb.size ≤ grownCap w sb.size 0 e := by
              simp only [grownCap, Question.cut]
              exact Nat.le_add_right _ _
            have hsz : (Lib.bytesCells w e sb).size = grownCap w sb.size 0 e := by
              have : sb.data.size = sb.size := rfl
              simp only [Lib.bytesCells, Array.size_append, Array.size_map, Array.size_replicate]
              omega
            have hlen : (bytesOf sb).length = sb.size := bytesOf_length sb
            have hor : ORel m (.cells ((bytesOf sb).map fun n => .int .u8 (.ofNat n)) true true) ⟨w.drew.heap.size, 0, grownCap w sb.size 0 e⟩
                (.cells (Lib.bytesCells w e sb) e ((Lib.bytesCells w e sb).size, (Lib.bytesCells w e sb).size + 1)) := by
              have c1 : 0 + ((bytesOf sb).map fun n => (AV.int .u8 (.ofNat n))).length ≤ grownCap w sb.size 0 e := by
                rw [List.length_map, hlen]; omega
              have hl : ((Lib.bytesCells w e sb).toList.drop 0).take (((bytesOf sb).map fun n => (AV.int .u8 (.ofNat n))).length) = sb.data.toList.map fun b => Value.int .u8 b.toNat := by
                rw [List.length_map, hlen, List.drop_zero, Lib.bytesCells, Array.toList_append, List.take_append_of_le_length (by simp), List.take_of_length_le (by simp)]
                simp
              have c2 : LRel m ((bytesOf sb).map fun n => (AV.int .u8 (.ofNat n))) (((Lib.bytesCells w e sb).toList.drop 0).take (((bytesOf sb).map fun n => (AV.int .u8 (.ofNat n))).length)) := by
                rw [hl]
                exact LRel.bytes _
              have c3 : ∀ i, 0 ≤ i → i < grownCap w sb.size 0 e → ¬ ((Lib.bytesCells w e sb).size ≤ i ∧ i < (Lib.bytesCells w e sb).size + 1) := by
                intro i _ h1 h2
                omega
              exact ⟨hsz, c1, fun hh => absurd hh (by decide), c2, fun _ => c3⟩
            obtain ⟨r1, r2⟩ := H.drew.alloc hor
            refine ⟨_, _, m.ext h.next ⟨w.drew.heap.size, 0, grownCap w sb.size 0 e⟩, Lib.run_convert_string_bytes w src dst e sb hs hd hu, ?_, ?_, ?_⟩
            · rw [bytesWorld_eq]; exact r1
            · rw [bytesWorld_eq]; exact (Ext.drew m h w).trans r2
            · rw [hlen]
              exact VRel.slice (x := ⟨w.drew.heap.size, 0, grownCap w sb.size 0 e⟩) (Mp.ext_same _ _ _) (by show 0 + 0 + grownCap w sb.size 0 e * 1 = grownCap w sb.size 0 e; omega) hcap
        · cases he
      · cases he
    · rename_i hd
      split at he
      · rename_i e
        split at he
        · rename_i hu
          split at he
          · rename_i b o len cap
            split at he
            · rename_i cs hcs
              split at he
              · rename_i l hl
                cases he
                obtain ⟨arr, q1, q2, q3⟩ := acells_sound (P := P) H hx hcs
                obtain ⟨ns, e1, e2⟩ := byteL_sound hl q3
                cases hx with
                | @slice _ _ _ _ _ blk c hm hc hle =>
                  have hrun : (loadCells ⟨blk.c, blk.base + o, none⟩ len).run P w = .ok (ns.map (Value.int .u8)).toArray w := by
                    have harr : arr = (ns.map (Value.int .u8)).toArray := by rw [← e1]
                    rw [← harr]
                    simpa [Builtin.firstCells] using q1
                  refine ⟨_, w, m, (run_convert_bytes_string w src dst e _ _ _ hs hu hd).trans (run_bytesToString w _ _ _ ns hrun), H, Ext.refl _ _ _, .str ?_⟩
                  rw [bytesOf_pushes, e2]
                  rfl
              · cases he
            · cases he
          · cases he; cases hx
            exact ⟨_, w, m, (run_convert_bytes_string w src dst e _ _ _ hs hu hd).trans (by simp [Conv.bytesToString]; rfl), H, Ext.refl _ _ _, .str rfl⟩
          · cases he; cases hx
            exact ⟨_, w, m, (run_convert_bytes_string w src dst e _ _ _ hs hu hd).trans (run_bytesToString w _ _ _ [] (by simp [loadCells, loadCellsFrom])), H, Ext.refl _ _ _, .str rfl⟩
          · cases he
        · cases he
      · obtain ⟨k1, k2⟩ := kp he
        subst k2
        exact Pu.does H (aconv_sound hx k1)
    · obtain ⟨k1, k2⟩ := kp he
      subst k2
      exact Pu.does H (aconv_sound hx k1)
    · cases he
  · cases he
end
end Go.Ev
