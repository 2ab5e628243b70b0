/-
  An evaluator of runs and its soundness, part J. No condition of its own.
-/
import Derived.Test.YtjandicpdddlaaaGreatDoorEvI
namespace Go.Ev
noncomputable section

def srcOf (P : Program) (h : Hp) (sz bytes : Nat) (e : TypeId) (xt : TypeDesc) (x : AV) : Option (Nat × List AV) :=
  match xt with
  | .int _ => match natOf x with
    | some n => match zeroA P e with
      | some z => match Nat.ble n 281474976710656, Nat.ble (Nat.mul n bytes) 281474976710656, Nat.ble 1 (Nat.mul n sz), Nat.ble 1 z.cells.length with
        | true, true, true, true => some (n, azeros z.cells (Nat.mul n z.cells.length))
        | _, _, _, _ => none
      | none => none
    | none => none
  | .slice _ => match alenV x with
    | some n => match acells h sz n x with
      | some cs => some (n, cs)
      | none => none
    | none => none
  | .string => match alenV x with
    | some n => match acells h sz n x with
      | some cs => some (n, cs)
      | none => none
    | none => none
  | _ => none
theorem srcOf_sound {P : Program} {m : Mp} {h : Hp} {w : World} (H : HRel m h w) {e : TypeId} {ie : TypeInfo} (hie : P.info? e = some ie) {xt : TypeDesc} {x : AV} {x' : Value} {n : Nat} {new : List AV}
    (hx : VRel m x x') (he : srcOf P h ie.size ie.bytes e xt x = some (n, new)) : ∃ new', Src P e ie.size xt x' w n new' ∧ LRel m new new'.toList := by
  unfold srcOf at he
  split at he
  · rename_i k
    split at he
    · rename_i n' hn
      split at he
      · rename_i z hz
        split at he
        · rename_i a1 a2 a3 a4
          cases he
          obtain ⟨k', rfl⟩ := natOf_rel hx hn
          have hzs := fun w0 => zeroA_sound (m := m) hz w0
          obtain ⟨zv, rz, hzv⟩ := hzs w
          have hall : ∀ w0, (zeroValue e).run P w0 = .ok zv w0 := by
            intro w0
            obtain ⟨zv0, rz0, _⟩ := hzs w0
            unfold zeroA at hz
            rw [hie] at hz
            simp only at hz
            split at hz
            · rename_i v hv
              rw [run_zero w hie hv] at rz
              cases rz
              exact run_zero w0 hie hv
            · cases hz
          have hzl := hzv.cells.length
          simp only [Array.length_toList] at hzl
          refine ⟨_, .inr ⟨⟨k, rfl⟩, ⟨k', rfl⟩, ble_le a1, ⟨ie, hie, ble_le a2⟩, ble_le a3, zv, hall, rfl⟩, ?_⟩
          have := azeros_rel hzv.cells (n * z.cells.length) (ble_le a4)
          unfold Builtin.zeroCells
          rw [hzl]
          rw [hzl] at this
          exact this
        · cases he
      · cases he
    · cases he
  all_goals first
    | (cases he; done)
    | (split at he
       · rename_i n' hn
         split at he
         · rename_i cs hcs
           cases he
           obtain ⟨arr, r1, r2, r3⟩ := acells_sound (P := P) H hx hcs
           exact ⟨arr, .inl ⟨by simp, fun w0 => alenV_sound hx hn w0, r1, r2⟩, r3⟩
         · cases he
       · cases he)

/-- Room for a new row. -/
def growOk (P : Program) (e : TypeId) (sz bytes need : Nat) : Bool :=
  match zeroA P e with
  | some z => match Nat.beq z.cells.length sz with
    | true => match Nat.ble need 9223372036854775807 with
      | true => Nat.ble (Nat.mul (Nat.add (Nat.mul 2 need) 512) bytes) 281474976710656
      | false => false
    | false => false
  | none => false
def aappendS (h : Hp) (sz n : Nat) (new : List AV) (grow : Nat → Bool) (s : AV) : Option (AV × Hp) :=
  match s with
  | .nilSlice => match grow n with
    | true => some (.slice h.next 0 n (.te sz), h.alloc (.cells new true true))
    | false => none
  | .slice b o len cap => match h.get b with
    | some (.cells cs wr op) => match Nat.ble (Nat.add o (Nat.mul len sz)) cs.length with
      | true => match cap with
        | .ex k => match Nat.ble (Nat.add len n) k with
          | true => match wr, Nat.ble (Nat.add o (Nat.mul (Nat.add len n) sz)) cs.length, new.all AV.one with
            | true, true, true => some (.slice b o (Nat.add len n) (.ex k), h.set b (.cells (spliceL cs (Nat.add o (Nat.mul len sz)) new) true op))
            | _, _, _ => none
          | false => match grow (Nat.add len n) with
            | true => some (.slice h.next 0 (Nat.add len n) (.te sz), h.alloc (.cells ((cs.drop o).take (Nat.mul len sz) ++ new) true true))
            | false => none
        | .te s2 => match Nat.beq s2 sz with
          | true => match Nat.ble (Nat.add o (Nat.mul (Nat.add len n) sz)) cs.length with
            | true => match wr, new.all AV.one with
              | true, true => some (.slice b o (Nat.add len n) (.te sz), h.set b (.cells (spliceL cs (Nat.add o (Nat.mul len sz)) new) true op))
              | _, _ => none
            | false => match Nat.beq (Nat.add o (Nat.mul len sz)) cs.length, grow (Nat.add len n) with
              | true, true => match op with
                | false => some (.slice h.next 0 (Nat.add len n) (.te sz), h.alloc (.cells ((cs.drop o).take (Nat.mul len sz) ++ new) true true))
                | true => match wr, new.all AV.one with
                  | true, true => some (.slice h.next 0 (Nat.add len n) (.te sz), (h.kill b).alloc (.cells ((cs.drop o).take (Nat.mul len sz) ++ new) true true))
                  | _, _ => none
              | _, _ => none
          | false => none
      | false => none
    | _ => none
  | _ => none
def isSl : AV → Bool
  | .slice _ _ _ _ => true
  | .nilSlice => true
  | .empty => true
  | _ => false
def aappend (P : Program) (h : Hp) (st xtid : TypeId) (s x : AV) : Option (AV × Hp) :=
  match P.underlying st, P.underlying xtid with
  | some (.slice e), some xt => match P.info? e with
    | some ie => match srcOf P h ie.size ie.bytes e xt x with
      | some (n, new) => match Nat.beq new.length (Nat.mul n ie.size), Nat.ble 1 ie.size with
        | true, true => match n with
          | 0 => match isSl s with | true => some (s, h) | false => none
          | k + 1 => aappendS h ie.size (k + 1) new (growOk P e ie.size ie.bytes) s
        | _, _ => none
      | none => none
    | none => none
  | _, _ => none

theorem growOk_sound {P : Program} {m : Mp} {e : TypeId} {sz bytes need : Nat} (h : growOk P e sz bytes need = true) :
    ∃ z : Value, (∀ w0, (zeroValue e).run P w0 = .ok z w0) ∧ z.cells.size = sz ∧ need ≤ 9223372036854775807 ∧ (2 * need + 512) * bytes ≤ 281474976710656 := by
  unfold growOk at h
  split at h
  · rename_i z hz
    split at h
    · rename_i e1
      split at h
      · rename_i e2
        unfold zeroA at hz
        split at hz
        · rename_i i hi
          split at hz
          · rename_i v hv
            have hr := ofV_rel m v z hz
            have hl := hr.cells.length
            simp only [Array.length_toList] at hl
            exact ⟨v, fun w0 => run_zero w0 hi hv, hl.trans (beq_eq e1), ble_le e2, ble_le h⟩
          · cases hz
        · cases hz
      · cases h
    · cases h
  · cases h

theorem zeroCells_size (z : Array Value) (n : Nat) : (Builtin.zeroCells z n).size = n * z.size := by simp [Builtin.zeroCells]

/-- A new row by append: what the law needs of the elder row is its cells alone. -/
theorem append_new {P : Program} {m : Mp} {h : Hp} {w : World} (H : HRel m h w) {ats : Array TypeId} {ty st xtid e : TypeId} {ie : TypeInfo} {xt : TypeDesc} {args : Array Value} {base : Option Addr}
    {sLen sCap n : Nat} {x : Value} {new' old' : Array Value} {old new : List AV}
    (h0 : ats[0]? = some st) (h1 : ats[1]? = some xtid) (h2 : args[0]? = some (.slice base sLen sCap)) (h3 : args[1]? = some x)
    (ht : P.underlying st = some (.slice e)) (hxt : P.underlying xtid = some xt) (hie : P.info? e = some ie) (hs : Src P e ie.size xt x w n new') (hneed : ¬ sLen + n ≤ sCap)
    (hg : growOk P e ie.size ie.bytes (sLen + n) = true) (hold : (Builtin.firstCells ie.size sLen (.slice base sLen sCap)).run P w.drew = .ok old' w.drew)
    (ho : LRel m old old'.toList) (hn : LRel m new new'.toList) (hol : old.length = sLen * ie.size) (hnl : new.length = n * ie.size) :
    Does P m h w (Builtin.append_ ats ty args) (.slice h.next 0 (sLen + n) (.te ie.size)) (h.alloc (.cells (old ++ new) true true)) := by
  obtain ⟨z, hz, hzs, g1, g2⟩ := growOk_sound (m := m) hg
  obtain ⟨newCap, hle, hrun⟩ := append_out (ty := ty) h0 h1 h2 h3 ht hxt hie hs hneed g1 g2 hold hz
  have l1 := ho.length
  have l2 := hn.length
  simp only [Array.length_toList] at l1 l2
  have hsize : (old' ++ new' ++ Builtin.zeroCells z.cells (newCap - (sLen + n))).size = newCap * ie.size := by
    simp only [Array.size_append, zeroCells_size, l1, l2, hol, hnl, hzs]
    rw [← Nat.add_mul, ← Nat.add_mul]
    congr 1; omega
  have hor : ORel m (.cells (old ++ new) true true) ⟨w.drew.heap.size, 0, newCap * ie.size⟩ (.cells (old' ++ new' ++ Builtin.zeroCells z.cells (newCap - (sLen + n))) e (0, 0)) := by
    refine ⟨hsize, ?_, (fun hh => by cases hh), ?_, fun i _ _ hh => by omega⟩
    · show 0 + (old ++ new).length ≤ newCap * ie.size
      simp only [List.length_append, hol, hnl, Nat.zero_add]
      rw [← Nat.add_mul]
      exact Nat.mul_le_mul_right _ hle
    · simp only [List.drop_zero, Array.toList_append]
      rw [List.take_append_of_le_length (by simp; omega), List.take_of_length_le (by simp; omega)]
      exact ho.append hn
  obtain ⟨r1, r2⟩ := H.drew.alloc hor
  have hv : VRel (m.ext h.next ⟨w.drew.heap.size, 0, newCap * ie.size⟩) (.slice h.next 0 (sLen + n) (.te ie.size)) (.slice (some ⟨w.drew.heap.size, 0, none⟩) (sLen + n) newCap) :=
    .slice (x := ⟨w.drew.heap.size, 0, newCap * ie.size⟩) (Mp.ext_same _ _ _) (by show 0 + 0 + newCap * ie.size = newCap * ie.size; omega) hle
  exact ⟨_, _, _, hrun, r1, (Ext.drew m h w).trans r2, hv⟩

theorem aappendS_sound {P : Program} {m : Mp} {h h' : Hp} {w : World} (H : HRel m h w) {ats : Array TypeId} {ty st xtid e : TypeId} {ie : TypeInfo} {xt : TypeDesc} {args : Array Value} {n : Nat}
    {s : AV} {s' x : Value} {new' : Array Value} {new : List AV} {V : AV}
    (h0 : ats[0]? = some st) (h1 : ats[1]? = some xtid) (h2 : args[0]? = some s') (h3 : args[1]? = some x)
    (ht : P.underlying st = some (.slice e)) (hxt : P.underlying xtid = some xt) (hie : P.info? e = some ie) (hs : Src P e ie.size xt x w n new') (hn : LRel m new new'.toList)
    (hnl : new.length = n * ie.size) (hsz : 1 ≤ ie.size) (hn0 : 0 < n) (hsv : VRel m s s') (he : aappendS h ie.size n new (growOk P e ie.size ie.bytes) s = some (V, h')) :
    Does P m h w (Builtin.append_ ats ty args) V h' := by
  unfold aappendS at he
  split at he
  · split at he
    · rename_i hg
      cases he
      cases hsv
      have := append_new (ty := ty) H h0 h1 h2 h3 ht hxt hie hs (by omega) (by simpa using hg) (old := []) (old' := #[]) (by simp [Builtin.firstCells]) .nil hn (by simp) hnl
      simpa using this
    · cases he
  · rename_i b o len cap
    split at he
    · rename_i cs wr op hb
      cases hsv with
      | @slice _ _ _ _ _ blk c hm hc hl =>
        obtain ⟨x', arr, et, fr, g1, g2, g3, g4, g5, g6, g7⟩ := H.cells hb
        rw [hm] at g1; cases g1
        split at he
        · rename_i hle
          have hle' : o + len * ie.size ≤ cs.length := ble_le hle
          have holdl : ((cs.drop o).take (len * ie.size)).length = len * ie.size := by simp; omega
          have hold := g6.sub hle'
          have g2d : w.drew.heap[blk.c]? = some (.cells arr et fr) := g2
          have hfirst : (Builtin.firstCells ie.size len (.slice (some ⟨blk.c, blk.base + o, none⟩) len c)).run P w.drew = .ok (((arr.toList.drop (blk.base + o)).take (len * ie.size)).toArray) w.drew := by
            simp only [Builtin.firstCells]
            exact run_loadCells g2d _ _ (by omega)
          have inplace : len + n ≤ c → wr = true → o + (len + n) * ie.size ≤ cs.length → new.all AV.one = true →
              Does P m h w (Builtin.append_ ats ty args) (.slice b o (len + n) cap) (h.set b (.cells (spliceL cs (o + len * ie.size) new) true op)) := by
            intro q1 q2 q3 q4
            subst q2
            have q3' : o + len * ie.size + new.length ≤ cs.length := by
              rw [hnl, Nat.add_assoc, ← Nat.add_mul]; exact q3
            obtain ⟨w', r1, r2, r3⟩ := H.splice (P := P) (o := o + len * ie.size) hb hm hn q3' q4
            refine ⟨.slice (some ⟨blk.c, blk.base + o, none⟩) (len + n) c, w', m, ?_, r2, r3, .slice hm hc q1⟩
            rw [append_in (ty := ty) h0 h1 h2 h3 ht hxt hie hs q1]
            simp only [addr_add]
            rw [Nat.add_assoc]
            rw [r1]
            rfl
          split at he
          · rename_i k
            cases hc
            split at he
            · rename_i hk
              split at he
              · rename_i q2 q3
                cases he
                exact inplace (ble_le hk) rfl (ble_le q2) q3
              · cases he
            · rename_i hk
              split at he
              · rename_i hg
                cases he
                have hk' : ¬ len + n ≤ c := fun hh => by
                  have := Nat.ble_eq_true_of_le hh
                  rw [show Nat.ble (Nat.add len n) c = Nat.ble (len + n) c from rfl] at hk
                  rw [this] at hk; cases hk
                exact append_new (ty := ty) H h0 h1 h2 h3 ht hxt hie hs hk' hg hfirst hold hn holdl hnl
              · cases he
          · rename_i s2
            have hc' : blk.base + o + c * s2 = blk.lim := hc
            split at he
            · rename_i e2
              have e2' := beq_eq e2
              subst e2'
              split at he
              · rename_i q3
                split at he
                · rename_i q4
                  cases he
                  have q3' : o + (len + n) * ie.size ≤ cs.length := ble_le q3
                  have : (len + n) * ie.size ≤ c * ie.size := by omega
                  exact inplace (Nat.le_of_mul_le_mul_right this hsz) rfl q3' q4
                · cases he
              · split at he
                · rename_i e3 hg
                  have e3' : o + len * ie.size = cs.length := beq_eq e3
                  split at he
                  · cases he
                    have hcl := g5 rfl
                    have hk' : ¬ len + n ≤ c := by
                      intro hh
                      have h4 : (len + n) * ie.size ≤ c * ie.size := Nat.mul_le_mul_right _ hh
                      have h5 : (len + n) * ie.size = len * ie.size + n * ie.size := Nat.add_mul _ _ _
                      have h6 : 1 ≤ n * ie.size := Nat.mul_pos hn0 hsz
                      omega
                    exact append_new (ty := ty) H h0 h1 h2 h3 ht hxt hie hs hk' hg hfirst hold hn holdl hnl
                  · split at he
                    · rename_i q4
                      cases he
                      by_cases hfit : len + n ≤ c
                      · -- within the block: it goes on under a new name
                        have h4 : (len + n) * ie.size ≤ c * ie.size := Nat.mul_le_mul_right _ hfit
                        have h5 : (len + n) * ie.size = len * ie.size + n * ie.size := Nat.add_mul _ _ _
                        have l2 := hn.length
                        have hroom : blk.base + o + len * ie.size + new'.toList.length ≤ arr.size := by rw [l2, hnl, g3]; omega
                        have hrun := run_storeCells (P := P) (blk.base + o + len * ie.size) new'.toList 0 w arr g2 (fun j hj hj' => g7 rfl j (by omega) (by omega)) (by omega) (hn.one q4)
                        simp only [Nat.add_zero] at hrun
                        have hor : ORel m (.cells ((cs.drop o).take (len * ie.size) ++ new) true true) ⟨blk.c, blk.base + o, blk.lim⟩ (.cells (spl arr (blk.base + o + len * ie.size) new'.toList) et fr) := by
                          refine ⟨by rw [spl_size]; exact g3, ?_, (fun hh => by cases hh), ?_, fun _ i hi hi' => g7 rfl i (by have : blk.base + o ≤ i := hi; omega) hi'⟩
                          · show blk.base + o + _ ≤ blk.lim
                            simp only [List.length_append, holdl, hnl]
                            omega
                          · have hL : (arr.toList.take (blk.base + o + len * ie.size)).length = blk.base + o + len * ie.size := by simp; omega
                            have hL2 : ((arr.toList.drop (blk.base + o)).take (len * ie.size)).length = len * ie.size := by simp; omega
                            have e6 : blk.base + o + len * ie.size - (blk.base + o) = len * ie.size := by omega
                            have key : ((spl arr (blk.base + o + len * ie.size) new'.toList).toList.drop (blk.base + o)).take ((cs.drop o).take (len * ie.size) ++ new).length =
                                (arr.toList.drop (blk.base + o)).take (len * ie.size) ++ new'.toList := by
                              rw [spl_toList _ _ _ hroom, List.append_assoc, List.drop_append_of_le_length (by omega), List.drop_take, e6, List.length_append, holdl, ← l2, ← List.append_assoc]
                              rw [List.take_append_of_le_length (by simp only [List.length_append, hL2]; omega)]
                              exact List.take_of_length_le (by simp only [List.length_append, hL2]; omega)
                            show LRel m _ (((spl arr (blk.base + o + len * ie.size) new'.toList).toList.drop (blk.base + o)).take ((cs.drop o).take (len * ie.size) ++ new).length)
                            rw [key]
                            exact hold.append hn
                        obtain ⟨r1, r2⟩ := H.rename hb rfl hm hor
                        have hv : VRel (m.ext h.next ⟨blk.c, blk.base + o, blk.lim⟩) (.slice h.next 0 (len + n) (.te ie.size)) (.slice (some ⟨blk.c, blk.base + o, none⟩) (len + n) c) :=
                          .slice (x := ⟨blk.c, blk.base + o, blk.lim⟩) (Mp.ext_same _ _ _) (by show blk.base + o + 0 + c * ie.size = blk.lim; omega) hfit
                        refine ⟨_, _, _, ?_, r1, r2, hv⟩
                        rw [append_in (ty := ty) h0 h1 h2 h3 ht hxt hie hs hfit]
                        simp only [addr_add, hrun, Result.andThen_ok]
                      · obtain ⟨k1, k2⟩ := H.kill hb rfl
                        obtain ⟨v, w', m', r1, r2, r3, r4⟩ := append_new (ty := ty) k1 h0 h1 h2 h3 ht hxt hie hs hfit hg hfirst hold hn holdl hnl
                        exact ⟨v, w', m', r1, r2, k2.trans r3, r4⟩
                    · cases he
                · cases he
            · cases he
        · cases he
    · cases he
  · cases he

theorem aappend_sound {P : Program} {m : Mp} {h h' : Hp} {w : World} (H : HRel m h w) {ats : Array TypeId} {ty st xtid : TypeId} {args : Array Value}
    {s x : AV} {s' x' : Value} {V : AV} (h0 : ats[0]? = some st) (h1 : ats[1]? = some xtid) (h2 : args[0]? = some s') (h3 : args[1]? = some x')
    (hsv : VRel m s s') (hx : VRel m x x') (he : aappend P h st xtid s x = some (V, h')) : Does P m h w (Builtin.append_ ats ty args) V h' := by
  unfold aappend at he
  split at he
  · rename_i e xt ht hxt
    split at he
    · rename_i ie hie
      split at he
      · rename_i n new hsrc
        obtain ⟨new', hs, hn⟩ := srcOf_sound H hie hx hsrc
        split at he
        · rename_i a1 a2
          have hnl := beq_eq a1
          split at he
          · split at he
            · rename_i hisl
              cases he
              have hnil : new'.toList = [] := by
                have := hn.length
                rw [hnl] at this
                simp at this
                simp [this]
              have run0 : ∀ (base : Option Addr) (len c : Nat), args[0]? = some (.slice base len c) → len ≤ c → (Builtin.append_ ats ty args).run P w = .ok (.slice base len c) w := by
                intro base len c hh hlc
                rw [append_in (ty := ty) h0 h1 hh h3 ht hxt hie hs (by omega), hnil]
                cases base <;> simp [storeCells]
              refine ⟨s', w, m, ?_, H, Ext.refl _ _ _, hsv⟩
              cases hsv with
              | slice hm hc hl => exact run0 _ _ _ h2 hl
              | empty _ _ => exact run0 _ _ _ h2 (Nat.zero_le _)
              | nilSlice => exact run0 _ _ _ h2 (Nat.le_refl _)
              | _ => cases hisl
            · cases he
          · exact aappendS_sound (ty := ty) H h0 h1 h2 h3 ht hxt hie hs hn hnl (ble_le a2) (Nat.succ_pos _) hsv he
        · cases he
      · cases he
    · cases he
  · cases he
end
end Go.Ev
