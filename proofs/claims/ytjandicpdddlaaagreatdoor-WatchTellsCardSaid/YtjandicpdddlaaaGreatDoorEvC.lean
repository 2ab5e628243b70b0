/-
  An evaluator of runs and its soundness, part C. No condition of its own.
-/
import Derived.Test.YtjandicpdddlaaaGreatDoorEvB
namespace Go.Ev
noncomputable section

/-! ### Constants -/
mutual
def ofV : Value → Option AV
  | .bool b => some (.bool b)
  | .int k n => some (.int k n)
  | .string s => some (.str (bytesOf s))
  | .pointer none => some .nilPtr
  | .slice none 0 0 => some .nilSlice
  | .map none => some .nilMap
  | .nilFunc => some .nilFunc
  | .nilIface => some .nilIface
  | .func (.func f) a c => match ofA a, ofA c with
    | some x, some y => some (.func f x y)
    | _, _ => none
  | .agg a => match ofA a with
    | some x => some (.agg x)
    | none => none
  | .tuple a => match ofA a with
    | some x => some (.tuple x)
    | none => none
  | .iface t v => match ofV v with
    | some x => some (.iface t x)
    | none => none
  | _ => none
def ofA : Array Value → Option (List AV)
  | ⟨l⟩ => ofL l
def ofL : List Value → Option (List AV)
  | [] => some []
  | v :: l => match ofV v, ofL l with
    | some x, some y => some (x :: y)
    | _, _ => none
end

mutual
theorem ofV_rel (m : Mp) : ∀ (v : Value) (V : AV), ofV v = some V → VRel m V v
  | .bool b, V, h => by simp [ofV] at h; subst h; exact .bool b
  | .int k n, V, h => by simp [ofV] at h; subst h; exact .int k n
  | .string s, V, h => by simp [ofV] at h; subst h; exact .str rfl
  | .pointer none, V, h => by simp [ofV] at h; subst h; exact .nilPtr
  | .pointer (some _), V, h => by simp [ofV] at h
  | .slice none 0 0, V, h => by simp [ofV] at h; subst h; exact .nilSlice
  | .slice none (_ + 1) _, V, h => by simp [ofV] at h
  | .slice none 0 (_ + 1), V, h => by simp [ofV] at h
  | .slice (some _) _ _, V, h => by simp [ofV] at h
  | .map none, V, h => by simp [ofV] at h; subst h; exact .nilMap
  | .map (some _), V, h => by simp [ofV] at h
  | .nilFunc, V, h => by simp [ofV] at h; subst h; exact .nilFunc
  | .nilIface, V, h => by simp [ofV] at h; subst h; exact .nilIface
  | .func (.func f) a c, V, h => by
    simp only [ofV] at h
    split at h
    · rename_i x y hx hy
      cases h
      exact .func f (ofA_rel m a x hx) (ofA_rel m c y hy)
    · cases h
  | .func (.method _) _ _, V, h => by simp [ofV] at h
  | .func (.methodOf _ _) _ _, V, h => by simp [ofV] at h
  | .func (.via _ _ _ _) _ _, V, h => by simp [ofV] at h
  | .func (.yield _) _ _, V, h => by simp [ofV] at h
  | .agg a, V, h => by
    simp only [ofV] at h
    split at h
    · rename_i x hx; cases h; exact .agg (ofA_rel m a x hx)
    · cases h
  | .tuple a, V, h => by
    simp only [ofV] at h
    split at h
    · rename_i x hx; cases h; exact .tuple (ofA_rel m a x hx)
    · cases h
  | .iface t v, V, h => by
    simp only [ofV] at h
    split at h
    · rename_i x hx; cases h; exact .iface t (ofV_rel m v x hx)
    · cases h
  | .float _ _, V, h => by simp [ofV] at h
  | .complex _ _ _, V, h => by simp [ofV] at h
  | .chan _, V, h => by simp [ofV] at h
theorem ofA_rel (m : Mp) : ∀ (a : Array Value) (l : List AV), ofA a = some l → LRel m l a.toList
  | ⟨l⟩, k, h => ofL_rel m l k (by simpa [ofA] using h)
theorem ofL_rel (m : Mp) : ∀ (l : List Value) (k : List AV), ofL l = some k → LRel m k l
  | [], k, h => by simp [ofL] at h; subst h; exact .nil
  | v :: l, k, h => by
    simp only [ofL] at h
    split at h
    · rename_i x y hx hy; cases h; exact .cons (ofV_rel m v x hx) (ofL_rel m l y hy)
    · cases h
end

/-! ### Types -/
section types
variable {P : Program} (w : World)
theorem run_und {t : TypeId} {d : TypeDesc} (h : P.underlying t = some d) : (underlying t).run P w = .ok d w := by
  simp [underlying, h]
theorem run_info {t : TypeId} {i : TypeInfo} (h : P.info? t = some i) : (typeInfo t).run P w = .ok i w := by
  simp [typeInfo, h]
theorem run_size {t : TypeId} {i : TypeInfo} (h : P.info? t = some i) : (sizeOf t).run P w = .ok i.size w := by
  simp [sizeOf, run_info w h]
theorem run_zero {t : TypeId} {i : TypeInfo} {v : Value} (h : P.info? t = some i) (hz : i.zero = some v) : (zeroValue t).run P w = .ok v w := by
  simp [zeroValue, run_info w h, hz]
def isAggD : TypeDesc → Bool
  | .struct _ | .array _ _ => true
  | _ => false
theorem run_isAgg {t : TypeId} {d : TypeDesc} (h : P.underlying t = some d) : (isAgg t).run P w = .ok (isAggD d) w := by
  simp only [isAgg, Sem.run_bind, run_und w h, Result.andThen_ok]
  cases d <;> rfl
end types

def AV.cells : AV → List AV
  | .agg cs => cs
  | v => [v]
def AV.one : AV → Bool
  | .agg _ | .tuple _ => false
  | _ => true
theorem VRel.cells {m : Mp} {V : AV} {v : Value} (h : VRel m V v) : LRel m V.cells v.cells.toList := by
  cases h with
  | agg h => exact h
  | bool b => exact .cons (.bool b) .nil
  | int k n => exact .cons (.int k n) .nil
  | str h => exact .cons (.str h) .nil
  | ptr h => exact .cons (.ptr h) .nil
  | nilPtr => exact .cons .nilPtr .nil
  | slice h hc hl => exact .cons (.slice h hc hl) .nil
  | empty a c => exact .cons (.empty a c) .nil
  | nilSlice => exact .cons .nilSlice .nil
  | map h => exact .cons (.map h) .nil
  | nilMap => exact .cons .nilMap .nil
  | func f ha hc => exact .cons (.func f ha hc) .nil
  | yield h => exact .cons (.yield h) .nil
  | nilFunc => exact .cons .nilFunc .nil
  | iface t h => exact .cons (.iface t h) .nil
  | nilIface => exact .cons .nilIface .nil
  | tuple h => exact .cons (.tuple h) .nil
  | lst hK hb hn hr => exact .cons (.lst hK hb hn hr) .nil
  | lst0 a c => exact .cons (.lst0 a c) .nil
  | fptr hK hb hr => exact .cons (.fptr hK hb hr) .nil
theorem VRel.one {m : Mp} {V : AV} {v : Value} (h : VRel m V v) (ho : V.one = true) : v.oneCell' = true := by
  cases h <;> first | rfl | (simp [AV.one] at ho)
theorem LRel.one {m : Mp} : ∀ {l : List AV} {l' : List Value}, LRel m l l' → l.all AV.one = true → ∀ v ∈ l', v.oneCell' = true
  | _, _, .nil, _ => by simp
  | _, _, .cons h t, ha => by
    simp only [List.all_cons, Bool.and_eq_true] at ha
    intro v hv
    rcases List.mem_cons.1 hv with rfl | hv
    · exact h.one ha.1
    · exact LRel.one t ha.2 v hv

/-! ### Loads -/
theorem cell?_at {w : World} {c : Nat} {arr : Array Value} {e : TypeId} {fr : Nat × Nat} (h : w.heap[c]? = some (.cells arr e fr)) (o : Nat) :
    w.cell? ⟨c, o, none⟩ = arr[o]? := by simp [World.cell?, h]
theorem frozen?_at {w : World} {c : Nat} {arr : Array Value} {e : TypeId} {fr : Nat × Nat} (h : w.heap[c]? = some (.cells arr e fr)) (o : Nat) :
    w.frozen? ⟨c, o, none⟩ = (decide (fr.1 ≤ o) && decide (o < fr.2)) := by simp [World.frozen?, h]
theorem addr_add (c o i : Nat) : (⟨c, o, none⟩ : Addr).add i = ⟨c, o + i, none⟩ := by
  unfold Addr.add; split
  · rename_i h; subst h; rfl
  · rfl

theorem run_loadFrom {P : Program} {w : World} {c : Nat} {arr : Array Value} {e : TypeId} {fr : Nat × Nat} (h : w.heap[c]? = some (.cells arr e fr)) (o : Nat) :
    ∀ (n i : Nat) (acc : Array Value), o + i + n ≤ arr.size →
      (loadCellsFrom ⟨c, o, none⟩ i n acc).run P w = .ok (acc ++ ((arr.toList.drop (o + i)).take n).toArray) w := by
  intro n
  induction n with
  | zero => intro i acc _; simp [loadCellsFrom]
  | succ n ih =>
    intro i acc hi
    have hlt : o + i < arr.size := by omega
    have hc : w.cell? ⟨c, o + i, none⟩ = some arr[o + i] := by rw [cell?_at h]; simp [hlt]
    simp only [loadCellsFrom, addr_add, Sem.run_bind, run_load, hc, Result.andThen_ok]
    rw [ih (i + 1) _ (by omega)]
    congr 1
    apply Array.ext'
    have hd : arr.toList.drop (o + i) = arr[o + i] :: arr.toList.drop (o + (i + 1)) := by
      rw [List.drop_eq_getElem_cons (by simpa using hlt)]
      simp [Nat.add_assoc]
    simp [hd]
theorem run_loadCells {P : Program} {w : World} {c : Nat} {arr : Array Value} {e : TypeId} {fr : Nat × Nat} (h : w.heap[c]? = some (.cells arr e fr)) (o n : Nat)
    (hn : o + n ≤ arr.size) : (loadCells ⟨c, o, none⟩ n).run P w = .ok ((arr.toList.drop o).take n).toArray w := by
  have := run_loadFrom (P := P) h o n 0 #[] (by omega)
  simpa [loadCells] using this

/-- What a live block of cells is. -/
theorem HRel.cells {m : Mp} {h : Hp} {w : World} (H : HRel m h w) {b : Nat} {cs : List AV} {wr op : Bool} (hb : h.get b = some (.cells cs wr op)) :
    ∃ x arr e fr, m b = some x ∧ w.heap[x.c]? = some (.cells arr e fr) ∧ arr.size = x.lim ∧ x.base + cs.length ≤ x.lim ∧ (op = false → x.base + cs.length = x.lim) ∧
      LRel m cs ((arr.toList.drop x.base).take cs.length) ∧ (wr = true → ∀ i, x.base ≤ i → i < x.lim → ¬ (fr.1 ≤ i ∧ i < fr.2)) := by
  obtain ⟨x, c, h1, h2, h3⟩ := H.obj _ _ hb
  cases c <;> first | exact h3.elim | exact ⟨x, _, _, _, h1, h2, h3⟩

theorem LRel.sub {m : Mp} {cs : List AV} {l : List Value} {base o n : Nat} (h : LRel m cs ((l.drop base).take cs.length)) (hn : o + n ≤ cs.length) :
    LRel m ((cs.drop o).take n) ((l.drop (base + o)).take n) := by
  have := (h.drop o).take n
  rw [List.drop_take, List.take_take, List.drop_drop] at this
  rwa [Nat.min_eq_left (by omega)] at this

def aload (P : Program) (t : TypeId) (h : Hp) (b o : Nat) : Option AV :=
  match h.get b with
  | some (.cells cs _ _) =>
    match P.underlying t with
    | some d => match isAggD d with
      | true => match P.info? t with
        | some i => match Nat.ble (Nat.add o i.size) cs.length with
          | true => some (.agg ((cs.drop o).take i.size))
          | false => none
        | none => none
      | false => cs[o]?
    | none => none
  | _ => none

theorem loadVar_sound {P : Program} {m : Mp} {h : Hp} {w : World} (H : HRel m h w) {t : TypeId} {b o : Nat} {V : AV} {x : Blk} (hx : m b = some x) (he : aload P t h b o = some V) :
    ∃ v, (loadVar t ⟨x.c, x.base + o, none⟩).run P w = .ok v w ∧ VRel m V v := by
  unfold aload at he
  split at he
  · rename_i cs wr op hb
    obtain ⟨x', arr, e, fr, h1, h2, h3, h4, h5, h6, h7⟩ := H.cells hb
    rw [hx] at h1; cases h1
    split at he
    · rename_i d hd
      split at he
      · rename_i hag
        split at he
        · rename_i i hi
          split at he
          · rename_i hle
            cases he
            have hle' : o + i.size ≤ cs.length := Nat.le_of_ble_eq_true hle
            refine ⟨.agg (((arr.toList.drop (x.base + o)).take i.size).toArray), ?_, .agg ?_⟩
            · simp only [loadVar, Sem.run_bind, run_isAgg w hd, hag, Result.andThen_ok, run_size w hi, if_true]
              rw [run_loadCells h2 _ _ (by omega)]
              rfl
            · exact h6.sub hle'
          · cases he
        · cases he
      · rename_i hag
        obtain ⟨v', e1, e2⟩ := h6.get he
        have hlt : o < cs.length := by
          rcases Nat.lt_or_ge o cs.length with hh | hh
          · exact hh
          · rw [List.getElem?_eq_none hh] at he; cases he
        refine ⟨v', ?_, e2⟩
        have hc : w.cell? ⟨x.c, x.base + o, none⟩ = some v' := by
          rw [cell?_at h2]
          rw [List.getElem?_take, if_pos hlt, List.getElem?_drop] at e1
          simpa using e1
        simp [loadVar, run_isAgg w hd, hag, hc]
    · cases he
  · cases he

/-! ### Stores -/
theorem setBlk_self {w : World} {c : Nat} {o : Obj} (h : w.heap[c]? = some o) : setBlk w c o = w := by
  unfold setBlk
  congr 1
  apply Array.ext_getElem?
  intro i
  rw [Array.getElem?_setIfInBounds]
  by_cases e : c = i
  · subst e; simp [h]; exact (Array.getElem?_eq_some_iff.1 h).1
  · simp [e]
theorem setBlk_setBlk (w : World) (c : Nat) (o o' : Obj) : setBlk (setBlk w c o) c o' = setBlk w c o' := by
  unfold setBlk; simp
theorem setBlk_get {w : World} {c : Nat} (o : Obj) (h : c < w.heap.size) : (setBlk w c o).heap[c]? = some o := by simp [setBlk, h]
theorem setCell_eq {w : World} {c : Nat} {arr : Array Value} {e : TypeId} {fr : Nat × Nat} (h : w.heap[c]? = some (.cells arr e fr)) (o : Nat) (v : Value) :
    w.setCell ⟨c, o, none⟩ v = setBlk w c (.cells (arr.setIfInBounds o v) e fr) := by
  unfold World.setCell setBlk
  congr 1
  apply Array.ext_getElem?
  intro i
  rw [Array.getElem?_modify, Array.getElem?_setIfInBounds]
  by_cases e' : c = i
  · subst e'
    obtain ⟨hlt, he⟩ := Array.getElem?_eq_some_iff.1 h
    simp [hlt, he]
  · simp [e']

def spl (arr : Array Value) (o : Nat) : List Value → Array Value
  | [] => arr
  | v :: l => spl (arr.setIfInBounds o v) (o + 1) l
theorem spl_size : ∀ (l : List Value) (arr : Array Value) (o : Nat), (spl arr o l).size = arr.size
  | [], _, _ => rfl
  | v :: l, arr, o => by rw [spl, spl_size l]; simp
theorem spl_toList : ∀ (l : List Value) (arr : Array Value) (o : Nat), o + l.length ≤ arr.size → (spl arr o l).toList = arr.toList.take o ++ l ++ arr.toList.drop (o + l.length)
  | [], arr, o, _ => by simp [spl]
  | v :: l, arr, o, h => by
    rw [spl, spl_toList l _ _ (by simp at h ⊢; omega)]
    have hlt : o < arr.toList.length := by simp at h ⊢; omega
    simp only [Array.toList_setIfInBounds, List.length_cons]
    rw [List.take_set, List.drop_set_of_lt (by omega), List.take_succ_eq_append_getElem hlt]
    rw [List.set_append_right _ _ (by simp; omega)]
    have hm : min o arr.size = o := Nat.min_eq_left (by simpa using Nat.le_of_lt hlt)
    simp [hm, Nat.add_assoc, Nat.add_comm 1]

theorem run_storeCells {P : Program} {c : Nat} {e : TypeId} {fr : Nat × Nat} (o : Nat) : ∀ (vs : List Value) (i : Nat) (w : World) (arr : Array Value),
    w.heap[c]? = some (.cells arr e fr) → (∀ j, o + i ≤ j → j < o + i + vs.length → ¬ (fr.1 ≤ j ∧ j < fr.2)) → o + i + vs.length ≤ arr.size → (∀ v ∈ vs, v.oneCell' = true) →
    (storeCells ⟨c, o, none⟩ vs i).run P w = .ok () (setBlk w c (.cells (spl arr (o + i) vs) e fr))
  | [], i, w, arr, h, _, _, _ => by simp [storeCells, spl, setBlk_self h]
  | v :: vs, i, w, arr, h, hf, hs, h1 => by
    have hlt : o + i < arr.size := by simp at hs; omega
    have hc : w.cell? ⟨c, o + i, none⟩ = some arr[o + i] := by rw [cell?_at h]; simp [hlt]
    have hfz : w.frozen? ⟨c, o + i, none⟩ = false := by
      rw [frozen?_at h]
      have := hf (o + i) (Nat.le_refl _) (by simp)
      simpa using this
    have hcl : c < w.heap.size := (Array.getElem?_eq_some_iff.1 h).1
    simp only [storeCells, addr_add, Sem.run_bind]
    rw [run_store P w _ v _ (h1 v (by simp))]
    simp only [hc, hfz, Result.andThen_ok, Bool.false_eq_true, if_false]
    rw [setCell_eq h]
    rw [run_storeCells o vs (i + 1) _ (arr.setIfInBounds (o + i) v) (setBlk_get _ hcl)
      (fun j hj hj' => hf j (by omega) (by simp; omega)) (by simp at hs ⊢; omega) (fun u hu => h1 u (List.mem_cons_of_mem _ hu))]
    rw [setBlk_setBlk]
    rfl

def spliceL (cs : List AV) (o : Nat) (vs : List AV) : List AV := cs.take o ++ (vs ++ cs.drop (o + vs.length))
theorem spliceL_length (cs : List AV) (o : Nat) (vs : List AV) (h : o + vs.length ≤ cs.length) : (spliceL cs o vs).length = cs.length := by
  simp [spliceL]; omega

/-- A row of cells is written within what is known of a live block. -/
theorem HRel.splice {P : Program} {m : Mp} {h : Hp} {w : World} (H : HRel m h w) {b o : Nat} {cs : List AV} {op : Bool} {vs : List AV} {vs' : List Value} {x : Blk}
    (hb : h.get b = some (.cells cs true op)) (hx : m b = some x) (hv : LRel m vs vs') (ho : o + vs.length ≤ cs.length) (h1 : vs.all AV.one = true) :
    ∃ w', (storeCells ⟨x.c, x.base + o, none⟩ vs').run P w = .ok () w' ∧ HRel m (h.set b (.cells (spliceL cs o vs) true op)) w' ∧
      Ext m h w m (h.set b (.cells (spliceL cs o vs) true op)) w' := by
  obtain ⟨x', arr, e, fr, h1', h2, h3, h4, h5, h6, h7⟩ := H.cells hb
  rw [hx] at h1'; cases h1'
  have hlen := hv.length
  have hsz : x.base + o + vs'.length ≤ arr.size := by omega
  have hrun := run_storeCells (P := P) (x.base + o) vs' 0 w arr h2 (fun j hj hj' => h7 rfl j (by omega) (by omega)) (by omega) (hv.one h1)
  simp only [Nat.add_zero] at hrun
  have hor : ORel m (.cells (spliceL cs o vs) true op) x (.cells (spl arr (x.base + o) vs') e fr) := by
    refine ⟨by rw [spl_size]; exact h3, by rw [spliceL_length _ _ _ ho]; exact h4, fun hop => by rw [spliceL_length _ _ _ ho]; exact h5 hop, ?_, h7⟩
    rw [spliceL_length _ _ _ ho, spl_toList _ _ _ hsz]
    have e1 : arr.toList.take (x.base + o) = arr.toList.take x.base ++ (arr.toList.drop x.base).take o := by rw [List.take_add]
    have hL : (arr.toList.take x.base).length = x.base := by simp; omega
    rw [e1, List.append_assoc, List.append_assoc, List.drop_append_of_le_length (by omega), List.drop_of_length_le (by omega), List.nil_append]
    have hL2 : ((arr.toList.drop x.base).take o).length = o := by simp; omega
    rw [List.take_append, hL2, List.take_of_length_le (by omega), List.take_append, hlen]
    rw [List.take_of_length_le (l := vs') (by omega)]
    unfold spliceL
    refine LRel.append ?_ (LRel.append hv ?_)
    · have := h6.sub (o := 0) (n := o) (by omega)
      simpa using this
    · have := h6.drop (o + vs.length)
      rw [List.drop_take, List.drop_drop] at this
      have e2 : cs.length - (o + vs.length) = cs.length - o - vs.length := by omega
      have e3 : x.base + (o + vs.length) = x.base + o + vs.length := by omega
      rw [e2, e3] at this
      exact this
  obtain ⟨r1, r2⟩ := H.setBlk hb rfl hx hor
  exact ⟨_, hrun, r1, r2⟩

def astore (P : Program) (t : TypeId) (h : Hp) (b o : Nat) (V : AV) : Option Hp :=
  match h.get b with
  | some (.cells cs true op) => match P.info? t with
    | some i => match Nat.beq V.cells.length i.size, Nat.ble (Nat.add o i.size) cs.length, V.cells.all AV.one with
      | true, true, true => some (h.set b (.cells (spliceL cs o V.cells) true op))
      | _, _, _ => none
    | none => none
  | _ => none

theorem storeVar_sound {P : Program} {m : Mp} {h h' : Hp} {w : World} (H : HRel m h w) {t : TypeId} {b o : Nat} {V : AV} {v : Value} {x : Blk} (hx : m b = some x)
    (hv : VRel m V v) (he : astore P t h b o V = some h') :
    ∃ w', (storeVar t ⟨x.c, x.base + o, none⟩ v).run P w = .ok () w' ∧ HRel m h' w' ∧ Ext m h w m h' w' := by
  unfold astore at he
  split at he
  · rename_i cs op hb
    split at he
    · rename_i i hi
      split at he
      · rename_i e1 e2 e3
        cases he
        have hlen : V.cells.length = i.size := Nat.eq_of_beq_eq_true e1
        have hle : o + i.size ≤ cs.length := Nat.le_of_ble_eq_true e2
        obtain ⟨w', r1, r2, r3⟩ := H.splice (P := P) (o := o) hb hx hv.cells (by omega) e3
        refine ⟨w', ?_, r2, r3⟩
        have hsz : v.cells.size = i.size := by
          have := hv.cells.length
          simp only [Array.length_toList] at this
          omega
        simp only [storeVar, Sem.run_bind, run_size w hi, Result.andThen_ok, hsz, ne_eq, not_true_eq_false, if_false]
        exact r1
      · cases he
    · cases he
  · cases he

/-- A new row. -/
theorem newRow_sound {P : Program} {m : Mp} {h : Hp} {w : World} (H : HRel m h w) (e : TypeId) {cs : List AV} {arr : Array Value} (hc : LRel m cs arr.toList) (op : Bool) :
    ∃ w' m', (newRow e arr).run P w = .ok ⟨w.heap.size, 0, none⟩ w' ∧ HRel m' (h.alloc (.cells cs true op)) w' ∧ Ext m h w m' (h.alloc (.cells cs true op)) w' ∧
      m' h.next = some ⟨w.heap.size, 0, arr.size⟩ := by
  have hlen := hc.length
  simp only [Array.length_toList] at hlen
  have hor : ORel m (.cells cs true op) ⟨w.heap.size, 0, arr.size⟩ (.cells arr e (0, 0)) := by
    refine ⟨rfl, by simp; omega, fun _ => by simp; omega, ?_, fun _ i _ _ h => by omega⟩
    simp only [List.drop_zero]
    rw [List.take_of_length_le (by simp; omega)]
    exact hc
  obtain ⟨r1, r2⟩ := H.alloc hor
  exact ⟨_, _, by simp [newRow], r1, r2, Mp.ext_same _ _ _⟩
end
end Go.Ev
