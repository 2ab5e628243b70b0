/-
  An evaluator of runs and its soundness, part H. No condition of its own.
-/
import Derived.Test.YtjandicpdddlaaaGreatDoorEvG
namespace Go.Ev
noncomputable section

def Does (P : Program) (m : Mp) (h : Hp) (w : World) (s : Sem Value) (V : AV) (h' : Hp) : Prop :=
  ∃ v w' m', s.run P w = .ok v w' ∧ HRel m' h' w' ∧ Ext m h w m' h' w' ∧ VRel m' V v
theorem Pu.does {P : Program} {m : Mp} {h : Hp} {w : World} (H : HRel m h w) {s : Sem Value} {V : AV} (hp : Pu P m s V) : Does P m h w s V h := by
  obtain ⟨v, e, r⟩ := hp w
  exact ⟨v, w, m, e, H, Ext.refl _ _ _, r⟩

/-! ### New variables -/
def abox (h : Hp) (V : AV) : AV × Hp := (.ptr h.next 0, h.alloc (.cells V.cells true false))
theorem newVar_sound {P : Program} {m : Mp} {h : Hp} {w : World} (H : HRel m h w) (t : TypeId) {V : AV} {v : Value} (hv : VRel m V v) :
    Does P m h w (do pure (.pointer (some (← newVar t v)))) (abox h V).1 (abox h V).2 := by
  obtain ⟨w', m', r, hr, he, hm⟩ := newRow_sound (P := P) H t (arr := v.cells) hv.cells false
  refine ⟨_, w', m', ?_, hr, he, .ptr hm⟩
  simp [newVar, r]
theorem abox_sound {P : Program} {m : Mp} {h : Hp} {w : World} (H : HRel m h w) (t : TypeId) {V : AV} {v : Value} (hv : VRel m V v) :
    Does P m h w (Instr.box t v) (abox h V).1 (abox h V).2 := newVar_sound H t hv
def aallocOp (P : Program) (h : Hp) (t : TypeId) : Option (AV × Hp) :=
  match zeroA P t with
  | some V => some (abox h V)
  | none => none
theorem aallocOp_sound {P : Program} {m : Mp} {h h' : Hp} {w : World} (H : HRel m h w) {t : TypeId} {V : AV} (he : aallocOp P h t = some (V, h')) :
    Does P m h w (Instr.alloc t true (.tuple #[])) V h' := by
  unfold aallocOp at he
  split at he
  · rename_i z hz
    obtain ⟨v, r, hv⟩ := zeroA_sound (m := m) hz w
    have := newVar_sound (P := P) H t hv
    cases he
    obtain ⟨v', w', m', r', x⟩ := this
    refine ⟨v', w', m', ?_, x⟩
    simp only [Instr.alloc, Sem.run_bind, r, Result.andThen_ok]
    simpa using r'
  · cases he

/-! ### Literals -/
theorem foldl_spl (off : Nat) : ∀ (l : List Value) (k : Nat) (arr : Array Value), (l.zipIdx k).foldl (fun cs (x : Value × Nat) => cs.setIfInBounds (off + x.2) x.1) arr = spl arr (off + k) l
  | [], _, _ => rfl
  | v :: l, k, arr => by
    simp only [List.zipIdx_cons, List.foldl_cons, spl]
    rw [foldl_spl off l (k + 1)]
    rfl
def afill (place : Nat → Option (Nat × Nat)) (cells : List AV) : List (Nat × AV) → Option (List AV)
  | [] => some cells
  | (i, v) :: rest => match place i with
    | none => none
    | some (off, size) => match Nat.beq v.cells.length size, Nat.ble (Nat.add off size) cells.length with
      | true, true => afill place (spliceL cells off v.cells) rest
      | _, _ => none
inductive PRel (m : Mp) : List (Nat × AV) → List (Nat × Value) → Prop
  | nil : PRel m [] []
  | cons (i : Nat) {v : AV} {v' : Value} {l : List (Nat × AV)} {l' : List (Nat × Value)} (h : VRel m v v') (t : PRel m l l') : PRel m ((i, v) :: l) ((i, v') :: l')
theorem splice_rel {m : Mp} {cs vs : List AV} {arr : Array Value} {vs' : List Value} {o : Nat} (hc : LRel m cs arr.toList) (hv : LRel m vs vs') (ho : o + vs.length ≤ cs.length) :
    LRel m (spliceL cs o vs) (spl arr o vs').toList := by
  have h1 := hc.length
  have h2 := hv.length
  rw [spl_toList _ _ _ (by simp at h1; omega)]
  unfold spliceL
  rw [List.append_assoc, h2]
  exact (hc.take o).append (hv.append (hc.drop _))
theorem afill_sound {m : Mp} (place : Nat → Option (Nat × Nat)) : ∀ (parts : List (Nat × AV)) (parts' : List (Nat × Value)) (cells : List AV) (cells' : Array Value) (r : List AV),
    PRel m parts parts' → LRel m cells cells'.toList → afill place cells parts = some r → ∃ r', Instr.fill place cells' parts' = some r' ∧ LRel m r r'.toList
  | [], _, cells, cells', r, .nil, hc, h => by simp [afill] at h; subst h; exact ⟨cells', rfl, hc⟩
  | (i, v) :: rest, _, cells, cells', r, .cons _ (v' := v') (l' := rest') hv t, hc, h => by
    simp only [afill] at h
    split at h
    · cases h
    · rename_i off size hp
      split at h
      · rename_i e1 e2
        have e1' := beq_eq e1
        have e2' := ble_le e2
        have hl := hv.cells.length
        have hcl := hc.length
        have e2'' : off + size ≤ cells.length := e2'
        obtain ⟨r', hr, hrel⟩ := afill_sound place rest rest' _ (spl cells' off v'.cells.toList) r t (splice_rel hc hv.cells (by omega)) h
        refine ⟨r', ?_, hrel⟩
        simp only [Instr.fill, hp]
        have hsz : v'.cells.size = size := by simp only [Array.length_toList] at hl; omega
        have hcs : cells'.size = cells.length := by simpa using hcl
        have hcond : (v'.cells.size ≠ size || off + v'.cells.size > cells'.size) = false := by simp; omega
        have hfold : v'.cells.zipIdx.foldl (fun cs (x : Value × Nat) => cs.setIfInBounds (off + x.2) x.1) cells' = spl cells' off v'.cells.toList := by
          rw [← Array.foldl_toList, Array.toList_zipIdx]
          exact foldl_spl off _ 0 _
        rw [hcond, ← hr, ← hfold]
        rfl
      · cases h
def places (P : Program) : List Field → Option (List (Nat × Nat))
  | [] => some []
  | f :: fs => match P.info? f.type, places P fs with
    | some i, some l => some ((f.offset, i.size) :: l)
    | _, _ => none
theorem run_places {P : Program} (w : World) : ∀ (fs : List Field) (l : List (Nat × Nat)), places P fs = some l →
    (fs.mapM fun f => do pure (f.offset, ← sizeOf f.type) : Sem (List (Nat × Nat))).run P w = .ok l w
  | [], l, h => by simp [places] at h; subst h; rfl
  | f :: fs, l, h => by
    simp only [places] at h
    split at h
    · rename_i i l' hi hl
      cases h
      simp only [List.mapM_cons, Sem.run_bind, run_size w hi, Result.andThen_ok, Sem.run_pure, run_places w fs l' hl]
    · cases h
def abuild (P : Program) (t : TypeId) (parts : List (Nat × AV)) : Option AV :=
  match zeroA P t with
  | some z => match P.underlying t with
    | some (.struct fs) => match places P fs.toList with
      | some pl => match afill (fun i => pl[i]?) z.cells parts with
        | some cs => some (.agg cs)
        | none => none
      | none => none
    | some (.array _ e) => match P.info? e with
      | some ie => match afill (fun i => some (Nat.mul i ie.size, ie.size)) z.cells parts with
        | some cs => some (.agg cs)
        | none => none
      | none => none
    | _ => none
  | none => none
theorem abuild_sound {P : Program} {m : Mp} {t : TypeId} {parts : List (Nat × AV)} {parts' : Array (Nat × Value)} {V : AV} (hp : PRel m parts parts'.toList) (h : abuild P t parts = some V) :
    Pu P m (Instr.build t parts') V := by
  intro w
  unfold abuild at h
  split at h
  · rename_i z hz
    obtain ⟨zv, rz, hzv⟩ := zeroA_sound (m := m) hz w
    split at h
    · rename_i fs ht
      split at h
      · rename_i pl hpl
        split at h
        · rename_i cs hf
          cases h
          obtain ⟨r', hr, hrel⟩ := afill_sound _ _ _ _ _ _ hp hzv.cells hf
          refine ⟨.agg r', ?_, .agg hrel⟩
          simp only [Instr.build, Sem.run_bind, rz, Result.andThen_ok, run_und w ht, Array.mapM_eq_mapM_toList, Sem.run_map, run_places w _ _ hpl]
          simp only [List.getElem?_toArray, hr]
          rfl
        · cases h
      · cases h
    · rename_i n e ht
      split at h
      · rename_i ie hie
        split at h
        · rename_i cs hf
          cases h
          obtain ⟨r', hr, hrel⟩ := afill_sound _ _ _ _ _ _ hp hzv.cells hf
          refine ⟨.agg r', ?_, .agg hrel⟩
          have hr' : Instr.fill (fun i => some (i * ie.size, ie.size)) zv.cells parts'.toList = some r' := hr
          simp only [Instr.build, Sem.run_bind, rz, Result.andThen_ok, run_und w ht, run_size w hie]
          simp only [hr']
          rfl
        · cases h
      · cases h
    · cases h
  · cases h

def azeros (zs : List AV) (n : Nat) : List AV := (List.range n).map fun i => zs.getD (Nat.mod i zs.length) (.tuple [])
theorem azeros_rel {m : Mp} {zs : List AV} {z : Array Value} (hz : LRel m zs z.toList) (n : Nat) (h0 : 0 < zs.length) : LRel m (azeros zs n) ((Array.range n).map (z[· % z.size]!)).toList := by
  have hl := hz.length
  simp only [Array.length_toList] at hl
  refine LRel.of_get (by simp [azeros]) fun i v hv => ?_
  simp only [azeros, List.getElem?_map] at hv
  have hin : i < n := by
    rcases Nat.lt_or_ge i n with h | h
    · exact h
    · rw [List.getElem?_eq_none (by simpa using h)] at hv; cases hv
  rw [List.getElem?_range hin] at hv
  simp only [Option.map_some, Option.some.injEq] at hv
  have hmod : i % zs.length < zs.length := Nat.mod_lt _ h0
  have hv' : zs[i % zs.length]? = some v := by
    rw [List.getElem?_eq_getElem hmod]
    rw [← hv, List.getD_eq_getElem?_getD]
    show some _ = some ((zs[i % zs.length]?).getD _)
    rw [List.getElem?_eq_getElem hmod]; rfl
  obtain ⟨v', e1, e2⟩ := hz.get hv'
  refine ⟨v', ?_, e2⟩
  have e3 : z[i % z.size]? = some v' := by rw [hl]; simpa using e1
  have e4 : z[i % z.size]! = v' := by rw [getElem!_def, e3]
  simp [hin, e4]

def abuildSlice (P : Program) (h : Hp) (t : TypeId) (len : Nat) (parts : List (Nat × AV)) : Option (AV × Hp) :=
  match P.underlying t with
  | some (.slice e) => match P.info? e with
    | some ie => match Nat.ble (Nat.mul len ie.size) 16777216, Nat.ble 1 (Nat.mul len ie.size), zeroA P e with
      | true, true, some z => match Nat.ble 1 z.cells.length with
        | true => match afill (fun i => some (Nat.mul i ie.size, ie.size)) (azeros z.cells (Nat.mul len ie.size)) parts with
          | some cs => some (.slice h.next 0 len (.ex len), h.alloc (.cells cs true false))
          | none => none
        | false => none
      | _, _, _ => match len, parts with
        | 0, [] => some (.slice h.next 0 0 (.ex 0), h.alloc (.cells [] true false))
        | _, _ => none
    | none => none
  | _ => none
theorem abuildSlice_sound {P : Program} {m : Mp} {h h' : Hp} {w : World} (H : HRel m h w) {t : TypeId} {len : Nat} {parts : List (Nat × AV)} {parts' : Array (Nat × Value)} {V : AV}
    (hp : PRel m parts parts'.toList) (he : abuildSlice P h t len parts = some (V, h')) : Does P m h w (Instr.buildSlice t len parts') V h' := by
  unfold abuildSlice at he
  split at he
  · rename_i e ht
    split at he
    · rename_i ie hie
      split at he
      · rename_i z a1 a2 hz
        split at he
        · rename_i a3
          split at he
          · rename_i cs hf
            cases he
            obtain ⟨zv, rz, hzv⟩ := zeroA_sound (m := m) hz w
            have a1' : len * ie.size ≤ 16777216 := ble_le a1
            have a2' : 1 ≤ len * ie.size := ble_le a2
            obtain ⟨r', hr, hrel⟩ := afill_sound _ _ _ _ _ _ hp (azeros_rel hzv.cells (len * ie.size) (ble_le a3)) hf
            obtain ⟨w', m', rr, hr2, he2, hm⟩ := newRow_sound (P := P) H e hrel false
            have hm0 : m' h.next = some ⟨w.heap.size, 0, r'.size⟩ := hm
            have hv : VRel m' (.slice h.next 0 len (.ex len)) (.slice (some ⟨w.heap.size, 0, none⟩) len len) := .slice (x := ⟨w.heap.size, 0, r'.size⟩) hm0 rfl (Nat.le_refl _)
            refine ⟨_, w', m', ?_, hr2, he2, hv⟩
            have hr' : Instr.fill (fun i => some (i * ie.size, ie.size)) ((Array.range (len * ie.size)).map (zv.cells[· % zv.cells.size]!)) parts'.toList = some r' := hr
            have c1 : ¬ (len * ie.size > 2 ^ 24) := by omega
            have c2 : ¬ (len * ie.size = 0) := by omega
            simp only [Instr.buildSlice, Sem.run_bind, run_und w ht, Result.andThen_ok, run_size w hie]
            rw [if_neg c1]
            simp only [Sem.run_bind, if_neg c2, rz, Result.andThen_ok, Sem.run_pure]
            rw [hr']
            simp [rr]
          · cases he
        · cases he
      · split at he
        · cases he
          cases parts' with
          | mk l' =>
          cases hp
          obtain ⟨w', m', rr, hr2, he2, hm⟩ := newRow_sound (P := P) H e (cs := []) (arr := #[]) .nil false
          have hv : VRel m' (.slice h.next 0 0 (.ex 0)) (.slice (some ⟨w.heap.size, 0, none⟩) 0 0) := .slice (x := ⟨w.heap.size, 0, 0⟩) hm rfl (Nat.le_refl _)
          refine ⟨_, w', m', ?_, hr2, he2, hv⟩
          simp only [Instr.buildSlice, Sem.run_bind, run_und w ht, Result.andThen_ok, run_size w hie]
          have hz : ∀ f : Nat → Value, (Array.range 0).map f = #[] := fun f => by simp [Array.range]
          simp [Instr.fill, hz, rr]
        · cases he
    · cases he
  · cases he
end
end Go.Ev
