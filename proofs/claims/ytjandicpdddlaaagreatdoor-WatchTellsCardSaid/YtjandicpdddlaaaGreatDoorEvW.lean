/-
  An evaluator of runs and its soundness, part W. No condition of its own.
-/
import Derived.Test.YtjandicpdddlaaaGreatDoorEvV
namespace Go.Ev
noncomputable section

def buildN (P : Program) (t : TypeId) (len : Nat) (parts : List (Nat × AV)) : Option (List AV) :=
  match P.underlying t with
  | some (.slice e) => match P.info? e with
    | some ie => match Nat.ble (Nat.mul len ie.size) 16777216, Nat.ble 1 (Nat.mul len ie.size), zeroA P e with
      | true, true, some z => match Nat.ble 1 z.cells.length with
        | true => afill (fun i => some (Nat.mul i ie.size, ie.size)) (azeros z.cells (Nat.mul len ie.size)) parts
        | false => none
      | _, _, _ => match len, parts with
        | 0, [] => some []
        | _, _ => none
    | none => none
  | _ => none
theorem buildN_sound {P : Program} {m : Mp} {t : TypeId} {len : Nat} {parts : List (Nat × AV)} {parts' : Array (Nat × Value)} {cs : List AV} (w : World) (hp : PRel m parts parts'.toList) (he : buildN P t len parts = some cs) :
    ∃ e arr, (Instr.buildSlice t len parts').run P w = .ok (.slice (some ⟨w.heap.size, 0, none⟩) len len) (w.alloc (.cells arr e (0, 0))) ∧ LRel m cs arr.toList := by
  unfold buildN at he
  split at he
  · rename_i e ht
    split at he
    · rename_i ie hie
      split at he
      · rename_i z a1 a2 hz
        split at he
        · rename_i a3
          have a1' : len * ie.size ≤ 16777216 := ble_le a1
          have a2' : 1 ≤ len * ie.size := ble_le a2
          obtain ⟨zv, rz, hzv⟩ := zeroA_sound (m := m) hz w
          obtain ⟨r', hr, hrel⟩ := afill_sound _ _ _ _ _ _ hp (azeros_rel hzv.cells (len * ie.size) (ble_le a3)) he
          refine ⟨e, r', ?_, hrel⟩
          have hr' : Instr.fill (fun i => some (i * ie.size, ie.size)) ((Array.range (len * ie.size)).map (zv.cells[· % zv.cells.size]!)) parts'.toList = some r' := hr
          have c1 : ¬ (len * ie.size > 2 ^ 24) := by omega
          have c2 : ¬ (len * ie.size = 0) := by omega
          simp only [Instr.buildSlice, Sem.run_bind, run_und w ht, Result.andThen_ok, run_size w hie]
          rw [if_neg c1]
          simp only [Sem.run_bind, if_neg c2, rz, Result.andThen_ok, Sem.run_pure]
          rw [hr']
          simp [newRow]
        · cases he
      · split at he
        · cases he
          cases parts' with
          | mk l' =>
          cases hp
          refine ⟨e, #[], ?_, .nil⟩
          simp only [Instr.buildSlice, Sem.run_bind, run_und w ht, Result.andThen_ok, run_size w hie]
          have hz : ∀ f : Nat → Value, (Array.range 0).map f = #[] := fun f => by simp [Array.range]
          simp [Instr.fill, hz, newRow]
        · cases he
    · cases he
  · cases he

/-- A new object, to be laid under the name 'id'. -/
def anew (P : Program) (T : Tm) (ng id : Nat) (o : Op) : Option (AV × AObj) :=
  match o with
  | .alloc t => (match zeroA P t with
    | some V => some (.ptr id 0, .cells V.cells true false)
    | none => none)
  | .buildSlice t len ps => (match aevp T ng ps.toList with
    | some parts => (match buildN P t len parts with
      | some cs => some (.slice id 0 len (.ex len), .cells cs true false)
      | none => none)
    | none => none)
  | _ => none
theorem anew_congr {P : Program} {T T' : Tm} {ng id : Nat} {o : Op} (hA : ∀ x ∈ o.operands, aev T ng x = aev T' ng x) : anew P T ng id o = anew P T' ng id o := by
  cases o <;> simp only [anew, Op.operands] at hA ⊢
  case buildSlice t n ps => rw [aevp_congr (fun y hy => hA y.2 (by simp; exact ⟨y.1, by simpa using hy⟩))]
theorem cells_orel {m : Mp} {cs : List AV} {arr : Array Value} {e : TypeId} {c : Nat} (hc : LRel m cs arr.toList) : ORel m (.cells cs true false) ⟨c, 0, arr.size⟩ (.cells arr e (0, 0)) := by
  have hlen := hc.length
  simp only [Array.length_toList] at hlen
  refine ⟨rfl, by simp; omega, fun _ => by simp; omega, ?_, fun _ i _ _ h => by omega⟩
  simp only [List.drop_zero]
  rw [List.take_of_length_le (by simp; omega)]
  exact hc
theorem anew_sound {P : Program} {T : Tm} {id : Nat} {o : Oper} {V : AV} {ob : AObj} {m : Mp} {h : Hp} {w : World} {a : Act} (H : HRel m h w) (ht : TmRel m T a.tmps) (he : anew P T h.ng id o.op = some (V, ob)) :
    ∃ nv c lim, (execOp a.eval o).run P w = .ok (.value nv) (w.alloc c) ∧ ORel m ob ⟨w.heap.size, 0, lim⟩ c ∧ VRel (m.ext id ⟨w.heap.size, 0, lim⟩) V nv := by
  unfold anew at he
  split at he
  · rename_i t hop
    split at he
    · rename_i z hz
      cases he
      obtain ⟨v, r, hv⟩ := zeroA_sound (m := m) hz w
      refine ⟨_, .cells v.cells t (0, 0), v.cells.size, ?_, cells_orel hv.cells, .ptr (x := ⟨w.heap.size, 0, v.cells.size⟩) (Mp.ext_same _ _ _)⟩
      unfold execOp
      rw [hop]
      simp [Instr.alloc, r, newVar, newRow]
    · cases he
  · rename_i t len ps hop
    split at he
    · rename_i parts hp
      split at he
      · rename_i cs hcs
        cases he
        have hpr : PRel m parts (ps.map fun (i, x) => (i, a.eval x)).toList := by simpa using aevp_sound H ht hp
        obtain ⟨e, arr, r1, r2⟩ := buildN_sound w hpr hcs
        refine ⟨_, .cells arr e (0, 0), arr.size, ?_, cells_orel r2, .slice (x := ⟨w.heap.size, 0, arr.size⟩) (Mp.ext_same _ _ _) rfl (Nat.le_refl _)⟩
        unfold execOp
        rw [hop]
        simp only [Sem.run_bind, r1, Result.andThen_ok, Sem.run_pure]
      · cases he
    · cases he
  · cases he

/-! ### A store -/
def astoreU (P : Program) (T : Tm) (h : Hp) (o : Op) : Option (Nat × AObj) :=
  match o with
  | .store t x v => (match aev T h.ng x with
    | some (.ptr b off) => (match aev T h.ng v with
      | some V => (match h.get b with
        | some (.cells cs true op) => (match P.info? t with
          | some i => (match Nat.beq V.cells.length i.size, Nat.ble (Nat.add off i.size) cs.length, V.cells.all AV.one with
            | true, true, true => some (b, .cells (spliceL cs off V.cells) true op)
            | _, _, _ => none)
          | none => none)
        | _ => none)
      | none => none)
    | _ => none)
  | _ => none
theorem astoreU_run {P : Program} {e : Ev} {T : Tm} {df : List ADef} {h : Hp} {o : Op} {b : Nat} {ob : AObj} (he : astoreU P T h o = some (b, ob)) : opRun P e ⟨T, df⟩ h o = some (.tuple [], h.set b ob) := by
  unfold astoreU at he
  split at he
  · rename_i t x v
    split at he
    · rename_i b' off hx
      split at he
      · rename_i V hv
        split at he
        · rename_i cs op hb
          split at he
          · rename_i i hi
            split at he
            · rename_i e1 e2 e3
              cases he
              simp only [opRun_eq, aop, hx, hv, astore, hb, hi, e1, e2, e3]
            · cases he
          · cases he
        · cases he
      · cases he
    · cases he
  · cases he
theorem astoreU_congr {P : Program} {T T' : Tm} {h h' : Hp} {o : Op} {b : Nat} {ob : AObj} (hA : ∀ x ∈ o.operands, aev T h.ng x = aev T' h.ng x) (hg : h'.ng = h.ng) (he : astoreU P T h o = some (b, ob)) (hb : h'.get b = h.get b) :
    astoreU P T' h' o = some (b, ob) := by
  unfold astoreU at he ⊢
  split at he
  · rename_i t x v
    simp only [Op.operands] at hA
    have h1 := hA x (by simp)
    have h2 := hA v (by simp)
    split at he
    · rename_i b' off hx
      split at he
      · rename_i V hv
        split at he
        · rename_i cs op hb'
          split at he
          · rename_i i hi
            split at he
            · rename_i e1 e2 e3
              cases he
              rw [hb'] at hb
              simp only [hg, ← h1, ← h2, hx, hv, hb, hi, e1, e2, e3]
            · cases he
          · cases he
        · cases he
      · cases he
    · cases he
  · cases he
end
end Go.Ev
