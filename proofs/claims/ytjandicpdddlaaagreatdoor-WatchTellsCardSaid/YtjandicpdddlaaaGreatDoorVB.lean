/-
  Walks over written-out states, part B. No condition of its own.
-/
import Derived.Test.YtjandicpdddlaaaGreatDoorVA
namespace Go.Ev
noncomputable section

/-- What is known of the operands of one operation. -/
def OpR (GT : GTab) (m : Mp) (S : Sl) (o : Oper) (a : Act) : Prop := ∀ x V, x ∈ o.op.operands → sev GT S x = some V → VRel m V (a.eval x)
theorem SRel.opR {GT : GTab} {m : Mp} {S : Sl} {a : Act} (hG : GOk GT m) (s : SRel m S a) (o : Oper) : OpR GT m S o a := fun _ _ _ h => sev_sound hG s h
/-- An operation that changes nothing, and what it comes to. -/
def OV (P : Program) (GT : GTab) (S : Sl) (L : Ls) (o : Oper) (v : AV) : Prop :=
  (∀ c, o.op ≠ .defer c) ∧ ∀ (m : Mp) (w : World) (a : Act), GOk GT m → St m L w → OpR GT m S o a → ∃ nx, (execOp a.eval o).run P w = .ok nx w ∧ NxRel m v nx

section
variable {P : Program} {GT : GTab} {S : Sl} {L : Ls} {o : Oper} {v : AV}

theorem OV.pu {s : Act → Sem Value} (hnd : ∀ c, o.op ≠ .defer c) (hs : ∀ a : Act, execOp a.eval o = (do pure (.value (← s a)))) (hp : ∀ (m : Mp) (w : World) (a : Act), GOk GT m → St m L w → OpR GT m S o a → ∃ u, (s a).run P w = .ok u w ∧ VRel m v u) :
    OV P GT S L o v := by
  refine ⟨hnd, fun m w a hG H hS => ?_⟩
  obtain ⟨u, r1, r2⟩ := hp m w a hG H hS
  exact ⟨.value u, by rw [hs]; simp [r1], .inl ⟨u, rfl, r2⟩⟩

theorem OV.move {x : Operand} (ho : o.op = .move x) (hx : sev GT S x = some v) : OV P GT S L o v := by
  refine ⟨(by rw [ho]; intro c h; cases h), fun m w a hG H hS => ?_⟩
  exact ⟨_, by unfold execOp; rw [ho]; rfl, .inl ⟨_, rfl, hS _ _ (by rw [ho]; simp [Op.operands]) hx⟩⟩
theorem OV.assign {x : Operand} (ho : o.op = .assign x) (hx : sev GT S x = some v) : OV P GT S L o v := by
  refine ⟨(by rw [ho]; intro c h; cases h), fun m w a hG H hS => ?_⟩
  exact ⟨_, by unfold execOp; rw [ho]; rfl, .inl ⟨_, rfl, hS _ _ (by rw [ho]; simp [Op.operands]) hx⟩⟩
theorem OV.pickT {c x y : Operand} (ho : o.op = .pick c x y) (hc : sev GT S c = some (.bool true)) (hx : sev GT S x = some v) : OV P GT S L o v := by
  refine ⟨(by rw [ho]; intro c h; cases h), fun m w a hG H hS => ?_⟩
  have h1 := hS _ _ (by rw [ho]; simp [Op.operands]) hc
  have hb : a.eval c = .bool true := by generalize a.eval c = c' at h1 ⊢; cases h1; rfl
  exact ⟨_, by unfold execOp; rw [ho]; simp [hb, asBool], .inl ⟨_, rfl, hS _ _ (by rw [ho]; simp [Op.operands]) hx⟩⟩
theorem OV.pickF {c x y : Operand} (ho : o.op = .pick c x y) (hc : sev GT S c = some (.bool false)) (hy : sev GT S y = some v) : OV P GT S L o v := by
  refine ⟨(by rw [ho]; intro c h; cases h), fun m w a hG H hS => ?_⟩
  have h1 := hS _ _ (by rw [ho]; simp [Op.operands]) hc
  have hb : a.eval c = .bool false := by generalize a.eval c = c' at h1 ⊢; cases h1; rfl
  exact ⟨_, by unfold execOp; rw [ho]; simp [hb, asBool], .inl ⟨_, rfl, hS _ _ (by rw [ho]; simp [Op.operands]) hy⟩⟩

/-! ### Two operands -/
theorem OV.bin {op : BinOp} {t yt : TypeId} {x y : Operand} {vx vy : AV} (ho : o.op = .binOp op t x y yt) (hx : sev GT S x = some vx) (hy : sev GT S y = some vy) (h : abin P op t x y vx vy = some v) : OV P GT S L o v := by
  refine ⟨(by rw [ho]; intro c h; cases h), fun m w a hG H hS => ?_⟩
  obtain ⟨u, r1, r2⟩ := abin_sound (P := P) (hS _ _ (by rw [ho]; simp [Op.operands]) hx) (hS _ _ (by rw [ho]; simp [Op.operands]) hy) h w
  exact ⟨.value u, by unfold execOp; rw [ho]; simp only [Sem.run_bind, r1, Result.andThen_ok]; rfl, .inl ⟨u, rfl, r2⟩⟩
section
variable {t yt : TypeId} {x y : Operand} {k : IntKind} {a b : Int}
theorem arith_of {op : BinOp} (h : ∀ (k : IntKind) (a b : Int), abin P op t x y (.int k a) (.int k b) = aarith op k a b) : abin P op t x y (.int k a) (.int k b) = aarith op k a b := h k a b
theorem kIx_self (k : IntKind) : Nat.beq (kIx k) (kIx k) = true := by cases k <;> rfl
theorem OV.add (ho : o.op = .binOp .add t x y yt) (hx : sev GT S x = some (.int .i64 a)) (hy : sev GT S y = some (.int .i64 b)) (h1 : -9223372036854775808 ≤ a + b) (h2 : a + b ≤ 9223372036854775807) : OV P GT S L o (.int .i64 (a + b)) := by
  refine OV.bin ho hx hy ?_
  show some (AV.int .i64 (wrapA .i64 (a + b))) = _
  rw [wrapA_eq, inK_wrap (by
    have : inK .i64 (a + b) = true := by
      cases hc : a + b with
      | ofNat n => show Nat.ble n 9223372036854775807 = true; rw [Nat.ble_eq]; rw [hc] at h2; exact Int.ofNat_le.1 h2
      | negSucc n => show Nat.ble n 9223372036854775807 = true; rw [Nat.ble_eq]; rw [hc] at h1; omega
    exact this)]
theorem OV.sub (ho : o.op = .binOp .sub t x y yt) (hx : sev GT S x = some (.int .i64 a)) (hy : sev GT S y = some (.int .i64 b)) (h1 : -9223372036854775808 ≤ a - b) (h2 : a - b ≤ 9223372036854775807) : OV P GT S L o (.int .i64 (a - b)) := by
  refine OV.bin ho hx hy ?_
  show some (AV.int .i64 (wrapA .i64 (a - b))) = _
  rw [wrapA_eq, inK_wrap (by
    have : inK .i64 (a - b) = true := by
      cases hc : a - b with
      | ofNat n => show Nat.ble n 9223372036854775807 = true; rw [Nat.ble_eq]; rw [hc] at h2; exact Int.ofNat_le.1 h2
      | negSucc n => show Nat.ble n 9223372036854775807 = true; rw [Nat.ble_eq]; rw [hc] at h1; omega
    exact this)]
theorem OV.lss (ho : o.op = .binOp .lss t x y yt) (hx : sev GT S x = some (.int k a)) (hy : sev GT S y = some (.int k b)) : OV P GT S L o (.bool (decide (a < b))) := by
  refine OV.bin ho hx hy ?_
  have : abin P .lss t x y (.int k a) (.int k b) = some (.bool (ltI a b)) := by simp only [abin, kIx_self, aarith]
  rw [this, ltI_eq]
theorem OV.gtr (ho : o.op = .binOp .gtr t x y yt) (hx : sev GT S x = some (.int k a)) (hy : sev GT S y = some (.int k b)) : OV P GT S L o (.bool (decide (b < a))) := by
  refine OV.bin ho hx hy ?_
  have : abin P .gtr t x y (.int k a) (.int k b) = some (.bool (ltI b a)) := by simp only [abin, kIx_self, aarith]
  rw [this, ltI_eq]
theorem OV.leq (ho : o.op = .binOp .leq t x y yt) (hx : sev GT S x = some (.int k a)) (hy : sev GT S y = some (.int k b)) : OV P GT S L o (.bool (decide (a ≤ b))) := by
  refine OV.bin ho hx hy ?_
  have : abin P .leq t x y (.int k a) (.int k b) = some (.bool (notB (ltI b a))) := by simp only [abin, kIx_self, aarith]
  rw [this, ltI_eq, notB_eq, ← decide_not]
  simp only [Int.not_lt]
theorem OV.geq (ho : o.op = .binOp .geq t x y yt) (hx : sev GT S x = some (.int k a)) (hy : sev GT S y = some (.int k b)) : OV P GT S L o (.bool (decide (b ≤ a))) := by
  refine OV.bin ho hx hy ?_
  have : abin P .geq t x y (.int k a) (.int k b) = some (.bool (notB (ltI a b))) := by simp only [abin, kIx_self, aarith]
  rw [this, ltI_eq, notB_eq, ← decide_not]
  simp only [Int.not_lt]
theorem OV.eqI (ho : o.op = .binOp .eql t x y yt) (hx : sev GT S x = some (.int k a)) (hy : sev GT S y = some (.int k b)) : OV P GT S L o (.bool (decide (a = b))) := by
  refine OV.bin ho hx hy ?_
  have : abin P .eql t x y (.int k a) (.int k b) = some (.bool (Go.Ev.eqI a b)) := by simp only [abin, kIx_self, aarith]
  rw [this, eqI_eq, show (a == b) = decide (a = b) from Bool.eq_iff_iff.2 (by simp)]
theorem OV.neI (ho : o.op = .binOp .neq t x y yt) (hx : sev GT S x = some (.int k a)) (hy : sev GT S y = some (.int k b)) : OV P GT S L o (.bool (decide (a ≠ b))) := by
  refine OV.bin ho hx hy ?_
  have : abin P .neq t x y (.int k a) (.int k b) = some (.bool (notB (Go.Ev.eqI a b))) := by simp only [abin, kIx_self, aarith]
  rw [this, eqI_eq, notB_eq, show (!(a == b)) = decide (a ≠ b) from Bool.eq_iff_iff.2 (by simp)]
theorem OV.eqS {s u : List Nat} (ho : o.op = .binOp .eql t x y yt) (hx : sev GT S x = some (.str s)) (hy : sev GT S y = some (.str u)) : OV P GT S L o (.bool (decide (s = u))) := by
  refine OV.bin ho hx hy ?_
  have : abin P .eql t x y (.str s) (.str u) = some (.bool (eqL s u)) := rfl
  rw [this, eqL_eq]
theorem OV.neS {s u : List Nat} (ho : o.op = .binOp .neq t x y yt) (hx : sev GT S x = some (.str s)) (hy : sev GT S y = some (.str u)) : OV P GT S L o (.bool (decide (s ≠ u))) := by
  refine OV.bin ho hx hy ?_
  have : abin P .neq t x y (.str s) (.str u) = some (.bool (notB (eqL s u))) := rfl
  rw [this, eqL_eq, notB_eq, ← decide_not]
theorem OV.cat {s u : List Nat} (ho : o.op = .binOp .add t x y yt) (hx : sev GT S x = some (.str s)) (hy : sev GT S y = some (.str u)) (hl : s.length + u.length ≤ 9223372036854775807) : OV P GT S L o (.str (s ++ u)) := by
  refine OV.bin ho hx hy ?_
  have hl' : Nat.ble (Nat.add s.length u.length) 9223372036854775807 = true := by rw [Nat.ble_eq]; exact hl
  show (match Nat.ble (Nat.add s.length u.length) 9223372036854775807 with | true => some (AV.str (s ++ u)) | false => none) = _
  rw [hl']
theorem OV.eqB {p q : Bool} (ht : P.underlying t = some .bool) (ho : o.op = .binOp .eql t x y yt) (hx : sev GT S x = some (.bool p)) (hy : sev GT S y = some (.bool q)) : OV P GT S L o (.bool (p == q)) := by
  refine OV.bin ho hx hy ?_
  have : aeqIn P 10000 t (.bool p) (.bool q) = some (beqB p q) := by
    show (match P.underlying t with | some u => _ | none => none) = _
    rw [ht]
    rfl
  show aeqOp P .eql t x y (.bool p) (.bool q) = _
  simp only [aeqOp, isEq, aguard, this, beqB_eq]
theorem OV.neB {p q : Bool} (ht : P.underlying t = some .bool) (ho : o.op = .binOp .neq t x y yt) (hx : sev GT S x = some (.bool p)) (hy : sev GT S y = some (.bool q)) : OV P GT S L o (.bool (p != q)) := by
  refine OV.bin ho hx hy ?_
  have : aeqIn P 10000 t (.bool p) (.bool q) = some (beqB p q) := by
    show (match P.underlying t with | some u => _ | none => none) = _
    rw [ht]
    rfl
  show aeqOp P .neq t x y (.bool p) (.bool q) = _
  simp only [aeqOp, isEq, aguard, this, beqB_eq, notB_eq]
  rfl
/-- Two values of a struct type: what they come to is known of the type. -/
theorem OV.eqA {cs ds : List AV} {r : Bool} (hg : P.eqGuardType P.depth t = false) (ho : o.op = .binOp .eql t x y yt) (hx : sev GT S x = some (.agg cs)) (hy : sev GT S y = some (.agg ds)) (h : aeqIn P 10000 t (.agg cs) (.agg ds) = some r) :
    OV P GT S L o (.bool r) := by
  refine OV.bin ho hx hy ?_
  show aeqOp P .eql t x y (.agg cs) (.agg ds) = _
  simp only [aeqOp, isEq, aguard, h, hg, notB]
theorem OV.neA {cs ds : List AV} {r : Bool} (hg : P.eqGuardType P.depth t = false) (ho : o.op = .binOp .neq t x y yt) (hx : sev GT S x = some (.agg cs)) (hy : sev GT S y = some (.agg ds)) (h : aeqIn P 10000 t (.agg cs) (.agg ds) = some r) :
    OV P GT S L o (.bool (!r)) := by
  refine OV.bin ho hx hy ?_
  show aeqOp P .neq t x y (.agg cs) (.agg ds) = _
  simp only [aeqOp, isEq, aguard, h, hg, notB]
  cases r <;> rfl
end
theorem OV.un {op : UnOp} {t : TypeId} {x : Operand} {vx : AV} (ho : o.op = .unOp op t x) (hx : sev GT S x = some vx) (h : aun op vx = some v) : OV P GT S L o v := by
  refine ⟨(by rw [ho]; intro c h; cases h), fun m w a hG H hS => ?_⟩
  obtain ⟨u, r1, r2⟩ := aun_sound (P := P) (hS _ _ (by rw [ho]; simp [Op.operands]) hx) h w
  exact ⟨.value u, by unfold execOp; rw [ho]; simp only [Sem.run_bind, r1, Result.andThen_ok]; rfl, .inl ⟨u, rfl, r2⟩⟩
theorem OV.not {t : TypeId} {x : Operand} {b : Bool} (ho : o.op = .unOp .not t x) (hx : sev GT S x = some (.bool b)) : OV P GT S L o (.bool (!b)) := by
  refine OV.un ho hx ?_
  show some (AV.bool (notB b)) = _
  rw [notB_eq]

/-! ### Places -/
theorem OV.fieldP {t f k : Nat} {x : Operand} {fs : Array Field} {fd : Field} {b i : Nat} (ht : P.underlying t = some (.struct fs)) (ho : o.op = .fieldAddr t x f) (hf : fs[f]? = some fd) (hz : (P.info? fd.type).map (·.size) = some (k + 1))
    (hx : sev GT S x = some (.ptr b i)) : OV P GT S L o (.ptr b (i + fd.offset)) := by
  refine ⟨(by rw [ho]; intro c h; cases h), fun m w a hG H hS => ?_⟩
  have hv : afieldAddr P t (.ptr b i) f = some (.ptr b (i + fd.offset)) := by
    obtain ⟨ii, hi, he⟩ := Option.map_eq_some_iff.1 hz
    simp only [afieldAddr, ht, hf, hi, he]
    rfl
  obtain ⟨u, r1, r2⟩ := afieldAddr_sound (P := P) (hS _ _ (by rw [ho]; simp [Op.operands]) hx) hv w
  exact ⟨.value u, by unfold execOp; rw [ho]; simp only [Sem.run_bind, r1, Result.andThen_ok]; rfl, .inl ⟨u, rfl, r2⟩⟩
theorem LRel.dropTake {m : Mp} {cs : List AV} {l : List Value} {o i : Nat} (h : LRel m cs ((l.drop o).take cs.length)) (hi : i ≤ cs.length) : LRel m (cs.drop i) ((l.drop (o + i)).take (cs.drop i).length) := by
  have := h.drop i
  rw [List.drop_take, List.drop_drop] at this
  rwa [List.length_drop]
theorem LRel.takeTake {m : Mp} {cs : List AV} {l : List Value} {o i : Nat} (h : LRel m cs ((l.drop o).take cs.length)) (hi : i ≤ cs.length) : LRel m (cs.take i) ((l.drop o).take (cs.take i).length) := by
  have := h.take i
  rw [List.take_take, Nat.min_eq_left hi] at this
  rwa [List.length_take, Nat.min_eq_left hi]
theorem OV.fieldF {t f k : Nat} {x : Operand} {fs : Array Field} {fd : Field} {cs : List AV} (ht : P.underlying t = some (.struct fs)) (ho : o.op = .fieldAddr t x f) (hf : fs[f]? = some fd) (hz : (P.info? fd.type).map (·.size) = some (k + 1))
    (hx : sev GT S x = some (.fptr cs)) (hl : Nat.ble fd.offset cs.length = true) : OV P GT S L o (.fptr (cs.drop fd.offset)) := by
  refine ⟨(by rw [ho]; intro c h; cases h), fun m w a hG H hS => ?_⟩
  have hv := hS _ _ (by rw [ho]; simp [Op.operands]) hx
  obtain ⟨c, off, arr, hxe, hK, hb, hr⟩ : ∃ c off arr, a.eval x = .pointer (some ⟨c, off, none⟩) ∧ m.K c = some arr ∧ off + cs.length ≤ arr.size ∧ LRel m.bare cs ((arr.toList.drop off).take cs.length) := by
    generalize a.eval x = x' at hv
    cases hv with
    | fptr hK hb hr => exact ⟨_, _, _, rfl, hK, hb, hr⟩
  have hl' := ble_le hl
  obtain ⟨ii, hi, he⟩ := Option.map_eq_some_iff.1 hz
  have hz0 : ¬ (ii.size = 0) := by omega
  refine ⟨.value (.pointer (some ⟨c, off + fd.offset, none⟩)), ?_, .inl ⟨_, rfl, .fptr hK (by rw [List.length_drop]; omega) (hr.dropTake hl')⟩⟩
  unfold execOp; rw [ho]
  simp [hxe, Instr.fieldAt, run_und w ht, hf, Instr.sureAddr, fieldPlace, run_size w hi, hz0, addr_add]

theorem OV.indexP {t e sz j len : Nat} {x y : Operand} {k : IntKind} {b i : Nat} (ht : P.underlying t = some (.array len e)) (hs : (P.info? e).map (·.size) = some sz) (ho : o.op = .indexAddr t x y)
    (hx : sev GT S x = some (.ptr b i)) (hy : sev GT S y = some (.int k (.ofNat j))) (hj : Nat.blt j len = true) : OV P GT S L o (.ptr b (i + j * sz)) := by
  refine ⟨(by rw [ho]; intro c h; cases h), fun m w a hG H hS => ?_⟩
  have hv : aindexAddr P t (.ptr b i) (.int k (.ofNat j)) = some (.ptr b (i + j * sz)) := by
    obtain ⟨ii, hi, he⟩ := Option.map_eq_some_iff.1 hs
    simp only [aindexAddr, natOf, ht, hj, hi, he]
    rfl
  obtain ⟨u, r1, r2⟩ := aindexAddr_sound (P := P) (hS _ _ (by rw [ho]; simp [Op.operands]) hx) (hS _ _ (by rw [ho]; simp [Op.operands]) hy) hv w
  exact ⟨.value u, by unfold execOp; rw [ho]; simp only [Sem.run_bind, r1, Result.andThen_ok]; rfl, .inl ⟨u, rfl, r2⟩⟩
theorem OV.indexF {t e sz j len : Nat} {x y : Operand} {k : IntKind} {cs : List AV} (ht : P.underlying t = some (.array len e)) (hs : (P.info? e).map (·.size) = some sz) (ho : o.op = .indexAddr t x y)
    (hx : sev GT S x = some (.fptr cs)) (hy : sev GT S y = some (.int k (.ofNat j))) (hj : Nat.blt j len = true) (hl : Nat.ble (j * sz) cs.length = true) : OV P GT S L o (.fptr (cs.drop (j * sz))) := by
  refine ⟨(by rw [ho]; intro c h; cases h), fun m w a hG H hS => ?_⟩
  have hv := hS _ _ (by rw [ho]; simp [Op.operands]) hx
  obtain ⟨c, off, arr, hxe, hK, hb, hr⟩ : ∃ c off arr, a.eval x = .pointer (some ⟨c, off, none⟩) ∧ m.K c = some arr ∧ off + cs.length ≤ arr.size ∧ LRel m.bare cs ((arr.toList.drop off).take cs.length) := by
    generalize a.eval x = x' at hv
    cases hv with
    | fptr hK hb hr => exact ⟨_, _, _, rfl, hK, hb, hr⟩
  have hy' : a.eval y = .int k (j : Int) := by
    have := hS _ _ (by rw [ho]; simp [Op.operands]) hy
    generalize a.eval y = y' at this ⊢
    cases this; rfl
  have hl' := ble_le hl
  have hj' := blt_lt hj
  obtain ⟨ii, hi, he⟩ := Option.map_eq_some_iff.1 hs
  refine ⟨.value (.pointer (some ⟨c, off + j * sz, none⟩)), ?_, .inl ⟨_, rfl, .fptr hK (by rw [List.length_drop]; omega) (hr.dropTake hl')⟩⟩
  unfold execOp; rw [ho]
  simp [hxe, hy', Instr.indexAt, asIntOf, run_und w ht, Instr.sureAddr, hj', run_size w hi, addr_add, he]
/-- A list's row. -/
theorem OV.row {t e sz n : Nat} {i : Int} {x y : Operand} {k : IntKind} {cs r : List AV} (ht : P.underlying t = some (.slice e)) (hs : (P.info? e).map (·.size) = some sz) (ho : o.op = .indexAddr t x y)
    (hx : sev GT S x = some (.lst n cs)) (hy : sev GT S y = some (.int k i)) (h0 : 0 ≤ i) (hn : i < (n : Int)) (hr : (cs.drop (i.toNat * sz)).take sz = r) (hc : i.toNat * sz + sz ≤ cs.length) : OV P GT S L o (.fptr r) := by
  refine ⟨(by rw [ho]; intro c h; cases h), fun m w a hG H hS => ?_⟩
  have hv := hS _ _ (by rw [ho]; simp [Op.operands]) hx
  obtain ⟨j, rfl⟩ := Int.eq_ofNat_of_zero_le h0
  simp only [Int.toNat_natCast] at hr hc
  have hjn : j < n := by omega
  obtain ⟨c, off, cap, arr, hxe, hK, hb, hn', hr'⟩ : ∃ c off cap arr, a.eval x = .slice (some ⟨c, off, none⟩) n cap ∧ m.K c = some arr ∧ off + cs.length ≤ arr.size ∧ n ≤ cap ∧ LRel m.bare cs ((arr.toList.drop off).take cs.length) := by
    generalize a.eval x = x' at hv
    cases hv with
    | lst hK hb hn hr => exact ⟨_, _, _, _, rfl, hK, hb, hn, hr⟩
    | lst0 => omega
  have hy' : a.eval y = .int k (j : Int) := by
    have := hS _ _ (by rw [ho]; simp [Op.operands]) hy
    generalize a.eval y = y' at this ⊢
    cases this; rfl
  obtain ⟨ii, hi, he⟩ := Option.map_eq_some_iff.1 hs
  refine ⟨.value (.pointer (some ⟨c, off + j * sz, none⟩)), ?_, .inl ⟨_, rfl, ?_⟩⟩
  · unfold execOp; rw [ho]
    simp [hxe, hy', Instr.indexAt, asIntOf, run_und w ht, hjn, run_size w hi, addr_add, he]
  · subst hr
    have h1 := hr'.dropTake (i := j * sz) (by omega)
    have h2 := h1.takeTake (i := sz) (by rw [List.length_drop]; omega)
    exact .fptr hK (by rw [List.length_take, List.length_drop]; omega) h2

/-! ### Loads -/
theorem load_at {m : Mp} {w : World} {c off : Nat} {arr : Array Value} {e : TypeId} {fr : Nat × Nat} (h : w.heap[c]? = some (.cells arr e fr)) {cs : List AV} (hb : off + cs.length ≤ arr.size)
    (hr : LRel m cs ((arr.toList.drop off).take cs.length)) {t : TypeId} {d : TypeDesc} (ht : P.underlying t = some d) {V : AV}
    (hV : (isAggD d = false ∧ ∃ l, cs = V :: l) ∨ (isAggD d = true ∧ ∃ sz, (P.info? t).map (·.size) = some sz ∧ sz ≤ cs.length ∧ V = .agg (cs.take sz))) :
    ∃ v, (loadVar t ⟨c, off, none⟩).run P w = .ok v w ∧ VRel m V v := by
  rcases hV with ⟨hd, l, rfl⟩ | ⟨hd, sz, hs, hle, rfl⟩
  · obtain ⟨v', e1, e2⟩ := hr.get (i := 0) (v := V) rfl
    refine ⟨v', ?_, e2⟩
    have hc : w.cell? ⟨c, off, none⟩ = some v' := by
      rw [cell?_at h]
      rw [List.getElem?_take, if_pos (by simp), List.getElem?_drop] at e1
      simpa using e1
    simp [loadVar, run_isAgg w ht, hd, hc]
  · obtain ⟨i, hi, he⟩ := Option.map_eq_some_iff.1 hs
    refine ⟨.agg (((arr.toList.drop off).take sz).toArray), ?_, .agg ?_⟩
    · simp only [loadVar, Sem.run_bind, run_isAgg w ht, hd, Result.andThen_ok, run_size w hi, if_true, he]
      rw [run_loadCells h _ _ (by omega)]
      rfl
    · have := hr.take sz
      rw [List.take_take, Nat.min_eq_left hle] at this
      exact this
theorem OV.load_any {t : TypeId} {x : Operand} {vx : AV} {cs : List AV} {d : TypeDesc} (ht : P.underlying t = some d) (ho : o.op = .load t x) (hx : sev GT S x = some vx)
    (hc : vx = .fptr cs ∨ ∃ b i l wr op, vx = .ptr b i ∧ hget L b = some (.cells l wr op) ∧ cs = l.drop i ∧ i ≤ l.length)
    (hV : (isAggD d = false ∧ ∃ l, cs = v :: l) ∨ (isAggD d = true ∧ ∃ sz, (P.info? t).map (·.size) = some sz ∧ sz ≤ cs.length ∧ v = .agg (cs.take sz))) : OV P GT S L o v := by
  refine ⟨(by rw [ho]; intro c h; cases h), fun m w a hG H hS => ?_⟩
  have hv := hS _ _ (by rw [ho]; simp [Op.operands]) hx
  obtain ⟨c, off, arr, e, fr, hxe, hh, hb, hr⟩ : ∃ c off arr e fr, a.eval x = .pointer (some ⟨c, off, none⟩) ∧ w.heap[c]? = some (.cells arr e fr) ∧ off + cs.length ≤ arr.size ∧ LRel m cs ((arr.toList.drop off).take cs.length) := by
    rcases hc with rfl | ⟨b, i, l, wr, op, rfl, hL, rfl, hi⟩
    · generalize a.eval x = x' at hv
      cases hv with
      | fptr hK hb hr =>
        obtain ⟨⟨e, fr, h1⟩, _⟩ := H.frz _ _ hK
        exact ⟨_, _, _, e, fr, rfl, h1, hb, LRel.mono m.bare_le hr⟩
    · generalize a.eval x = x' at hv
      cases hv with
      | @ptr _ _ _ blk hm =>
        obtain ⟨N, hN⟩ := H.hrel
        obtain ⟨y, arr, e, fr, h1, h2, h3, h4, h5, h6, h7⟩ := hN.cells (b := b) (cs := l) (wr := wr) (op := op) ((toTr_get L b).trans hL)
        rw [hm] at h1; cases h1
        exact ⟨_, _, arr, e, fr, rfl, h2, by rw [List.length_drop]; omega, h6.dropTake hi⟩
  obtain ⟨u, r1, r2⟩ := load_at (P := P) hh hb hr ht hV
  refine ⟨.value u, ?_, .inl ⟨u, rfl, r2⟩⟩
  unfold execOp; rw [ho]
  simp [hxe, Instr.loadAt, Instr.sureAddr, r1]
theorem OV.loadF {t : TypeId} {x : Operand} {cs l : List AV} {d : TypeDesc} (ht : P.underlying t = some d) (hd : isAggD d = false) (ho : o.op = .load t x) (hx : sev GT S x = some (.fptr cs)) (hc : cs = v :: l) : OV P GT S L o v :=
  OV.load_any ht ho hx (.inl rfl) (.inl ⟨hd, l, hc⟩)
theorem OV.loadFA {t sz : Nat} {x : Operand} {cs : List AV} {d : TypeDesc} (ht : P.underlying t = some d) (hd : isAggD d = true) (hs : (P.info? t).map (·.size) = some sz) (ho : o.op = .load t x) (hx : sev GT S x = some (.fptr cs)) (hl : Nat.ble sz cs.length = true) :
    OV P GT S L o (.agg (cs.take sz)) :=
  OV.load_any ht ho hx (.inl rfl) (.inr ⟨hd, sz, hs, ble_le hl, rfl⟩)
theorem OV.loadP {t : TypeId} {x : Operand} {b i : Nat} {l k : List AV} {wr op : Bool} {d : TypeDesc} (ht : P.underlying t = some d) (hd : isAggD d = false) (ho : o.op = .load t x) (hx : sev GT S x = some (.ptr b i)) (hL : hget L b = some (.cells l wr op))
    (hi : Nat.ble i l.length = true) (hc : l.drop i = v :: k) : OV P GT S L o v :=
  OV.load_any ht ho hx (.inr ⟨b, i, l, wr, op, rfl, hL, rfl, ble_le hi⟩) (.inl ⟨hd, k, hc⟩)
theorem OV.loadPA {t sz : Nat} {x : Operand} {b i : Nat} {l : List AV} {wr op : Bool} {d : TypeDesc} (ht : P.underlying t = some d) (hd : isAggD d = true) (hs : (P.info? t).map (·.size) = some sz) (ho : o.op = .load t x) (hx : sev GT S x = some (.ptr b i)) (hL : hget L b = some (.cells l wr op))
    (hi : Nat.ble i l.length = true) (hl : Nat.ble sz (l.drop i).length = true) : OV P GT S L o (.agg ((l.drop i).take sz)) :=
  OV.load_any ht ho hx (.inr ⟨b, i, l, wr, op, rfl, hL, rfl, ble_le hi⟩) (.inr ⟨hd, sz, hs, ble_le hl, rfl⟩)
end
end
end Go.Ev
