/-
  Walks over written-out states, part F. No condition of its own.
-/
import Derived.Test.YtjandicpdddlaaaGreatDoorVE
namespace Go.Ev
noncomputable section

/-! ### What is known of the types -/
inductive Ty where
  | sc
  | bo
  | sl (e sz : Nat)
  | st (fs : List (Nat × Nat)) (sz : Nat)
  | ar (len e esz sz : Nat)
abbrev TTab := List (Nat × Ty)
def tget : TTab → Nat → Option Ty
  | [], _ => none
  | (k, v) :: l, i => match Nat.beq i k with
    | true => some v
    | false => tget l i
def TyOk (P : Program) (t : Nat) : Ty → Prop
  | .sc => ∃ d, P.underlying t = some d ∧ isAggD d = false ∧ (P.info? t).map (·.size) = some 1
  | .bo => P.underlying t = some .bool ∧ (P.info? t).map (·.size) = some 1
  | .sl e sz => P.underlying t = some (.slice e) ∧ (P.info? e).map (·.size) = some sz ∧ (P.info? t).map (·.size) = some 1
  | .st fs sz => ∃ a, P.underlying t = some (.struct a) ∧ a.toList.map (fun f => (f.offset, f.type)) = fs ∧ (P.info? t).map (·.size) = some sz
  | .ar len e esz sz => P.underlying t = some (.array len e) ∧ (P.info? e).map (·.size) = some esz ∧ (P.info? t).map (·.size) = some sz
def eqP : List (Nat × Nat) → List (Nat × Nat) → Bool
  | [], [] => true
  | (a, b) :: l, (c, d) :: k => andB (andB (Nat.beq a c) (Nat.beq b d)) (eqP l k)
  | _, _ => false
theorem eqP_eq : ∀ {a b : List (Nat × Nat)}, eqP a b = true → a = b
  | [], [], _ => rfl
  | (a, b) :: l, (c, d) :: k, h => by
    obtain ⟨h1, h2⟩ := andB_true h
    obtain ⟨h3, h4⟩ := andB_true h1
    rw [beq_of h3, beq_of h4, eqP_eq h2]
  | [], _ :: _, h => by cases h
  | _ :: _, [], h => by cases h
def szB (P : Program) (t sz : Nat) : Bool := match P.info? t with | some i => Nat.beq i.size sz | none => false
theorem szB_ok {P : Program} {t sz : Nat} (h : szB P t sz = true) : (P.info? t).map (·.size) = some sz := by
  unfold szB at h
  split at h
  · rename_i i hi; rw [hi]; simp [beq_of h]
  · cases h
def tyB (P : Program) (t : Nat) (y : Ty) : Bool :=
  match y with
  | .sc => match P.underlying t with | some d => andB (notB (isAggD d)) (szB P t 1) | none => false
  | .bo => match P.underlying t with | some .bool => szB P t 1 | _ => false
  | .sl e sz => match P.underlying t with | some (.slice e') => andB (Nat.beq e' e) (andB (szB P e sz) (szB P t 1)) | _ => false
  | .st fs sz => match P.underlying t with | some (.struct a) => andB (eqP (a.toList.map (fun f => (f.offset, f.type))) fs) (szB P t sz) | _ => false
  | .ar len e esz sz => match P.underlying t with | some (.array l e') => andB (andB (Nat.beq l len) (Nat.beq e' e)) (andB (szB P e esz) (szB P t sz)) | _ => false
theorem tyB_ok {P : Program} {t : Nat} {y : Ty} (h : tyB P t y = true) : TyOk P t y := by
  cases y with
  | sc =>
    simp only [tyB] at h
    split at h
    · rename_i d hd
      obtain ⟨h1, h2⟩ := andB_true h
      exact ⟨d, hd, by cases hh : isAggD d <;> simp_all [notB], szB_ok h2⟩
    · cases h
  | bo =>
    simp only [tyB] at h
    split at h
    · rename_i hd; exact ⟨hd, szB_ok h⟩
    · cases h
  | sl e sz =>
    simp only [tyB] at h
    split at h
    · rename_i e' hd
      obtain ⟨h1, h2⟩ := andB_true h
      have := beq_of h1; subst this
      obtain ⟨h3, h4⟩ := andB_true h2
      exact ⟨hd, szB_ok h3, szB_ok h4⟩
    · cases h
  | st fs sz =>
    simp only [tyB] at h
    split at h
    · rename_i a hd
      obtain ⟨h1, h2⟩ := andB_true h
      exact ⟨a, hd, eqP_eq h1, szB_ok h2⟩
    · cases h
  | ar len e esz sz =>
    simp only [tyB] at h
    split at h
    · rename_i l e' hd
      obtain ⟨h1, h2⟩ := andB_true h
      obtain ⟨h3, h4⟩ := andB_true h1
      obtain ⟨h5, h6⟩ := andB_true h2
      have := beq_of h3; subst this
      have := beq_of h4; subst this
      exact ⟨hd, szB_ok h5, szB_ok h6⟩
    · cases h
def tabB (P : Program) : TTab → Bool
  | [] => true
  | (t, y) :: l => andB (tyB P t y) (tabB P l)
/-- What a table says of a program's types is so. -/
def TabOk (P : Program) (tt : TTab) : Prop := ∀ t y, tget tt t = some y → TyOk P t y
theorem TabOk.of {P : Program} : ∀ {tt : TTab}, tabB P tt = true → TabOk P tt
  | [], _, t, y, h => by cases h
  | (k, u) :: l, hb, t, y, h => by
    obtain ⟨h1, h2⟩ := andB_true hb
    simp only [tget, beq_iff] at h
    by_cases e : t = k
    · subst e; simp at h; subst h; exact tyB_ok h1
    · simp [e] at h; exact TabOk.of h2 t y h
def tsz (tt : TTab) (t : Nat) : Option Nat :=
  match tget tt t with
  | some .sc => some 1
  | some .bo => some 1
  | some (.sl _ _) => some 1
  | some (.st _ sz) => some sz
  | some (.ar _ _ _ sz) => some sz
  | none => none
def tagg (tt : TTab) (t : Nat) : Option Bool :=
  match tget tt t with
  | some .sc => some false
  | some .bo => some false
  | some (.sl _ _) => some false
  | some (.st _ _) => some true
  | some (.ar _ _ _ _) => some true
  | none => none
theorem tagg_ok {P : Program} {tt : TTab} (h : TabOk P tt) {t : Nat} {b : Bool} (hb : tagg tt t = some b) : ∃ d, P.underlying t = some d ∧ isAggD d = b := by
  unfold tagg at hb
  split at hb <;> first | (cases hb; done) | skip
  · rename_i e; cases hb; obtain ⟨d, h1, h2, _⟩ := h t _ e; exact ⟨d, h1, h2⟩
  · rename_i e; cases hb; exact ⟨_, (h t _ e).1, rfl⟩
  · rename_i e; cases hb; exact ⟨_, (h t _ e).1, rfl⟩
  · rename_i e; cases hb; obtain ⟨a, h1, _⟩ := h t _ e; exact ⟨_, h1, rfl⟩
  · rename_i e; cases hb; exact ⟨_, (h t _ e).1, rfl⟩

/-! ### One step that changes nothing, as a function -/
def isTrue : Bool → Bool := fun b => b
/-- What one cell, or a row of cells, is read as. -/
def rd (tt : TTab) (t : Nat) (cs : List AV) : Option AV :=
  match tget tt t with
  | some (.st _ sz) => match Nat.beq cs.length sz with
    | true => some (.agg cs)
    | false => match Nat.ble sz cs.length with
      | true => some (.agg (cs.take sz))
      | false => none
  | some (.ar _ _ _ sz) => match Nat.beq cs.length sz with
    | true => some (.agg cs)
    | false => match Nat.ble sz cs.length with
      | true => some (.agg (cs.take sz))
      | false => none
  | some .sc => match cs with | v :: _ => some v | [] => none
  | some .bo => match cs with | v :: _ => some v | [] => none
  | some (.sl _ _) => match cs with | v :: _ => some v | [] => none
  | none => none
theorem rd_ok {P : Program} {tt : TTab} (h : TabOk P tt) {t : Nat} {cs : List AV} {v : AV} (hr : rd tt t cs = some v) : ∃ d, P.underlying t = some d ∧
    ((isAggD d = false ∧ ∃ l, cs = v :: l) ∨ (isAggD d = true ∧ ∃ sz, (P.info? t).map (·.size) = some sz ∧ sz ≤ cs.length ∧ v = .agg (cs.take sz))) := by
  have big : ∀ sz d, P.underlying t = some d → isAggD d = true → (P.info? t).map (·.size) = some sz → (match Nat.beq cs.length sz with
    | true => some (AV.agg cs)
    | false => match Nat.ble sz cs.length with
      | true => some (.agg (cs.take sz))
      | false => none) = some v → ∃ d, P.underlying t = some d ∧ ((isAggD d = false ∧ ∃ l, cs = v :: l) ∨ (isAggD d = true ∧ ∃ sz, (P.info? t).map (·.size) = some sz ∧ sz ≤ cs.length ∧ v = .agg (cs.take sz))) := by
    intro sz d h1 h2 h3 h4
    refine ⟨d, h1, .inr ⟨h2, sz, h3, ?_⟩⟩
    split at h4
    · rename_i hb
      cases h4
      have := beq_of hb
      exact ⟨by omega, by rw [List.take_of_length_le (by omega)]⟩
    · split at h4
      · rename_i hb; cases h4; exact ⟨ble_le hb, rfl⟩
      · cases h4
  unfold rd at hr
  split at hr
  · rename_i e; obtain ⟨a, h1, _, h3⟩ := h t _ e; exact big _ _ h1 rfl h3 hr
  · rename_i e; obtain ⟨h1, _, h3⟩ := h t _ e; exact big _ _ h1 rfl h3 hr
  · rename_i e
    obtain ⟨d, h1, h2, _⟩ := h t _ e
    split at hr
    · cases hr; exact ⟨d, h1, .inl ⟨h2, _, rfl⟩⟩
    · cases hr
  · rename_i e
    split at hr
    · cases hr; exact ⟨_, (h t _ e).1, .inl ⟨rfl, _, rfl⟩⟩
    · cases hr
  · rename_i e
    split at hr
    · cases hr; exact ⟨_, (h t _ e).1, .inl ⟨rfl, _, rfl⟩⟩
    · cases hr
  · cases hr
def bin2 (op : BinOp) (x y : AV) : Option AV :=
  match x with
  | .int k a => match y with
    | .int k' b => match Nat.beq (kIx k) (kIx k') with
      | true => match op with
        | .lss => some (.bool (decide (a < b)))
        | .gtr => some (.bool (decide (b < a)))
        | .leq => some (.bool (decide (a ≤ b)))
        | .geq => some (.bool (decide (b ≤ a)))
        | .eql => some (.bool (decide (a = b)))
        | .neq => some (.bool (decide (a ≠ b)))
        | _ => none
      | false => none
    | _ => none
  | .str a => match y with
    | .str b => match op with
      | .eql => some (.bool (decide (a = b)))
      | .neq => some (.bool (decide (a ≠ b)))
      | _ => none
    | _ => none
  | _ => none
theorem OV.bin2 {P : Program} {GT : GTab} {S : Sl} {L : Ls} {o : Oper} {v : AV} {op : BinOp} {t yt : TypeId} {x y : Operand} {vx vy : AV} (ho : o.op = .binOp op t x y yt) (hx : sev GT S x = some vx) (hy : sev GT S y = some vy) (h : Go.Ev.bin2 op vx vy = some v) : OV P GT S L o v := by
  unfold Go.Ev.bin2 at h
  split at h
  · split at h
    · split at h
      · rename_i hk
        have := kIx_inj hk
        subst this
        split at h <;> first | (cases h; done) | skip
        · cases h; exact OV.lss ho hx hy
        · cases h; exact OV.gtr ho hx hy
        · cases h; exact OV.leq ho hx hy
        · cases h; exact OV.geq ho hx hy
        · cases h; exact OV.eqI ho hx hy
        · cases h; exact OV.neI ho hx hy
      · cases h
    · cases h
  · split at h
    · split at h <;> first | (cases h; done) | skip
      · cases h; exact OV.eqS ho hx hy
      · cases h; exact OV.neS ho hx hy
    · cases h
  · cases h
theorem OV.len_any {P : Program} {GT : GTab} {S : Sl} {L : Ls} {o : Oper} {v : AV} {x : Operand} {t : TypeId} {vx : AV} (ho : o.op = .call ⟨.builtin .len, #[x], #[t]⟩) (hx : sev GT S x = some vx) (h : ∀ h0, alen P h0 t vx = some v) : OV P GT S L o v := by
  refine ⟨(by rw [ho]; intro c h; cases h), fun m w a hG H hS => ?_⟩
  obtain ⟨N, hN⟩ := H.hrel
  obtain ⟨u, r1, r2⟩ := alen_sound (P := P) (ats := #[t]) (ty := o.type) (args := #[a.eval x]) hN rfl rfl (hS _ _ (by rw [ho]; simp [Op.operands, Call.operands]) hx) (h _)
  refine ⟨.value u, ?_, .inl ⟨u, rfl, r2⟩⟩
  unfold execOp
  rw [ho]
  simp only [resolve, Sem.run_bind, Sem.run_pure, Result.andThen_ok, invoke, builtin]
  simp [r1]

def opL (tt : TTab) (GT : GTab) (S : Sl) (c : Callee) (as : List Operand) (ts : List TypeId) : Option AV :=
  match c with
  | .builtin .len => match as with
    | [x] => match ts with
      | [t] => match tget tt t with
        | some (.sl _ _) => match sev GT S x with
          | some (.lst n _) => some (.int .i64 (n : Int))
          | some (.slice _ _ n _) => some (.int .i64 (n : Int))
          | some .nilSlice => some (.int .i64 0)
          | some .empty => some (.int .i64 0)
          | _ => none
        | _ => none
      | _ => none
    | _ => none
  | _ => none
/-- A step of the kind that changes nothing. -/
def opS (tt : TTab) (GT : GTab) (S : Sl) (L : Ls) (op : Op) : Option AV :=
  match op with
  | .move x => sev GT S x
  | .assign x => sev GT S x
  | .pick c x y => match sev GT S c with
    | some (.bool true) => sev GT S x
    | some (.bool false) => sev GT S y
    | _ => none
  | .binOp b _ x y _ => match sev GT S x with
    | some vx => match sev GT S y with
      | some vy => bin2 b vx vy
      | none => none
    | none => none
  | .unOp .not _ x => match sev GT S x with
    | some (.bool b) => some (.bool (!b))
    | _ => none
  | .fieldAddr t x f => match tget tt t with
    | some (.st fs _) => match fs[f]? with
      | some fd => match tsz tt fd.2 with
        | some (_ + 1) => match sev GT S x with
          | some (.ptr b i) => some (.ptr b (i + fd.1))
          | some (.fptr cs) => match Nat.ble fd.1 cs.length with
            | true => some (.fptr (cs.drop fd.1))
            | false => none
          | _ => none
        | _ => none
      | none => none
    | _ => none
  | .indexAddr t x y => match tget tt t with
    | some (.ar len _ esz _) => match sev GT S y with
      | some (.int _ (.ofNat j)) => match Nat.blt j len with
        | true => match sev GT S x with
          | some (.ptr b i) => some (.ptr b (i + j * esz))
          | some (.fptr cs) => match Nat.ble (j * esz) cs.length with
            | true => some (.fptr (cs.drop (j * esz)))
            | false => none
          | _ => none
        | false => none
      | _ => none
    | _ => none
  | .load t x => match sev GT S x with
    | some (.ptr b i) => match hget L b with
      | some (.cells l _ _) => match Nat.ble i l.length with
        | true => rd tt t (l.drop i)
        | false => none
      | _ => none
    | some (.fptr cs) => rd tt t cs
    | _ => none
  | .call c => opL tt GT S c.callee c.args.toList c.argTypes.toList
  | _ => none
theorem tsz_ok {P : Program} {tt : TTab} (h : TabOk P tt) {t n : Nat} (ht : tsz tt t = some n) : (P.info? t).map (·.size) = some n := by
  unfold tsz at ht
  split at ht <;> first | (cases ht; done) | skip
  · rename_i e; cases ht; obtain ⟨_, _, _, h3⟩ := h t _ e; exact h3
  · rename_i e; cases ht; exact (h t _ e).2
  · rename_i e; cases ht; exact (h t _ e).2.2
  · rename_i e; cases ht; obtain ⟨_, _, _, h3⟩ := h t _ e; exact h3
  · rename_i e; cases ht; exact (h t _ e).2.2
theorem opS_ok {P : Program} {tt : TTab} (ht : TabOk P tt) {GT : GTab} {S : Sl} {L : Ls} {o : Oper} {v : AV} (h : opS tt GT S L o.op = some v) : OV P GT S L o v := by
  generalize ho : o.op = op at h
  unfold opS at h
  split at h
  · exact OV.move ho h
  · exact OV.assign ho h
  · split at h
    · rename_i hc; exact OV.pickT ho hc h
    · rename_i hc; exact OV.pickF ho hc h
    · cases h
  · split at h
    · rename_i vx hx
      split at h
      · rename_i vy hy; exact OV.bin2 ho hx hy h
      · cases h
    · cases h
  · split at h
    · rename_i b hx; cases h; exact OV.not ho hx
    · cases h
  · split at h
    · rename_i fs sz hty
      obtain ⟨a, h1, h2, h3⟩ := ht _ _ hty
      split at h
      · rename_i fd hf
        obtain ⟨fa, hfa, hfe⟩ : ∃ fa : Field, a[_]? = some fa ∧ (fa.offset, fa.type) = fd := by
          rw [← h2] at hf
          simp only [List.getElem?_map, Option.map_eq_some_iff, Array.getElem?_toList] at hf
          exact hf
        subst hfe
        split at h
        · rename_i k hk
          have hz := tsz_ok ht hk
          split at h
          · rename_i b i hx; cases h; exact OV.fieldP h1 ho hfa hz hx
          · rename_i cs hx
            split at h
            · rename_i hl; cases h; exact OV.fieldF h1 ho hfa hz hx hl
            · cases h
          · cases h
        · cases h
      · cases h
    · cases h
  · split at h
    · rename_i len e esz sz hty
      obtain ⟨h1, h2, h3⟩ := ht _ _ hty
      split at h
      · rename_i k j hy
        split at h
        · rename_i hj
          split at h
          · rename_i b i hx; cases h; exact OV.indexP h1 h2 ho hx hy hj
          · rename_i cs hx
            split at h
            · rename_i hl; cases h; exact OV.indexF h1 h2 ho hx hy hj hl
            · cases h
          · cases h
        · cases h
      · cases h
    · cases h
  · split at h
    · rename_i b i hx
      split at h
      · rename_i l wr op hL
        split at h
        · rename_i hi
          obtain ⟨d, q1, q2⟩ := rd_ok ht h
          exact OV.load_any q1 ho hx (.inr ⟨b, i, l, wr, op, rfl, hL, rfl, ble_le hi⟩) q2
        · cases h
      · cases h
    · rename_i cs hx
      obtain ⟨d, q1, q2⟩ := rd_ok ht h
      exact OV.load_any q1 ho hx (.inl rfl) q2
    · cases h
  · rename_i c
    obtain ⟨ce, as, ts⟩ := c
    obtain ⟨as⟩ := as
    obtain ⟨ts⟩ := ts
    unfold opL at h
    split at h
    · rename_i hcal
      split at h
      · rename_i x hx
        split at h
        · rename_i t hts
          simp only at hcal hx hts
          subst hcal hx hts
          split at h
          · rename_i e sz hty
            obtain ⟨h1, _⟩ := ht _ _ hty
            split at h
            · rename_i n cs hx; cases h; exact OV.len_any ho hx (fun h0 => by simp only [alen, h1]; rfl)
            · rename_i b i n cap hx; cases h; exact OV.len_any ho hx (fun h0 => by simp only [alen, h1]; rfl)
            · rename_i hx; cases h; exact OV.len_any ho hx (fun h0 => by simp only [alen, h1]; rfl)
            · rename_i hx; cases h; exact OV.len_any ho hx (fun h0 => by simp only [alen, h1]; rfl)
            · cases h
          · cases h
        · cases h
      · cases h
    · cases h
  · cases h
end
end Go.Ev
