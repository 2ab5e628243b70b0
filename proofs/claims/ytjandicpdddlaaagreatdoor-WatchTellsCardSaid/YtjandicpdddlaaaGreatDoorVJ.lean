/-
  Walks over written-out states, part J. No condition of its own.
-/
import Derived.Test.YtjandicpdddlaaaGreatDoorVI
namespace Go.Ev
noncomputable section

/-! ### Two structs, two arrays: cell by cell -/
inductive Tg where
  | i
  | b
  | s
def scEq (g : Tg) (x y : AV) : Option Bool :=
  match g with
  | .i => match x with
    | .int k a => match y with
      | .int k' b => match Nat.beq (kIx k) (kIx k') with
        | true => some (decide (a = b))
        | false => none
      | _ => none
    | _ => none
  | .b => match x with
    | .bool a => match y with
      | .bool b => some (a == b)
      | _ => none
    | _ => none
  | .s => match x with
    | .str a => match y with
      | .str b => some (decide (a = b))
      | _ => none
    | _ => none
def rowEq : List Tg → List AV → List AV → Option Bool
  | [], [], [] => some true
  | g :: gs, x :: xs, y :: ys => match scEq g x y with
    | some a => match rowEq gs xs ys with
      | some b => some (a && b)
      | none => none
    | none => none
  | _, _, _ => none
theorem rowEq_length : ∀ {gs : List Tg} {xs ys : List AV} {r : Bool}, rowEq gs xs ys = some r → xs.length = gs.length ∧ ys.length = gs.length
  | [], [], [], _, _ => ⟨rfl, rfl⟩
  | g :: gs, x :: xs, y :: ys, r, h => by
    simp only [rowEq] at h
    split at h
    · split at h
      · rename_i h2; obtain ⟨a, b⟩ := rowEq_length h2; simp [a, b]
      · cases h
    · cases h
  | [], _ :: _, _, _, h => by simp [rowEq] at h
  | [], [], _ :: _, _, h => by simp [rowEq] at h
  | _ :: _, [], _, _, h => by simp [rowEq] at h
  | _ :: _, _ :: _, [], _, h => by simp [rowEq] at h
theorem rowEq_split : ∀ {g1 g2 : List Tg} {xs ys : List AV} {r : Bool}, rowEq (g1 ++ g2) xs ys = some r → ∃ a b, rowEq g1 (xs.take g1.length) (ys.take g1.length) = some a ∧ rowEq g2 (xs.drop g1.length) (ys.drop g1.length) = some b ∧ r = (a && b)
  | [], g2, xs, ys, r, h => ⟨true, r, by simp [rowEq], by simpa using h, by simp⟩
  | g :: g1, g2, [], ys, r, h => by simp [rowEq] at h
  | g :: g1, g2, x :: xs, [], r, h => by simp [rowEq] at h
  | g :: g1, g2, x :: xs, y :: ys, r, h => by
    simp only [List.cons_append, rowEq] at h
    split at h
    · rename_i a h1
      split at h
      · rename_i b h2
        cases h
        obtain ⟨a', b', q1, q2, q3⟩ := rowEq_split h2
        exact ⟨a && a', b', by simp [rowEq, h1, q1], by simpa using q2, by rw [q3]; cases a <;> simp⟩
      · cases h
    · cases h
def eqFs (f : TypeId → Option (List Tg)) : Nat → List Field → Option (List Tg)
  | _, [] => some []
  | o, fd :: fs => match isUnder fd.name with
    | true => none
    | false => match Nat.beq fd.offset o with
      | false => none
      | true => match f fd.type with
        | some (g :: k) => match eqFs f (o + (g :: k).length) fs with
          | some l => some ((g :: k) ++ l)
          | none => none
        | _ => none
def rep (k : List Tg) : Nat → List Tg
  | 0 => []
  | n + 1 => k ++ rep k n
theorem rep_length (k : List Tg) : ∀ n, (rep k n).length = n * k.length
  | 0 => by simp [rep]
  | n + 1 => by simp [rep, rep_length k n, Nat.succ_mul]; omega
def eqT (P : Program) : Nat → TypeId → Option (List Tg)
  | 0, _ => none
  | n + 1, t => match P.underlying t with
    | some .bool => some [.b]
    | some (.int _) => some [.i]
    | some .string => some [.s]
    | some (.struct fs) => match P.stoodInHeld t with
      | true => none
      | false => match eqFs (eqT P n) 0 fs.toList with
        | some k => (match szB P t k.length with | true => some k | false => none)
        | none => none
    | some (.array len e) => match P.info? e with
      | some i => match eqT P n e with
        | some (g :: k) => match Nat.beq (g :: k).length i.size with
          | true => (match szB P t (rep (g :: k) len).length with | true => some (rep (g :: k) len) | false => none)
          | false => none
        | _ => none
      | none => none
    | _ => none
/-- How cells stand in a value of a type. -/
def partOf (P : Program) (t : TypeId) (cs : List AV) (v : AV) : Prop := (∃ d, P.underlying t = some d ∧ isAggD d = true ∧ v = .agg cs) ∨ (∃ d, P.underlying t = some d ∧ isAggD d = false ∧ cs = [v])
theorem apart_part {P : Program} {t : TypeId} {cs : List AV} {o k : Nat} (ht : ∃ d, P.underlying t = some d ∧ ((isAggD d = true ∧ szB P t k = true) ∨ (isAggD d = false ∧ k = 1))) (h : o + k ≤ cs.length) :
    ∃ v, apart P t cs o = some v ∧ partOf P t ((cs.drop o).take k) v := by
  obtain ⟨d, hd, h1 | h1⟩ := ht
  · obtain ⟨ha, hs⟩ := h1
    obtain ⟨i, hi, he⟩ := Option.map_eq_some_iff.1 (szB_ok hs)
    exact ⟨.agg ((cs.drop o).take k), by simp [apart, hd, ha, hi, he], .inl ⟨d, hd, ha, rfl⟩⟩
  · obtain ⟨ha, rfl⟩ := h1
    have hlt : o < cs.length := by omega
    refine ⟨cs[o], by simp [apart, hd, ha, hlt], .inr ⟨d, hd, ha, ?_⟩⟩
    have : cs.drop o = cs[o] :: cs.drop (o + 1) := List.drop_eq_getElem_cons hlt
    rw [this]; rfl
theorem eqT_kind {P : Program} : ∀ {n : Nat} {t : TypeId} {k : List Tg}, eqT P n t = some k → ∃ d, P.underlying t = some d ∧ ((isAggD d = true ∧ szB P t k.length = true) ∨ (isAggD d = false ∧ k.length = 1))
  | 0, _, _, h => by cases h
  | n + 1, t, k, h => by
    simp only [eqT] at h
    split at h
    · rename_i hd; cases h; exact ⟨_, hd, .inr ⟨rfl, rfl⟩⟩
    · rename_i hd; cases h; exact ⟨_, hd, .inr ⟨rfl, rfl⟩⟩
    · rename_i hd; cases h; exact ⟨_, hd, .inr ⟨rfl, rfl⟩⟩
    · rename_i fs hd
      split at h
      · cases h
      · split at h
        · split at h
          · rename_i hs; cases h; exact ⟨_, hd, .inl ⟨rfl, hs⟩⟩
          · cases h
        · cases h
    · rename_i len e hd
      split at h
      · split at h
        · split at h
          · split at h
            · rename_i hs; cases h; exact ⟨_, hd, .inl ⟨rfl, hs⟩⟩
            · cases h
          · cases h
        · cases h
      · cases h
    · cases h
def IhEq (P : Program) (n N : Nat) : Prop := ∀ (t : TypeId) (k : List Tg) (cs ds : List AV) (x y : AV) (r : Bool), eqT P n t = some k → rowEq k cs ds = some r → partOf P t cs x → partOf P t ds y → aeqIn P N t x y = some r
theorem fields_eq {P : Program} {n N : Nat} (ih : IhEq P n N) {xs ys : List AV} :
    ∀ {fs : List Field} {o : Nat} {k : List Tg} {r : Bool}, eqFs (eqT P n) o fs = some k → rowEq k (xs.drop o) (ys.drop o) = some r → aeqFields P (aeqIn P N) xs ys fs = some r
  | [], o, k, r, h, hr => by
    cases h
    have hl := rowEq_length hr
    have e1 := List.eq_nil_of_length_eq_zero hl.1
    have e2 := List.eq_nil_of_length_eq_zero hl.2
    rw [e1, e2] at hr
    simp [rowEq] at hr; subst hr; rfl
  | fd :: fs, o, k, r, h, hr => by
    simp only [eqFs] at h
    split at h
    · cases h
    · rename_i hu
      split at h
      · cases h
      · rename_i ho
        have ho' := beq_of ho
        split at h
        · rename_i g kt hk
          split at h
          · rename_i l hl
            generalize hkf : g :: kt = kf at *
            have hpos : 1 ≤ kf.length := by rw [← hkf]; simp
            cases h
            have hlen := rowEq_length hr
            simp only [List.length_drop, List.length_append] at hlen
            obtain ⟨a, b, q1, q2, rfl⟩ := rowEq_split hr
            rw [List.drop_drop, List.drop_drop] at q2
            obtain ⟨vx, e1, p1⟩ := apart_part (cs := xs) (o := o) (eqT_kind hk) (by omega)
            obtain ⟨vy, e2, p2⟩ := apart_part (cs := ys) (o := o) (eqT_kind hk) (by omega)
            have hh := ih _ _ _ _ _ _ _ hk q1 p1 p2
            have ihf := fields_eq ih hl q2
            simp only [aeqFields, hu, ho', e1, e2, hh]
            cases a with
            | true => simpa using ihf
            | false => rfl
          · cases h
        · cases h
theorem elems_eq {P : Program} {n N e : Nat} {k : List Tg} (ih : IhEq P n N) (hk : eqT P n e = some k) (h1 : 1 ≤ k.length) {xs ys : List AV} :
    ∀ {m i : Nat} {r : Bool}, rowEq (rep k m) (xs.drop (i * k.length)) (ys.drop (i * k.length)) = some r → aeqElems P (aeqIn P N) xs ys e k.length m i = some r
  | 0, i, r, hr => by
    have hl := rowEq_length hr
    have e1 := List.eq_nil_of_length_eq_zero hl.1
    have e2 := List.eq_nil_of_length_eq_zero hl.2
    rw [e1, e2] at hr
    simp [rowEq, rep] at hr; subst hr; rfl
  | m + 1, i, r, hr => by
    have hlen := rowEq_length hr
    simp only [rep, List.length_drop, List.length_append] at hlen
    obtain ⟨a, b, q1, q2, rfl⟩ := rowEq_split (g1 := k) (g2 := rep k m) hr
    rw [List.drop_drop, List.drop_drop] at q2
    have e3 : i * k.length + k.length = (i + 1) * k.length := by rw [Nat.succ_mul]
    rw [e3] at q2
    obtain ⟨vx, e1, p1⟩ := apart_part (cs := xs) (o := i * k.length) (eqT_kind hk) (by omega)
    obtain ⟨vy, e2, p2⟩ := apart_part (cs := ys) (o := i * k.length) (eqT_kind hk) (by omega)
    have hh := ih _ _ _ _ _ _ _ hk q1 p1 p2
    have ihf := elems_eq ih hk h1 (m := m) (i := i + 1) q2
    have e1' : apart P e xs (Nat.mul i k.length) = some vx := e1
    have e2' : apart P e ys (Nat.mul i k.length) = some vy := e2
    simp only [aeqElems, e1', e2', hh]
    cases a with
    | true => simpa using ihf
    | false => rfl
theorem scEq_leaf {g : Tg} {x y : AV} {r : Bool} {d : TypeDesc} (h : scEq g x y = some r) (hd : (g = .i ∧ ∃ k, d = .int k) ∨ (g = .b ∧ d = .bool) ∨ (g = .s ∧ d = .string)) : (∀ a, x ≠ .agg a) ∧ aeqLeaf d x y = some r := by
  rcases hd with ⟨rfl, k, rfl⟩ | ⟨rfl, rfl⟩ | ⟨rfl, rfl⟩
  · unfold scEq at h
    simp only at h
    split at h
    · split at h
      · split at h
        · rename_i hk; cases h; refine ⟨(fun a h => by cases h), ?_⟩; simp only [aeqLeaf, hk, eqI_eq, show (∀ a b : Int, (a == b) = decide (a = b)) from fun a b => Bool.eq_iff_iff.2 (by simp)]
        · cases h
      · cases h
    · cases h
  · unfold scEq at h
    simp only at h
    split at h
    · split at h
      · cases h; refine ⟨(fun a h => by cases h), ?_⟩; simp only [aeqLeaf, beqB_eq]
      · cases h
    · cases h
  · unfold scEq at h
    simp only at h
    split at h
    · split at h
      · cases h; refine ⟨(fun a h => by cases h), ?_⟩; simp only [aeqLeaf, eqL_eq]
      · cases h
    · cases h
theorem eqT_ok {P : Program} : ∀ (n : Nat) (N : Nat), n ≤ N → IhEq P n N
  | 0, _, _ => fun t k cs ds x y r h => by cases h
  | n + 1, N, hN => by
    intro t k cs ds x y r h hr px py
    obtain ⟨N, rfl⟩ : ∃ N', N = N' + 1 := ⟨N - 1, by omega⟩
    have ih : IhEq P n N := eqT_ok n N (by omega)
    have leaf : ∀ (d : TypeDesc) (g : Tg), P.underlying t = some d → isAggD d = false → k = [g] → ((g = .i ∧ ∃ k, d = .int k) ∨ (g = .b ∧ d = .bool) ∨ (g = .s ∧ d = .string)) → aeqIn P (N + 1) t x y = some r := by
      intro d g hd ha hk hg
      subst hk
      rcases px with ⟨d', q1, q2, _⟩ | ⟨d', q1, q2, rfl⟩
      · rw [hd] at q1; cases q1; rw [ha] at q2; cases q2
      · rcases py with ⟨d', q1, q2, _⟩ | ⟨d', q1, q2, rfl⟩
        · rw [hd] at q1; cases q1; rw [ha] at q2; cases q2
        · simp only [rowEq] at hr
          split at hr
          · rename_i a h1
            simp at hr; subst hr
            obtain ⟨s1, s2⟩ := scEq_leaf h1 hg
            simp only [aeqIn, hd]
            cases x <;> first | exact s2 | exact absurd rfl (s1 _)
          · cases hr
    have agg : ∀ d, P.underlying t = some d → isAggD d = true → x = .agg cs ∧ y = .agg ds := by
      intro d hd ha
      rcases px with ⟨d', q1, q2, rfl⟩ | ⟨d', q1, q2, _⟩
      · rcases py with ⟨d', q1, q2, rfl⟩ | ⟨d', q1, q2, _⟩
        · exact ⟨rfl, rfl⟩
        · rw [hd] at q1; cases q1; rw [ha] at q2; cases q2
      · rw [hd] at q1; cases q1; rw [ha] at q2; cases q2
    simp only [eqT] at h
    split at h
    · rename_i hd; cases h; exact leaf _ _ hd rfl rfl (.inr (.inl ⟨rfl, rfl⟩))
    · rename_i hd; cases h; exact leaf _ _ hd rfl rfl (.inl ⟨rfl, _, rfl⟩)
    · rename_i hd; cases h; exact leaf _ _ hd rfl rfl (.inr (.inr ⟨rfl, rfl⟩))
    · rename_i fs hd
      obtain ⟨rfl, rfl⟩ := agg _ hd rfl
      split at h
      · cases h
      · rename_i hst
        split at h
        · rename_i k' hk
          split at h
          · cases h
            simp only [aeqIn, hd, hst]
            exact fields_eq ih hk (by simpa using hr)
          · cases h
        · cases h
    · rename_i len e hd
      obtain ⟨rfl, rfl⟩ := agg _ hd rfl
      split at h
      · rename_i i hi
        split at h
        · rename_i g k' hk
          split at h
          · rename_i hsz
            split at h
            · cases h
              have e1 := beq_of hsz
              simp only [aeqIn, hd, hi]
              rw [← e1]
              exact elems_eq ih hk (by simp) (i := 0) (by simpa using hr)
            · cases h
          · cases h
        · cases h
      · cases h
    · cases h

/-- '==' and '!=' on structs and arrays. -/
theorem OV.eqR {P : Program} {GT : GTab} {S : Sl} {L : Ls} {o : Oper} {t yt : TypeId} {x y : Operand} {cs ds : List AV} {k : List Tg} {r : Bool} (hk : eqT P 6 t = some k) (hd : (match P.underlying t with | some d => isAggD d | none => false) = true) (hg : P.eqGuardType P.depth t = false)
    (ho : o.op = .binOp .eql t x y yt) (hx : sev GT S x = some (.agg cs)) (hy : sev GT S y = some (.agg ds)) (hr : rowEq k cs ds = some r) : OV P GT S L o (.bool r) := by
  split at hd
  · rename_i d hu
    exact OV.eqA hg ho hx hy (eqT_ok 6 10000 (by omega) _ _ _ _ _ _ _ hk hr (.inl ⟨d, hu, hd, rfl⟩) (.inl ⟨d, hu, hd, rfl⟩))
  · cases hd
theorem OV.neR {P : Program} {GT : GTab} {S : Sl} {L : Ls} {o : Oper} {t yt : TypeId} {x y : Operand} {cs ds : List AV} {k : List Tg} {r : Bool} (hk : eqT P 6 t = some k) (hd : (match P.underlying t with | some d => isAggD d | none => false) = true) (hg : P.eqGuardType P.depth t = false)
    (ho : o.op = .binOp .neq t x y yt) (hx : sev GT S x = some (.agg cs)) (hy : sev GT S y = some (.agg ds)) (hr : rowEq k cs ds = some r) : OV P GT S L o (.bool (!r)) := by
  split at hd
  · rename_i d hu
    exact OV.neA hg ho hx hy (eqT_ok 6 10000 (by omega) _ _ _ _ _ _ _ hk hr (.inl ⟨d, hu, hd, rfl⟩) (.inl ⟨d, hu, hd, rfl⟩))
  · cases hd
/-- What is known of a type whose values may be held against each other cell by cell. -/
structure EqTy (P : Program) (t : TypeId) (k : List Tg) : Prop where
  tags : eqT P 6 t = some k
  agg : (match P.underlying t with | some d => isAggD d | none => false) = true
  grd : P.eqGuardType P.depth t = false
theorem EqTy.eql {P : Program} {GT : GTab} {S : Sl} {L : Ls} {o : Oper} {t yt : TypeId} {x y : Operand} {cs ds : List AV} {k : List Tg} {r : Bool} (h : EqTy P t k) (ho : o.op = .binOp .eql t x y yt) (hx : sev GT S x = some (.agg cs)) (hy : sev GT S y = some (.agg ds)) (hr : rowEq k cs ds = some r) :
    OV P GT S L o (.bool r) := OV.eqR h.tags h.agg h.grd ho hx hy hr
theorem EqTy.neq {P : Program} {GT : GTab} {S : Sl} {L : Ls} {o : Oper} {t yt : TypeId} {x y : Operand} {cs ds : List AV} {k : List Tg} {r : Bool} (h : EqTy P t k) (ho : o.op = .binOp .neq t x y yt) (hx : sev GT S x = some (.agg cs)) (hy : sev GT S y = some (.agg ds)) (hr : rowEq k cs ds = some r) :
    OV P GT S L o (.bool (!r)) := OV.neR h.tags h.agg h.grd ho hx hy hr

/-! ### Rounds that count up -/
theorem TT.draw' {P : Program} {GT : GTab} {sz : Nat} {st : List It2} {S : Sl} {L : Ls} {K : Fin} {ops : Array Oper} {id : Nat} (hm : P.follows .mixedOrders = true) (hs : (match statOk P ops with | some _ => true | none => false) = true) (h : TQ P GT sz ops ops.toList st S L K) :
    TT P GT sz (.code (.region id ops true) :: st) .normal S L K := by
  split at hs
  · rename_i ms hms; exact TT.draw hm hms h
  · cases hs
theorem TT.up {P : Program} {GT : GTab} {sz : Nat} {st : List It2} {S : Sl} {L : Ls} {K : Fin} {x : Code} (N : Nat) (Sf : Nat → Sl) (Lf : Nat → Ls) (I : Nat → Prop) (hS : subS (Sf 0) S) (hL : subH (Lf 0) L) (h0 : I 0)
    (hr : ∀ k, k ≤ N → I k → TT P GT sz (.code x :: .back (fun S' L' => k < N ∧ subS (Sf (k + 1)) S' ∧ subH (Lf (k + 1)) L' ∧ I (k + 1)) :: st) .normal (Sf k) (Lf k) K) : TT P GT sz (.code (.loop x) :: st) .normal S L K := by
  refine TT.less hS hL ?_
  refine TT.loop (fun j S L => ∃ k, k ≤ N ∧ j = N - k ∧ S = Sf k ∧ L = Lf k ∧ I k) N ⟨0, Nat.zero_le _, rfl, rfl, rfl, h0⟩ ?_
  rintro j S1 L1 ⟨k, hk, rfl, rfl, rfl, hI⟩
  have h := hr k hk hI
  intro m w a lo n m0 L0 w0 hG f H s hz hd e' he
  have h' := h m w a lo n m0 L0 w0 hG f H s hz hd e' he
  cases he
  refine wpIn_mono h' ?_
  intro e a1 w1 hp
  cases e <;> first | exact hp | skip
  obtain ⟨S2, L2, m2, ⟨q1, q2, q3, q4⟩, f2, H2, s2, z2, d2⟩ := hp
  exact ⟨Sf (k + 1), Lf (k + 1), m2, ⟨N - (k + 1), by omega, k + 1, by omega, rfl, rfl, rfl, q4⟩, f2.less (subH_get q3), H2.less (subH_get q3), s2.less (subS_get q2), z2, d2⟩
end
end Go.Ev
