/-
  Walks over written-out states, part H. No condition of its own.
-/
import Derived.Test.YtjandicpdddlaaaGreatDoorVG
namespace Go.Ev
noncomputable section

theorem Fr.drew {m : Mp} {L : Ls} {w : World} : Fr m L w m L { w with drawn := w.drawn + 1 } :=
  ⟨fun _ _ h => h, rfl, rfl, rfl, Nat.le_refl _, fun _ _ _ => rfl, fun b o x h1 h2 h3 _ => ⟨b, o, x, h1, h2, h3, rfl⟩, fun _ _ h _ _ => h⟩
theorem St.drew {m : Mp} {L : Ls} {w : World} (H : St m L w) : St m L { w with drawn := w.drawn + 1 } := ⟨H.dom, H.bnd, H.obj, H.inj, H.frz⟩

/-- A quiet operation: it may be a call, but all that was there stays. -/
def QV (P : Program) (GT : GTab) (S : Sl) (L : Ls) (o : Oper) (v : AV) : Prop :=
  (∀ c, o.op ≠ .defer c) ∧ ∀ (m : Mp) (w : World) (a : Act) (lo : Option Nat) (n : Nat) (next : Act → World → Prop) (Q : Exit → Act → World → Prop), GOk GT m → St m L w → OpR GT m S o a →
    (∀ m' w' nv, m.le m' → St m' L w' → Fr m L w m' L w' → VRel m' v nv → next (a.put o.dst nv) w') → o.uponIn (Wd lo) n P a next Q ((execOp a.eval o).run P w)
section
variable {P : Program} {GT : GTab} {sz : Nat} {st : List It2} {S : Sl} {L : Ls} {K : Fin} {ops : Array Oper} {rest : List Oper} {o : Oper} {v : AV} {d : Nat}
theorem OV.quiet (h : OV P GT S L o v) : QV P GT S L o v := by
  obtain ⟨hnd, h⟩ := h
  refine ⟨hnd, fun m w a lo n next Q hG H hS k => ?_⟩
  obtain ⟨nx, r1, r2⟩ := h m w a hG H hS
  rw [r1]
  rcases r2 with ⟨u, rfl, hu⟩ | ⟨rfl, rfl⟩
  · rw [Oper.uponIn_value]; exact k m w u (Mp.le_refl m) H (Fr.refl _ _ _) hu
  · rw [Oper.uponIn_skip]; exact k m w undef (Mp.le_refl m) H (Fr.refl _ _ _) (.tuple .nil)
theorem opR_args {m : Mp} {a : Act} {c : Call} (hop : o.op = .call c) (hS : OpR GT m S o a) : ∀ {l : List Operand} {k : List AV}, (∀ x ∈ l, x ∈ c.args) → sevs GT S l = some k → LRel m k (l.map a.eval)
  | [], k, _, he => by simp [sevs] at he; subst he; exact .nil
  | x :: l, k, hm, he => by
    simp only [sevs] at he
    split at he
    · rename_i v hv
      split at he
      · rename_i k' hk
        cases he
        refine .cons (hS x _ ?_ hv) (opR_args hop hS (fun y hy => hm y (List.mem_cons_of_mem _ hy)) hk)
        rw [hop]
        have := hm x (List.mem_cons_self ..)
        unfold Op.operands Call.operands
        cases c.callee <;> simp [this]
      · cases he
    · cases he
theorem QV.call {g : FuncId} {as : Array Operand} {ats : Array TypeId} {vs : List AV} (hop : o.op = .call ⟨.value (.func g), as, ats⟩) (hargs : sevs GT S as.toList = some vs) (hp : PF P GT g vs v) : QV P GT S L o v := by
  refine ⟨(by rw [hop]; intro c h; cases h), fun m w a lo n next Q hG H hS k => ?_⟩
  have hA := opR_args hop hS (fun x hx => by simpa using hx) hargs
  have hA' : LRel m vs (as.map a.eval).toList := by simpa using hA
  obtain ⟨⟨⟨fn, body⟩, hc⟩, hp⟩ := hp
  have hrun : (execOp a.eval o).run P w = .ok (.enter g (as.map a.eval)) w := by
    obtain ⟨_, _, r⟩ := callable_run hc (#[] ++ as.map a.eval ++ #[]) w
    unfold execOp
    rw [hop]
    simp only [resolve, Act.eval, Deferred.ofValue, Sem.run_bind, Sem.run_pure, Result.andThen_ok, invoke]
    rw [r]
    simp
  rw [hrun, Oper.uponIn_enter]
  refine ⟨(fun hh => by cases hh), (hp m w _ lo (n - 1) hG (H.less (fun b o h => by cases h)) hA').mono ?_⟩
  rintro e w1 ⟨r, m1, rfl, f1, H1, hv⟩
  obtain ⟨g1, g2, g3⟩ := H.after f1 H1
  have hle : m1.bare.le ⟨m.f, m1.K⟩ := ⟨(fun _ _ h => by cases h), fun _ _ h => h⟩
  exact k _ w1 r g3 g1 g2 (VRel.mono hle hv)

/-- The operations of a region, each of them quiet, in the text's order. -/
inductive QR (P : Program) (GT : GTab) (sz : Nat) (L : Ls) (ops : Array Oper) : List Oper → Sl → Sl → Prop
  | nil {S : Sl} : QR P GT sz L ops [] S S
  | op {o : Oper} {rest : List Oper} {S S' : Sl} {v : AV} {d : Nat} (hg : wants ops S o.guard = some true) (hv : QV P GT S L o v) (ho : o.dst = some d) (hd : Nat.blt d sz = true) (h : QR P GT sz L ops rest ((d, some v) :: S) S') : QR P GT sz L ops (o :: rest) S S'
  | not {o : Oper} {rest : List Oper} {S S' : Sl} {d : Nat} (hg : wants ops S o.guard = some false) (ho : o.dst = some d) (hd : Nat.blt d sz = true) (h : QR P GT sz L ops rest ((d, some (.tuple [])) :: S) S') : QR P GT sz L ops (o :: rest) S S'
/-- The rest of a quiet region that draws its order. -/
def TQ (P : Program) (GT : GTab) (sz : Nat) (ops : Array Oper) (rest : List Oper) (st : List It2) (S : Sl) (L : Ls) (K : Fin) : Prop := ∃ S', QR P GT sz L ops rest S S' ∧ TT P GT sz st .normal S' L K
theorem TQ.nil (h : TT P GT sz st .normal S L K) : TQ P GT sz ops [] st S L K := ⟨S, .nil, h⟩
theorem TQ.op (hg : wants ops S o.guard = some true) (hv : OV P GT S L o v) (ho : o.dst = some d) (hd : Nat.blt d sz = true) (h : TQ P GT sz ops rest st ((d, some v) :: S) L K) : TQ P GT sz ops (o :: rest) st S L K := by
  obtain ⟨S', h1, h2⟩ := h; exact ⟨S', .op hg hv.quiet ho hd h1, h2⟩
theorem TQ.not (hg : wants ops S o.guard = some false) (ho : o.dst = some d) (hd : Nat.blt d sz = true) (h : TQ P GT sz ops rest st ((d, some (.tuple [])) :: S) L K) : TQ P GT sz ops (o :: rest) st S L K := by
  obtain ⟨S', h1, h2⟩ := h; exact ⟨S', .not hg ho hd h1, h2⟩
theorem TQ.call {g : FuncId} {as : Array Operand} {ats : Array TypeId} {vs : List AV} (hg : wants ops S o.guard = some true) (hop : o.op = .call ⟨.value (.func g), as, ats⟩) (hargs : sevs GT S as.toList = some vs) (hp : PF P GT g vs v)
    (ho : o.dst = some d) (hd : Nat.blt d sz = true) (h : TQ P GT sz ops rest st ((d, some v) :: S) L K) : TQ P GT sz ops (o :: rest) st S L K := by
  obtain ⟨S', h1, h2⟩ := h; exact ⟨S', .op hg (QV.call hop hargs hp) ho hd h1, h2⟩

/-! ### Slots that say the same -/
def SEq (S S' : Sl) : Prop := ∀ i, sget S i = sget S' i
theorem SEq.cons {S S' : Sl} (h : SEq S S') (d : Nat) (v : Option AV) : SEq ((d, v) :: S) ((d, v) :: S') := fun i => by
  rw [sget_cons, sget_cons, h i]
theorem sev_congr {S S' : Sl} (h : SEq S S') (x : Operand) : sev GT S x = sev GT S' x := by
  cases x with
  | tmp t => exact h t
  | const v => rfl
  | global g => rfl
  | func f => rfl
theorem wants_congr {S S' : Sl} (h : SEq S S') (g : Option (Nat × Bool)) : wants ops S g = wants ops S' g := by
  unfold wants
  cases g with
  | none => rfl
  | some g =>
    obtain ⟨j, b⟩ := g
    simp only
    cases ops[j]? with
    | none => rfl
    | some o =>
      simp only
      cases o.dst with
      | none => rfl
      | some d => simp only; rw [h d]
theorem QV.congr {S S' : Sl} (h : SEq S S') (q : QV P GT S L o v) : QV P GT S' L o v :=
  ⟨q.1, fun m w a lo n next Q hG H hS k => q.2 m w a lo n next Q hG H (fun x V hx hv => hS x V hx (by rw [← sev_congr h x]; exact hv)) k⟩
theorem QR.congr : ∀ {rest : List Oper} {S1 S1' S2 : Sl}, QR P GT sz L ops rest S1 S1' → SEq S1 S2 → ∃ S2', QR P GT sz L ops rest S2 S2' ∧ SEq S1' S2'
  | _, _, _, S2, .nil, h => ⟨S2, .nil, h⟩
  | _, _, _, S2, .op hg hv ho hd hr, h => by
    obtain ⟨S2', h1, h2⟩ := QR.congr hr (h.cons _ _)
    exact ⟨S2', .op (by rw [← wants_congr h]; exact hg) (hv.congr h) ho hd h1, h2⟩
  | _, _, _, S2, .not hg ho hd hr, h => by
    obtain ⟨S2', h1, h2⟩ := QR.congr hr (h.cons _ _)
    exact ⟨S2', .not (by rw [← wants_congr h]; exact hg) ho hd h1, h2⟩
theorem TT.congr {e : AEx} {S S' : Sl} (h : SEq S S') (k : TT P GT sz st e S L K) : TT P GT sz st e S' L K :=
  fun m w a lo n m0 L0 w0 hG f H s hz hd e' he => k m w a lo n m0 L0 w0 hG f H ⟨fun i v hv => s.get i v (by rw [← h i]; exact hv)⟩ hz hd e' he
theorem TQ.ways {b : Bool} (i : Nat) (hb : sget S i = some (.bool b)) (ht : b = true → TQ P GT sz ops rest st ((i, some (.bool true)) :: S) L K) (hf : b = false → TQ P GT sz ops rest st ((i, some (.bool false)) :: S) L K) : TQ P GT sz ops rest st S L K := by
  have key : ∀ c, b = c → TQ P GT sz ops rest st ((i, some (.bool c)) :: S) L K → TQ P GT sz ops rest st S L K := by
    rintro c rfl ⟨S', h1, h2⟩
    have hs : SEq ((i, some (.bool b)) :: S) S := fun k => by
      rw [sget_cons]
      by_cases e : k = i
      · rw [if_pos e, e, hb]
      · rw [if_neg e]
    obtain ⟨S2', g1, g2⟩ := QR.congr h1 hs
    exact ⟨S2', g1, h2.congr g2⟩
  cases hb' : b with
  | true => exact key true hb' (ht hb')
  | false => exact key false hb' (hf hb')
theorem TQ.waysG {b : Bool} {i : Nat} (_hg : gslot ops o.guard = some i) (hb : sget S i = some (.bool b)) (ht : b = true → TQ P GT sz ops (o :: rest) st ((i, some (.bool true)) :: S) L K)
    (hf : b = false → TQ P GT sz ops (o :: rest) st ((i, some (.bool false)) :: S) L K) : TQ P GT sz ops (o :: rest) st S L K := TQ.ways i hb ht hf

/-! ### In whatever order -/
theorem QR.data : ∀ {l : List Oper} {S S' : Sl}, QR P GT sz L ops l S S' → ∃ (Ss : Nat → Sl) (vs : Nat → AV), Ss 0 = S ∧ Ss l.length = S' ∧ ∀ i o, l[i]? = some o → ∃ d, o.dst = some d ∧ Nat.blt d sz = true ∧
    Ss (i + 1) = (d, some (vs i)) :: Ss i ∧ ((wants ops (Ss i) o.guard = some true ∧ QV P GT (Ss i) L o (vs i)) ∨ (wants ops (Ss i) o.guard = some false ∧ vs i = .tuple []))
  | _, S, _, .nil => ⟨fun _ => S, fun _ => .tuple [], rfl, rfl, fun i o h => by simp at h⟩
  | _, S, S', .op (o := o) (v := v) (d := d) hg hv ho hd hr => by
    obtain ⟨Ss, vs, h0, h1, h2⟩ := QR.data hr
    refine ⟨fun k => match k with | 0 => S | k + 1 => Ss k, fun k => match k with | 0 => v | k + 1 => vs k, rfl, h1, ?_⟩
    intro i o' hi
    cases i with
    | zero => simp at hi; subst hi; exact ⟨d, ho, hd, h0, .inl ⟨hg, hv⟩⟩
    | succ i => exact h2 i o' (by simpa using hi)
  | _, S, S', .not (o := o) (d := d) hg ho hd hr => by
    obtain ⟨Ss, vs, h0, h1, h2⟩ := QR.data hr
    refine ⟨fun k => match k with | 0 => S | k + 1 => Ss k, fun k => match k with | 0 => .tuple [] | k + 1 => vs k, rfl, h1, ?_⟩
    intro i o' hi
    cases i with
    | zero => simp at hi; subst hi; exact ⟨d, ho, hd, h0, .inr ⟨hg, rfl⟩⟩
    | succ i => exact h2 i o' (by simpa using hi)

def valOf (ops : Array Oper) (vs : Nat → AV) (S0 : Sl) (B : Nat → Bool) (d : Nat) (V : AV) : Prop :=
  (∃ j o, ops[j]? = some o ∧ o.dst = some d ∧ B j = true ∧ V = vs j) ∨ ((∀ j o, ops[j]? = some o → o.dst = some d → B j = false) ∧ sget S0 d = some V)
structure QD (P : Program) (GT : GTab) (sz : Nat) (L : Ls) (ops : Array Oper) (S0 : Sl) (Ss : Nat → Sl) (vs : Nat → AV) : Prop where
  s0 : Ss 0 = S0
  st : ∀ i o, ops[i]? = some o → ∃ d, o.dst = some d ∧ Nat.blt d sz = true ∧ Ss (i + 1) = (d, some (vs i)) :: Ss i ∧
    ((wants ops (Ss i) o.guard = some true ∧ QV P GT (Ss i) L o (vs i)) ∨ (wants ops (Ss i) o.guard = some false ∧ vs i = .tuple []))
theorem QD.text {S0 : Sl} {Ss : Nat → Sl} {vs : Nat → AV} (D : QD P GT sz L ops S0 Ss vs) : ∀ i, i ≤ ops.size → ∀ d V, sget (Ss i) d = some V → valOf ops vs S0 (fun k => decide (k < i)) d V
  | 0, _, d, V, h => .inr ⟨fun j o _ _ => by simp, by rw [D.s0] at h; exact h⟩
  | i + 1, hi, d, V, h => by
    have hi' : i < ops.size := hi
    obtain ⟨di, h1, h2, h3, _⟩ := D.st i ops[i] (Array.getElem?_eq_getElem hi')
    rw [h3, sget_cons] at h
    by_cases e : d = di
    · rw [if_pos e] at h
      cases h
      exact .inl ⟨i, ops[i], Array.getElem?_eq_getElem hi', by rw [h1, e], by simp, rfl⟩
    · rw [if_neg e] at h
      rcases QD.text D i (by omega) d V h with ⟨j, o, g1, g2, g3, g4⟩ | ⟨g1, g2⟩
      · exact .inl ⟨j, o, g1, g2, by simp at g3 ⊢; omega, g4⟩
      · refine .inr ⟨fun j o q1 q2 => ?_, g2⟩
        have := g1 j o q1 q2
        simp at this ⊢
        rcases Nat.lt_or_ge i j with h' | h'
        · omega
        · have : j = i := by omega
          subst this
          rw [Array.getElem?_eq_getElem hi'] at q1
          cases q1
          rw [h1] at q2; cases q2
          exact absurd rfl e

section
variable {ms : List Nat} {B : Nat → Bool} {i : Nat}
theorem looks_at (D : Stat P ops ms) (hdown : Down ops B) (hi : ops[i]? = some o) (hbinds : Binds o B) (hun : B i = false) {d : Tmp} (hd : d ∈ o.looksAt ops) (j : Nat) (y : Oper) (hj : ops[j]? = some y) (hy : y.dst = some d) : B j = decide (j < i) := by
  have hm : ∀ {k : Nat} {z : Oper}, ops[k]? = some z → ∃ mk, ms[k]? = some mk := fun {k z} h => by
    have hk := (Array.getElem?_eq_some_iff.1 h).1
    exact ⟨ms[k]'(by rw [D.len]; exact hk), List.getElem?_eq_getElem _⟩
  obtain ⟨mi, hmi⟩ := hm hi
  obtain ⟨mj, hmj⟩ := hm hj
  rcases Nat.lt_trichotomy j i with h | h | h
  · rw [decide_eq_true h]
    have hp := D.pair h hj hi hmj hmi
    cases hb : mi.testBit j with
    | true => exact (D.good.bef i o mi hi hmi j hb).2 B hdown hbinds
    | false => exact absurd hd ((hp.2 hb).1 d hy)
  · subst h
    rw [hun]; simp
  · rw [decide_eq_false (by omega)]
    have hp := D.pair h hi hj hmi hmj
    cases hb : mj.testBit i with
    | true =>
      cases hL : B j with
      | false => rfl
      | true =>
        have := (D.good.bef j y mj hj hmj i hb).2 B hdown (hdown j y hj hL)
        rw [hun] at this; cases this
    | false => exact absurd hd ((hp.2 hb).2.1 d hy)
theorem dst_apart (D : Stat P ops ms) {j : Nat} {y : Oper} (hi : ops[i]? = some o) (hj : ops[j]? = some y) (hne : j ≠ i) {d d' : Nat} (h1 : o.dst = some d) (h2 : y.dst = some d') : d' ≠ d := by
  have hm : ∀ {k : Nat} {z : Oper}, ops[k]? = some z → ∃ mk, ms[k]? = some mk := fun {k z} h => by
    have hk := (Array.getElem?_eq_some_iff.1 h).1
    exact ⟨ms[k]'(by rw [D.len]; exact hk), List.getElem?_eq_getElem _⟩
  obtain ⟨mi, hmi⟩ := hm hi
  obtain ⟨mj, hmj⟩ := hm hj
  rcases Nat.lt_or_ge j i with h | h
  · exact (D.pair h hj hi hmj hmi).1 d' d h2 h1
  · exact fun e => (D.pair (show i < j by omega) hi hj hmi hmj).1 d d' h1 h2 e.symm
end
theorem wants_at {m : Mp} {S : Sl} {a : Act} (hr : ∀ d V, d ∈ o.looksAt ops → sget S d = some V → VRel m V (a.tmps.getD d undef)) {r : Bool} (h : wants ops S o.guard = some r) : Region.wanted o (yielded ops a.tmps) = r := by
  unfold Region.wanted
  cases hg : o.guard with
  | none => rw [hg] at h; cases h; rfl
  | some g =>
    obtain ⟨j, b⟩ := g
    rw [hg] at h
    simp only [wants] at h
    split at h
    · rename_i oj hj
      split at h
      · rename_i d hd
        have hl : d ∈ o.looksAt ops := by simp [Oper.looksAt, hg, hj, hd]
        simp only [yielded, hj, Option.bind_some, hd]
        split at h
        · rename_i x hx
          cases h
          have hr := hr d _ hl hx
          rw [Array.getD_eq_getD_getElem?] at hr
          cases hq : a.tmps[d]? with
          | none => rw [hq] at hr; simp only [Option.getD_none, undef] at hr; cases hr
          | some v => rw [hq] at hr; simp only [Option.getD_some] at hr; cases hr; simp [beqB_eq]
        · rename_i hx
          cases h
          have hr := hr d _ hl hx
          rw [Array.getD_eq_getD_getElem?] at hr
          cases hq : a.tmps[d]? with
          | none => simp
          | some v => rw [hq] at hr; simp only [Option.getD_some] at hr; cases hr; simp
        · cases h
      · cases h
    · cases h

def QInv (GT : GTab) (sz : Nat) (L : Ls) (ops : Array Oper) (S0 : Sl) (vs : Nat → AV) (m0 : Mp) (L0 : Ls) (w0 : World) (B : Nat → Bool) (a : Act) (w : World) : Prop :=
  ∃ m, Fr m0 L0 w0 m L w ∧ St m L w ∧ (∀ d V, valOf ops vs S0 B d V → VRel m V (a.tmps.getD d undef)) ∧ a.tmps.size = sz ∧ a.defers = [] ∧ Down ops B

section
variable {ms : List Nat} {S0 : Sl} {Ss : Nat → Sl} {vs : Nat → AV} {m0 : Mp} {L0 : Ls} {w0 : World}
theorem quiet_step (X : Stat P ops ms) (D : QD P GT sz L ops S0 Ss vs) (hG : GOk GT m0) {B : Nat → Bool} {i : Nat} (hi : ops[i]? = some o) (hbinds : Binds o B) (hun : B i = false) {a : Act} {w : World} (I : QInv GT sz L ops S0 vs m0 L0 w0 B a w)
    {lo : Option Nat} {n : Nat} {K' : Act → World → Prop} {Q : Exit → Act → World → Prop} (hK : ∀ a' w', QInv GT sz L ops S0 vs m0 L0 w0 (plus B i) a' w' → K' a' w') : wpOpIn (Wd lo) n P ops Q i K' a w := by
  obtain ⟨m, f, H, hv, hz, hdf, hdown⟩ := I
  have hilt := (Array.getElem?_eq_some_iff.1 hi).1
  obtain ⟨d, h1, h2, h3, h4⟩ := D.st i o hi
  have hlook : ∀ d V, d ∈ o.looksAt ops → sget (Ss i) d = some V → VRel m V (a.tmps.getD d undef) := by
    intro d V hd hs
    refine hv d V ?_
    rcases D.text i (by omega) d V hs with ⟨j, y, g1, g2, g3, g4⟩ | ⟨g1, g2⟩
    · exact .inl ⟨j, y, g1, g2, by rw [looks_at X hdown hi hbinds hun hd j y g1 g2]; exact g3, g4⟩
    · exact .inr ⟨fun j y q1 q2 => by rw [looks_at X hdown hi hbinds hun hd j y q1 q2]; exact g1 j y q1 q2, g2⟩
  have hOp : OpR GT m (Ss i) o a := by
    intro x V hx hs
    cases x with
    | tmp t =>
      refine hlook t V ?_ hs
      unfold Oper.looksAt
      exact List.mem_append_left _ (List.mem_filterMap.2 ⟨.tmp t, by simpa using hx, rfl⟩)
    | const c => exact ofV_rel m c V hs
    | global g =>
      have := sev_sound (S := []) (a := a) (hG.mono f.K) ⟨fun i v h => by cases h⟩ (x := .global g) (V := V) hs
      exact this
    | func g => cases hs; exact .func g .nil .nil
  have hlt : d < a.tmps.size := by rw [hz]; exact blt_lt h2
  have hdown' : Down ops (plus B i) := by
    intro k y hk hp
    have mono : ∀ k, B k = true → plus B i k = true := fun k hk => by unfold plus; split <;> first | rfl | exact hk
    by_cases e : k = i
    · subst e
      rw [hi] at hk; cases hk
      intro ed he hb; exact mono _ (hbinds ed he hb)
    · have : B k = true := by unfold plus at hp; rw [if_neg e] at hp; exact hp
      intro ed he hb; exact mono _ (hdown k y hk this ed he hb)
  have fin : ∀ (m' : Mp) (w' : World) (nv : Value), m.le m' → St m' L w' → Fr m L w m' L w' → VRel m' (vs i) nv → K' (a.put (some d) nv) w' := by
    intro m' w' nv hle H' f' hnv
    refine hK _ _ ⟨m', f.trans f', H', ?_, by rw [put_size]; exact hz, by rw [put_defers]; exact hdf, hdown'⟩
    intro d' V hval
    show VRel m' V ((a.tmps.setIfInBounds d nv).getD d' undef)
    rcases hval with ⟨j, y, g1, g2, g3, g4⟩ | ⟨g1, g2⟩
    · by_cases e : j = i
      · subst e
        rw [hi] at g1; cases g1
        rw [h1] at g2; cases g2
        subst g4
        simpa [Array.getD_eq_getD_getElem?, Array.getElem?_setIfInBounds, hlt] using hnv
      · have hne := dst_apart X hi g1 e h1 g2
        have hB : B j = true := by unfold plus at g3; rw [if_neg e] at g3; exact g3
        have := (hv d' V (.inl ⟨j, y, g1, g2, hB, g4⟩)).mono hle
        simpa [Array.getD_eq_getD_getElem?, Array.getElem?_setIfInBounds, Ne.symm hne] using this
    · have hne : d' ≠ d := by
        intro e
        subst e
        have := g1 i o hi h1
        simp [plus] at this
      have := (hv d' V (.inr ⟨fun j y q1 q2 => by
        have := g1 j y q1 q2
        unfold plus at this
        split at this
        · cases this
        · exact this, g2⟩)).mono hle
      simpa [Array.getD_eq_getD_getElem?, Array.getElem?_setIfInBounds, Ne.symm hne] using this
  unfold wpOpIn
  simp only [hi]
  rcases h4 with ⟨hw, hq⟩ | ⟨hw, hv0⟩
  · rw [wants_at hlook hw]
    simp only [if_true]
    refine ⟨fun _ _ => trivial, ?_⟩
    rw [Oper.semAt_eq _ _ _ hq.1]
    refine hq.2 m w a lo n _ _ (hG.mono f.K) H hOp (fun m' w' nv hle H' f' hnv => ?_)
    rw [h1]
    exact fin m' w' nv hle H' f' hnv
  · rw [wants_at hlook hw]
    simp only [Bool.false_eq_true, if_false]
    refine ⟨fun _ _ => trivial, ?_⟩
    rw [h1]
    exact fin m w undef (Mp.le_refl m) H (Fr.refl _ _ _) (by rw [hv0]; exact .tuple .nil)
theorem quiet_all (X : Stat P ops ms) (D : QD P GT sz L ops S0 Ss vs) (hG : GOk GT m0) {lo : Option Nat} {n : Nat} {Q : Exit → Act → World → Prop} (hQ : ∀ a w B, (∀ k, k < ops.size → B k = true) → QInv GT sz L ops S0 vs m0 L0 w0 B a w → Q .normal a w) :
    ∀ (fuel : Nat) (listed : Array Bool) (a : Act) (w : World), listed.size = ops.size → listed.count true + fuel = ops.size → QInv GT sz L ops S0 vs m0 L0 w0 (fun k => listed.getD k false) a w → wpAnyIn (Wd lo) n P .any ops Q fuel listed a w
  | 0, listed, a, w, hs, hc, I => by
    have hall : ∀ b ∈ listed, true = b := Array.count_eq_size.1 (by omega)
    have hget : ∀ k, k < ops.size → listed[k]? = some true := fun k hk => by
      have hk' : k < listed.size := by omega
      rw [Array.getElem?_eq_getElem hk', ← hall listed[k] (Array.getElem_mem hk')]
    refine ⟨List.eq_nil_iff_forall_not_mem.2 (fun j hj => ?_), hQ a w _ (fun k hk => ?_) I⟩
    · obtain ⟨g1, o, g2, _⟩ := mem_ready.1 hj
      obtain ⟨g3, _⟩ := Array.getElem?_eq_some_iff.1 g2
      rw [Array.getD_eq_getD_getElem?, hget j g3] at g1
      simp at g1
    · simp [Array.getD_eq_getD_getElem?, hget k hk]
  | fuel + 1, listed, a, w, hs, hc, I => by
    refine ⟨fun hr => hQ a w _ (fun k => ?_) I, fun i hi => ?_⟩
    · induction k using Nat.strongRecOn with
      | _ k ih =>
        intro hk
        cases hL : listed.getD k false with
        | true => rfl
        | false =>
          exfalso
          have hk' : k < listed.size := by omega
          have hmem : k ∈ Region.ready .any ops listed := by
            rw [mem_ready]
            refine ⟨?_, ops[k], Array.getElem?_eq_getElem hk, ?_⟩
            · rw [Array.getD_eq_getD_getElem?, Array.getElem?_eq_getElem hk'] at hL ⊢
              simpa using hL
            · intro ed he hb
              obtain ⟨mk, hmk⟩ : ∃ mk, ms[k]? = some mk := ⟨ms[k]'(by rw [X.len]; exact hk), List.getElem?_eq_getElem _⟩
              have := X.good.edge k ops[k] mk (Array.getElem?_eq_getElem hk) hmk ed (by simpa using he) hb
              exact ih ed.on this (by omega)
          rw [hr] at hmem
          cases hmem
    · obtain ⟨g1, o, g2, g3⟩ := mem_ready.1 hi
      obtain ⟨hin, _⟩ := Array.getElem?_eq_some_iff.1 g2
      have hin' : i < listed.size := by omega
      have hun : listed.getD i false = false := by
        rw [Array.getD_eq_getD_getElem?, Array.getElem?_eq_getElem hin'] at g1 ⊢
        simpa using g1
      refine quiet_step X D hG g2 (fun ed he hb => g3 ed (by simpa using he) hb) hun I (fun a' w' hI => ?_)
      have hplus : plus (fun k => listed.getD k false) i = fun k => (listed.setIfInBounds i true).getD k false := by
        funext k
        unfold plus
        by_cases hk : k = i
        · subst hk
          simp [Array.getD_eq_getD_getElem?, hin']
        · rw [if_neg hk]
          exact (getD_set_ne false (Ne.symm hk)).symm
      rw [hplus] at hI
      refine quiet_all X D hG hQ fuel _ a' w' (by simpa using hs) ?_ hI
      have hf : listed[i] = false := by
        rw [Array.getD_eq_getD_getElem?, Array.getElem?_eq_getElem hin'] at hun
        simpa using hun
      have hset : listed.setIfInBounds i true = listed.set i true hin' := by
        unfold Array.setIfInBounds
        rw [dif_pos hin']
      rw [hset, Array.count_set hin', hf]
      simp
      omega
end
/-- A quiet region that draws its order. -/
theorem TT.draw {id : Nat} {ms : List Nat} (hm : P.follows .mixedOrders = true) (hs : statOk P ops = some ms) (h : TQ P GT sz ops ops.toList st S L K) : TT P GT sz (.code (.region id ops true) :: st) .normal S L K := by
  intro m w a lo n m0 L0 w0 hG f H s hz hd e' he
  cases he
  obtain ⟨S', hq, k⟩ := h
  obtain ⟨Ss, vs, d0, d1, d2⟩ := hq.data
  have D : QD P GT sz L ops S Ss vs := ⟨d0, fun i o hi => d2 i o (by simpa using hi)⟩
  refine wpIn_region_any hm ?_
  refine quiet_all (statOk_spec hs) D hG (m0 := m0) (L0 := L0) (w0 := w0) ?_ ops.size (Array.replicate ops.size false) a { w with drawn := w.drawn + 1 } (by simp) (by simp [Array.count_replicate]) ?_
  · intro a1 w1 B hall ⟨m1, f1, H1, hv1, hz1, hd1, _⟩
    refine k m1 w1 a1 lo n m0 L0 w0 hG f1 H1 ⟨fun i v hv => hv1 i v ?_⟩ hz1 hd1 _ .normal
    rw [← d1] at hv
    rcases D.text ops.size (Nat.le_refl _) i v (by simpa using hv) with ⟨j, o, g1, g2, g3, g4⟩ | ⟨g1, g2⟩
    · exact .inl ⟨j, o, g1, g2, hall j (Array.getElem?_eq_some_iff.1 g1).1, g4⟩
    · refine .inr ⟨fun j o q1 q2 => ?_, g2⟩
      have := g1 j o q1 q2
      have hj := (Array.getElem?_eq_some_iff.1 q1).1
      simp at this
      omega
  · have hL : (fun k => (Array.replicate ops.size false).getD k false) = fun _ => false := by
      funext k
      rw [Array.getD_eq_getD_getElem?]
      by_cases hk : k < ops.size
      · simp [hk]
      · simp [hk]
    rw [hL]
    refine ⟨m, f.trans Fr.drew, H.drew, ?_, hz, hd, fun i o _ hh => by cases hh⟩
    intro d V hval
    rcases hval with ⟨j, o, _, _, g, _⟩ | ⟨_, g⟩
    · cases g
    · exact s.get d V g
end
end
end Go.Ev
