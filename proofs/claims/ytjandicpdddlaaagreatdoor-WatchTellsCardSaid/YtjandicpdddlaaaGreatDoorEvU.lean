/-
  An evaluator of runs and its soundness, part U. No condition of its own.
-/
import Derived.Test.YtjandicpdddlaaaGreatDoorEvT
namespace Go.Ev
noncomputable section

/-! ### Two values alike -/
def andB : Bool → Bool → Bool
  | true, b => b
  | false, _ => false
theorem andB_true {a b : Bool} (h : andB a b = true) : a = true ∧ b = true := by cases a <;> cases b <;> first | exact ⟨rfl, rfl⟩ | cases h
def Cap.same : Cap → Cap → Bool
  | .ex k, y => (match y with | .ex k' => Nat.beq k k' | _ => false)
  | .te k, y => (match y with | .te k' => Nat.beq k k' | _ => false)
mutual
def AV.same : AV → AV → Bool
  | .bool a, y => (match y with | .bool b => beqB a b | _ => false)
  | .int k n, y => (match y with | .int k' n' => andB (decide (k = k')) (eqI n n') | _ => false)
  | .str a, y => (match y with | .str b => eqL a b | _ => false)
  | .ptr b o, y => (match y with | .ptr b' o' => andB (Nat.beq b b') (Nat.beq o o') | _ => false)
  | .nilPtr, y => (match y with | .nilPtr => true | _ => false)
  | .slice b o l c, y => (match y with | .slice b' o' l' c' => andB (Nat.beq b b') (andB (Nat.beq o o') (andB (Nat.beq l l') (Cap.same c c'))) | _ => false)
  | .empty, y => (match y with | .empty => true | _ => false)
  | .nilSlice, y => (match y with | .nilSlice => true | _ => false)
  | .map b, y => (match y with | .map b' => Nat.beq b b' | _ => false)
  | .nilMap, y => (match y with | .nilMap => true | _ => false)
  | .func f a c, y => (match y with | .func f' a' c' => andB (Nat.beq f f') (andB (AV.sameL a a') (AV.sameL c c')) | _ => false)
  | .yield l, y => (match y with | .yield l' => Nat.beq l l' | _ => false)
  | .nilFunc, y => (match y with | .nilFunc => true | _ => false)
  | .iface t v, y => (match y with | .iface t' v' => andB (Nat.beq t t') (AV.same v v') | _ => false)
  | .nilIface, y => (match y with | .nilIface => true | _ => false)
  | .agg l, y => (match y with | .agg l' => AV.sameL l l' | _ => false)
  | .tuple l, y => (match y with | .tuple l' => AV.sameL l l' | _ => false)
  | .lst n l, y => (match y with | .lst n' l' => andB (Nat.beq n n') (AV.sameL l l') | _ => false)
  | .fptr l, y => (match y with | .fptr l' => AV.sameL l l' | _ => false)
def AV.sameL : List AV → List AV → Bool
  | [], y => (match y with | [] => true | _ => false)
  | a :: l, y => (match y with | b :: k => andB (AV.same a b) (AV.sameL l k) | _ => false)
end
theorem beq_of {a b : Nat} (h : Nat.beq a b = true) : a = b := Nat.eq_of_beq_eq_true h
theorem Cap.same_eq {x y : Cap} (h : Cap.same x y = true) : x = y := by
  cases x <;> cases y <;> simp only [Cap.same] at h <;> first | (rw [beq_of h]; done) | (cases h; done)
mutual
theorem AV.same_eq : ∀ {x y : AV}, AV.same x y = true → x = y
  | .bool a, y, h => by
    cases y <;> simp only [AV.same] at h <;> try (cases h; done)
    rw [beqB_eq] at h; rw [eq_of_beq h]
  | .int k n, y, h => by
    cases y <;> simp only [AV.same] at h <;> try (cases h; done)
    obtain ⟨h1, h2⟩ := andB_true h
    rw [eqI_eq] at h2; rw [of_decide_eq_true h1, eq_of_beq h2]
  | .str a, y, h => by
    cases y <;> simp only [AV.same] at h <;> try (cases h; done)
    rw [eqL_eq] at h; rw [of_decide_eq_true h]
  | .ptr b o, y, h => by
    cases y <;> simp only [AV.same] at h <;> try (cases h; done)
    obtain ⟨h1, h2⟩ := andB_true h
    rw [beq_of h1, beq_of h2]
  | .nilPtr, y, h => by
    cases y <;> simp only [AV.same] at h <;> try (cases h; done)
    rfl
  | .slice b o l c, y, h => by
    cases y <;> simp only [AV.same] at h <;> try (cases h; done)
    obtain ⟨h1, h⟩ := andB_true h
    obtain ⟨h2, h⟩ := andB_true h
    obtain ⟨h3, h4⟩ := andB_true h
    rw [beq_of h1, beq_of h2, beq_of h3, Cap.same_eq h4]
  | .empty, y, h => by
    cases y <;> simp only [AV.same] at h <;> try (cases h; done)
    rfl
  | .nilSlice, y, h => by
    cases y <;> simp only [AV.same] at h <;> try (cases h; done)
    rfl
  | .map b, y, h => by
    cases y <;> simp only [AV.same] at h <;> try (cases h; done)
    rw [beq_of h]
  | .nilMap, y, h => by
    cases y <;> simp only [AV.same] at h <;> try (cases h; done)
    rfl
  | .func f a c, y, h => by
    cases y <;> simp only [AV.same] at h <;> try (cases h; done)
    obtain ⟨h1, h⟩ := andB_true h
    obtain ⟨h2, h3⟩ := andB_true h
    rw [beq_of h1, AV.sameL_eq h2, AV.sameL_eq h3]
  | .yield l, y, h => by
    cases y <;> simp only [AV.same] at h <;> try (cases h; done)
    rw [beq_of h]
  | .nilFunc, y, h => by
    cases y <;> simp only [AV.same] at h <;> try (cases h; done)
    rfl
  | .iface t v, y, h => by
    cases y <;> simp only [AV.same] at h <;> try (cases h; done)
    obtain ⟨h1, h2⟩ := andB_true h
    rw [beq_of h1, AV.same_eq h2]
  | .nilIface, y, h => by
    cases y <;> simp only [AV.same] at h <;> try (cases h; done)
    rfl
  | .agg l, y, h => by
    cases y <;> simp only [AV.same] at h <;> try (cases h; done)
    rw [AV.sameL_eq h]
  | .tuple l, y, h => by
    cases y <;> simp only [AV.same] at h <;> try (cases h; done)
    rw [AV.sameL_eq h]
  | .lst n l, y, h => by
    cases y <;> simp only [AV.same] at h <;> try (cases h; done)
    obtain ⟨h1, h2⟩ := andB_true h
    rw [beq_of h1, AV.sameL_eq h2]
  | .fptr l, y, h => by
    cases y <;> simp only [AV.same] at h <;> try (cases h; done)
    rw [AV.sameL_eq h]
theorem AV.sameL_eq : ∀ {x y : List AV}, AV.sameL x y = true → x = y
  | [], y, h => by
    cases y <;> simp only [AV.sameL] at h <;> try (cases h; done)
    rfl
  | a :: l, y, h => by
    cases y <;> simp only [AV.sameL] at h <;> try (cases h; done)
    obtain ⟨h1, h2⟩ := andB_true h
    rw [AV.same_eq h1, AV.sameL_eq h2]
end

/-! ### One operation, run -/
def opRun (P : Program) (e : Ev) (fr : AFr) (h : Hp) (o : Op) : Option (AV × Hp) :=
  match opCall o with
  | some c => match acall P e fr h c with
    | some (.ret v, h1) => some (v, h1)
    | _ => none
  | none => aopF o P fr.T h
theorem opRun_eq (P : Program) (e : Ev) (fr : AFr) (h : Hp) (o : Op) : opRun P e fr h o = (match o with
  | .call c => (match acall P e fr h c with
    | some (.ret v, h1) => some (v, h1)
    | _ => none)
  | op => aop P fr.T h op) := by
  cases o <;> simp only [opRun, opCall, aopF_eq]

theorem opRun_sound {P : Program} {e : Ev} (hec : SoundCode P e.code) (hcc : SoundCall P e.call) {fr : AFr} {h h1 : Hp} {o : Oper} {v : AV} (he : opRun P e fr h o.op = some (v, h1))
    {m : Mp} {w : World} {a : Act} {lo : Option Nat} {n : Nat} (H : HRel m h w) (hfr : FrRel m fr a) {K : Act → World → Prop} {Q : Exit → Act → World → Prop}
    (hK : ∀ m1 w1 nv, Ext m h w m1 h1 w1 → HRel m1 h1 w1 → VRel m1 v nv → K (a.put o.dst nv) w1) : o.wpIn (Wd lo) n P a w K Q := by
  refine ⟨fun _ _ => trivial, ?_⟩
  rw [opRun_eq] at he
  split at he
  · rename_i c hop
    have hsem : o.semAt (Wd lo).round a.eval = execOp a.eval o := Oper.semAt_eq _ _ _ (fun c' => by rw [hop]; simp)
    rw [hsem]
    split at he
    · rename_i v1 h2 hc
      cases he
      refine acall_sound hec hcc hc H hfr lo n hop (fun w1 m1 v1 nv e1 hv x1 x2 => ?_) (fun w1 m1 v1 nv e1 => by cases e1)
      cases e1
      exact hK m1 w1 nv x1 x2 hv
    · cases he
  · rename_i op n1
    have hnd : ∀ c', o.op ≠ .defer c' := by
      intro c' hh
      rw [hh] at he
      cases he
    rw [Oper.semAt_eq _ _ _ hnd]
    obtain ⟨nx, w', m', r1, r2, r3, r4⟩ := aop_sound H hfr.tm he
    rw [r1]
    rcases r4 with ⟨v', rfl, hv⟩ | ⟨rfl, rfl⟩
    · rw [Oper.uponIn_value]
      exact hK m' w' v' r3 r2 hv
    · rw [Oper.uponIn_skip]
      exact hK m' w' _ r3 r2 (.tuple .nil)

/-! ### What an operation looks at -/
theorem aevs_congr {T T' : Tm} {ng : Nat} : ∀ {l : List Operand}, (∀ x ∈ l, aev T ng x = aev T' ng x) → aevs T ng l = aevs T' ng l
  | [], _ => rfl
  | x :: l, h => by
    simp only [aevs, h x (List.mem_cons_self ..), aevs_congr (fun y hy => h y (List.mem_cons_of_mem _ hy))]
theorem aevp_congr {T T' : Tm} {ng : Nat} : ∀ {l : List (Nat × Operand)}, (∀ x ∈ l, aev T ng x.2 = aev T' ng x.2) → aevp T ng l = aevp T' ng l
  | [], _ => rfl
  | (i, x) :: l, h => by
    have h1 := h (i, x) (List.mem_cons_self ..)
    simp only [aevp, h1, aevp_congr (fun y hy => h y (List.mem_cons_of_mem _ hy))]
theorem aevo_congr {T T' : Tm} {ng : Nat} {x : Option Operand} (h : ∀ y, x = some y → aev T ng y = aev T' ng y) : aevo T ng x = aevo T' ng x := by
  cases x with
  | none => rfl
  | some y => simp only [aevo, h y rfl]

theorem aop_congr {P : Program} {T T' : Tm} {h : Hp} {o : Op} (hA : ∀ x ∈ o.operands, aev T h.ng x = aev T' h.ng x) : aop P T h o = aop P T' h o := by
  cases o <;> simp only [aop, Op.operands] at hA ⊢
  all_goals first | rfl | skip
  case move x => rw [hA x (by simp)]
  case assign x => rw [hA x (by simp)]
  case pick c x y => rw [hA c (by simp), hA x (by simp), hA y (by simp)]
  case box t x => rw [hA x (by simp)]
  case build t ps => rw [aevp_congr (fun y hy => hA y.2 (by simp; exact ⟨y.1, by simpa using hy⟩))]
  case buildSlice t n ps => rw [aevp_congr (fun y hy => hA y.2 (by simp; exact ⟨y.1, by simpa using hy⟩))]
  case load t x => rw [hA x (by simp)]
  case store t x v => rw [hA x (by simp), hA v (by simp)]
  case nilCheck x => rw [hA x (by simp)]
  case binOp op t x y u => rw [hA x (by simp), hA y (by simp)]
  case unOp op t x => rw [hA x (by simp)]
  case convert s d x => rw [hA x (by simp)]
  case makeInterface t x => rw [hA x (by simp)]
  case makeFunc fn f c => cases fn <;> first | rfl | (simp only; rw [aevs_congr (fun y hy => hA y (by simp; simp at hy; exact .inl hy)), aevs_congr (l := c.toList) (fun y hy => hA y (by simp; simp at hy; exact .inr hy))])
  case makeSlice t l c => rw [hA l (by simp), hA c (by simp)]
  case slice t x lo hi mx =>
    rw [hA x (by simp), aevo_congr (x := lo) (fun y hy => hA y (by subst hy; simp)), aevo_congr (x := hi) (fun y hy => hA y (by subst hy; simp)), aevo_congr (x := mx) (fun y hy => hA y (by subst hy; simp))]
  case fieldAddr t x f => rw [hA x (by simp)]
  case field t x f => rw [hA x (by simp)]
  case indexAddr t x i => rw [hA x (by simp), hA i (by simp)]
  case index t x i => rw [hA x (by simp), hA i (by simp)]
  case lookup t x i ok => rw [hA x (by simp), hA i (by simp)]
  case mapUpdate t x k v => rw [hA x (by simp), hA k (by simp), hA v (by simp)]
  case typeAssert x s t ok => rw [hA x (by simp)]
  case extract x i => rw [hA x (by simp)]

theorem opRun_congr {P : Program} {e : Ev} {T T' : Tm} {df df' : List ADef} {h : Hp} {o : Op} (hA : ∀ x ∈ o.operands, aev T h.ng x = aev T' h.ng x) : opRun P e ⟨T, df⟩ h o = opRun P e ⟨T', df'⟩ h o := by
  have gen : aop P T h o = aop P T' h o := aop_congr hA
  cases o <;> simp only [opRun_eq] <;> first | exact gen | skip
  case call c =>
    have h1 : aevs T h.ng c.args.toList = aevs T' h.ng c.args.toList := aevs_congr (fun y hy => hA y (by simp only [Op.operands, Call.operands]; exact Array.mem_append.2 (.inr (by simpa using hy))))
    have h2 : acall P e ⟨T, df⟩ h c = acall P e ⟨T', df'⟩ h c := by
      unfold acall
      simp only [h1]
      cases hc : c.callee with
      | value f =>
        have h3 : aev T h.ng f = aev T' h.ng f := hA f (by simp only [Op.operands, Call.operands, hc]; exact Array.mem_append.2 (.inl (by simp)))
        simp only [h3]
      | invoke r i => rfl
      | builtin b => rfl
    rw [h2]

/-! ### What an operation does to the heap -/
inductive Cl where
  | pure | read | new | store | big
def cls (P : Program) (o : Op) : Cl :=
  match o with
  | .move _ => .pure
  | .assign _ => .pure
  | .pick .. => .pure
  | .build .. => .pure
  | .nilCheck _ => .pure
  | .binOp .. => .pure
  | .unOp .. => .pure
  | .makeInterface .. => .pure
  | .makeFunc .. => .pure
  | .fieldAddr .. => .pure
  | .field .. => .pure
  | .indexAddr .. => .pure
  | .index .. => .pure
  | .extract .. => .pure
  | .typeAssert .. => .pure
  | .convert _ d _ => (match P.underlying d with | some (.int _) => .pure | _ => .big)
  | .load .. => .read
  | .slice .. => .read
  | .lookup .. => .read
  | .call c => (match c.callee with
    | .builtin b => (match b with | .len => .read | .cap => .read | .max => .read | .min => .read | _ => .big)
    | _ => .big)
  | .alloc _ => .new
  | .buildSlice .. => .new
  | .store .. => .store
  | _ => .big

theorem keep_some {h h1 : Hp} {x : Option AV} {v : AV} (he : keep h x = some (v, h1)) : x = some v ∧ h1 = h := by
  cases x with
  | none => cases he
  | some u => cases he; exact ⟨rfl, rfl⟩

theorem pure_any {P : Program} {e : Ev} {fr : AFr} {h h1 : Hp} {o : Op} {v : AV} (hc : cls P o = .pure) (he : opRun P e fr h o = some (v, h1)) :
    h1 = h ∧ ∀ h2 : Hp, h2.ng = h.ng → opRun P e fr h2 o = some (v, h2) := by
  have K : ∀ {h h1 : Hp} {x : Option AV}, keep h x = some (v, h1) → h1 = h ∧ ∀ h2 : Hp, keep h2 x = some (v, h2) := by
    intro h h1 x he
    obtain ⟨r1, r2⟩ := keep_some he
    subst r1
    exact ⟨r2, fun h2 => rfl⟩
  cases o <;> simp only [cls] at hc <;> try (cases hc; done)
  all_goals simp only [opRun_eq, aop] at he ⊢
  case convert s d x =>
    split at hc
    · rename_i k hd
      split at he
      · rename_i u hu
        unfold aconvH at he
        split at he
        · rename_i sd hs
          rw [hd] at he
          simp only at he
          obtain ⟨r1, r2⟩ : aconv P s d u = some v ∧ h1 = h := by
            cases hx : aconv P s d u with
            | none => rw [hx] at he; cases he
            | some y => rw [hx] at he; cases he; exact ⟨rfl, rfl⟩
          refine ⟨r2, fun h2 hg => ?_⟩
          rw [hg, hu]
          simp only [aconvH, hs, hd, r1, aconvH.keep']
        · cases he
      · cases he
    · cases hc
  case call c =>
    split at hc
    · split at hc <;> cases hc
    · cases hc
  case makeFunc fn f c =>
    cases fn <;> simp only at he ⊢ <;> try (cases he; done)
    split at he
    · rename_i f' hf
      split at he
      · rename_i c' hc'
        cases he
        refine ⟨rfl, fun h2 hg => ?_⟩
        rw [hg, hf]
        simp only [hc']
      · cases he
    · cases he
  all_goals (repeat' split at he)
  all_goals try (cases he; done)
  all_goals obtain ⟨r1, r2⟩ := K he
  all_goals refine ⟨r1, fun h2 hg => ?_⟩
  all_goals simp only [hg, *]
end
end Go.Ev
