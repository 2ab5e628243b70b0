/-
  An evaluator of runs and its soundness, part P. No condition of its own.
-/
import Derived.Test.YtjandicpdddlaaaGreatDoorEvO
namespace Go.Ev
noncomputable section

def acall (P : Program) (e : Ev) (fr : AFr) (h : Hp) (c : Call) : Option (AOut × Hp) :=
  match aevs fr.T h.ng c.args.toList with
  | some args => match c.callee with
    | .value f => match aev fr.T h.ng f with
      | some (.func g a1 c1) => match callable P g with
        | some _ => e.call g (a1 ++ (args ++ c1)) h
        | none => none
      | some (.yield l) => around P e l args h
      | _ => none
    | .builtin b => match abuiltin P h b c.argTypes args with
      | some (v, h1) => some (.ret v, h1)
      | none => none
    | .invoke _ _ => none
  | none => none

theorem calls_upon {P : Program} {f : FuncId} {args : Array Value} {m : Mp} {h h1 : Hp} {w : World} {out : AOut} {lo : Option Nat} {n : Nat} {o : Oper} {a : Act} {next : Act → World → Prop}
    {Q : Exit → Act → World → Prop} (hc : CallsIn (Wd lo) (n - 1) P f args w (CPost m h w out h1))
    (K : ∀ w1 m1 v nv, out = .ret v → VRel m1 v nv → Ext m h w m1 h1 w1 → HRel m1 h1 w1 → next (a.put o.dst nv) w1)
    (Kp : ∀ w1 m1 v nv, out = .pan v → VRel m1 v nv → Ext m h w m1 h1 w1 → HRel m1 h1 w1 → Q (.panic [{ v := nv, recovered := false }]) a w1) :
    o.uponIn (Wd lo) n P a next Q (.ok (.enter f args) w) := by
  rw [Oper.uponIn_enter]
  refine ⟨(fun hh => by cases hh), hc.mono ?_⟩
  rintro e w1 ⟨m1, r1, r2, r3⟩
  cases r3 with
  | ret hv => exact K w1 m1 _ _ rfl hv r1 r2
  | pan hv => exact Kp w1 m1 _ _ rfl hv r1 r2

theorem acall_sound {P : Program} {e : Ev} (hec : SoundCode P e.code) (hcc : SoundCall P e.call) {fr : AFr} {h h1 : Hp} {c : Call} {out : AOut} (he : acall P e fr h c = some (out, h1))
    {m : Mp} {w : World} (H : HRel m h w) {a : Act} (hfr : FrRel m fr a) (lo : Option Nat) (n : Nat) {o : Oper} (ho : o.op = .call c) {next : Act → World → Prop} {Q : Exit → Act → World → Prop}
    (K : ∀ w1 m1 v nv, out = .ret v → VRel m1 v nv → Ext m h w m1 h1 w1 → HRel m1 h1 w1 → next (a.put o.dst nv) w1)
    (Kp : ∀ w1 m1 v nv, out = .pan v → VRel m1 v nv → Ext m h w m1 h1 w1 → HRel m1 h1 w1 → Q (.panic [{ v := nv, recovered := false }]) a w1) :
    o.uponIn (Wd lo) n P a next Q ((execOp a.eval o).run P w) := by
  unfold acall at he
  split at he
  · rename_i args hargs
    have hA := aevs_sound H hfr.tm hargs
    have hA' : LRel m args (c.args.map a.eval).toList := by simpa using hA
    split at he
    · rename_i f hcal
      split at he
      · rename_i g a1 c1 hf
        split at he
        · rename_i fc hg
          obtain ⟨fn, body⟩ := fc
          have hv := aev_sound H hfr.tm hf
          obtain ⟨a1', c1', hfe, ha1, hc1⟩ : ∃ a1' c1', a.eval f = .func (.func g) a1' c1' ∧ LRel m a1 a1'.toList ∧ LRel m c1 c1'.toList := by
            generalize a.eval f = f' at hv
            cases hv with
            | func _ h1 h2 => exact ⟨_, _, rfl, h1, h2⟩
          have hrun : (execOp a.eval o).run P w = .ok (.enter g (a1' ++ c.args.map a.eval ++ c1')) w := by
            obtain ⟨_, _, r⟩ := callable_run hg (a1' ++ c.args.map a.eval ++ c1') w
            unfold execOp
            rw [ho]
            simp only [resolve, hcal, hfe, Deferred.ofValue, Sem.run_bind, Sem.run_pure, Result.andThen_ok, invoke, r]
          rw [hrun]
          refine calls_upon (hcc _ _ _ _ _ he m w _ lo (n - 1) H ?_) K Kp
          simp only [Array.toList_append, List.append_assoc]
          exact ha1.append (hA'.append hc1)
        · cases he
      · rename_i l hf
        have hv := aev_sound H hfr.tm hf
        obtain ⟨x, hx, hfe⟩ : ∃ x, m l = some x ∧ a.eval f = .func (.yield x.c) #[] #[] := by
          generalize a.eval f = f' at hv
          cases hv with
          | yield hm => exact ⟨_, hm, rfl⟩
        obtain ⟨f1, tmps, asg, body, r1, r2⟩ := around_sound hec he H hA' hx lo (n - 1)
        have hrun : (execOp a.eval o).run P w = .ok (.round x.c f1 tmps asg body) w := by
          unfold execOp
          rw [ho]
          simp only [resolve, hcal, hfe, Deferred.ofValue, Sem.run_bind, Sem.run_pure, Result.andThen_ok, invoke, Array.empty_append, r1]
        rw [hrun, Oper.uponIn_round]
        refine ⟨(fun hh => by cases hh), r2.mono ?_⟩
        rintro e1 w1 ⟨m1, s1, s2, s3⟩
        cases s3 with
        | ret hv => exact K w1 m1 _ _ rfl hv s1 s2
        | pan hv => exact Kp w1 m1 _ _ rfl hv s1 s2
      · cases he
    · rename_i b hcal
      split at he
      · rename_i v h2 hb
        cases he
        obtain ⟨nx, w', m', r1, r2, r3, r4⟩ := abuiltin_sound (ty := o.type) (cs := c.args.map fun | .const _ => true | _ => false) H hA' hb
        have hrun : (execOp a.eval o).run P w = .ok nx w' := by
          unfold execOp
          rw [ho]
          simp only [resolve, hcal, Sem.run_bind, Sem.run_pure, Result.andThen_ok, invoke]
          exact r1
        rw [hrun]
        rcases r4 with ⟨v', rfl, hv⟩ | ⟨rfl, rfl⟩
        · rw [Oper.uponIn_value]; exact K w' m' _ _ rfl hv r3 r2
        · rw [Oper.uponIn_skip]; exact K w' m' _ _ rfl (.tuple .nil) r3 r2
      · cases he
    · cases he
  · cases he

/-! ### The operations of a region, in the order of the text -/
def runOps (P : Program) (e : Ev) (ops : Array Oper) : List Oper → AFr → Hp → Option (AEx × AFr × Hp)
  | [], fr, h => some (.normal, fr, h)
  | o :: rest, fr, h => match wantedA ops fr.T o.guard with
    | false => match putA fr.T o.dst (.tuple []) with
      | some T => runOps P e ops rest ⟨T, fr.df⟩ h
      | none => none
    | true => match opCall o.op with
      | some c => match acall P e fr h c with
        | some (.ret v, h1) => match putA fr.T o.dst v with
          | some T => runOps P e ops rest ⟨T, fr.df⟩ h1
          | none => none
        | some (.pan v, h1) => some (.panic v, fr, h1)
        | none => none
      | none => match opPanic o.op with
        | some x => match aev fr.T h.ng x with
          | some (.iface t v) => some (.panic (.iface t v), fr, h)
          | _ => none
        | none => match aopF o.op P fr.T h with
          | some (v, h1) => match putA fr.T o.dst v with
            | some T => runOps P e ops rest ⟨T, fr.df⟩ h1
            | none => none
          | none => none

/-! The same in small steps, each with little to copy. -/
def putThen (k : AFr → Hp → Option (AEx × AFr × Hp)) (d : Option Tmp) (fr : AFr) (h : Hp) (v : AV) : Option (AEx × AFr × Hp) :=
  match putA fr.T d v with
  | some T => k ⟨T, fr.df⟩ h
  | none => none
def afterOut (k : AFr → Hp → Option (AEx × AFr × Hp)) (d : Option Tmp) (fr : AFr) (h : Hp) (r : AOut) : Option (AEx × AFr × Hp) :=
  match r with
  | .ret v => putThen k d fr h v
  | .pan v => some (.panic v, fr, h)
def afterCall (k : AFr → Hp → Option (AEx × AFr × Hp)) (d : Option Tmp) (fr : AFr) (r : Option (AOut × Hp)) : Option (AEx × AFr × Hp) :=
  match r with
  | some x => afterOut k d fr x.2 x.1
  | none => none
def afterPlain (k : AFr → Hp → Option (AEx × AFr × Hp)) (d : Option Tmp) (fr : AFr) (r : Option (AV × Hp)) : Option (AEx × AFr × Hp) :=
  match r with
  | some x => putThen k d fr x.2 x.1
  | none => none
def runPanic (fr : AFr) (h : Hp) (r : Option AV) : Option (AEx × AFr × Hp) :=
  match r with
  | some v => (match v with
    | .iface t v => some (.panic (.iface t v), fr, h)
    | _ => none)
  | none => none
def runPlain (P : Program) (o : Oper) (k : AFr → Hp → Option (AEx × AFr × Hp)) (fr : AFr) (h : Hp) (r : Option Operand) : Option (AEx × AFr × Hp) :=
  match r with
  | some x => runPanic fr h (aev fr.T h.ng x)
  | none => afterPlain k o.dst fr (aopF o.op P fr.T h)
def runOne (P : Program) (e : Ev) (o : Oper) (k : AFr → Hp → Option (AEx × AFr × Hp)) (fr : AFr) (h : Hp) (r : Option Call) : Option (AEx × AFr × Hp) :=
  match r with
  | some c => afterCall k o.dst fr (acall P e fr h c)
  | none => runPlain P o k fr h (opPanic o.op)
def stepOp (P : Program) (e : Ev) (ops : Array Oper) (o : Oper) (k : AFr → Hp → Option (AEx × AFr × Hp)) (fr : AFr) (h : Hp) : Option (AEx × AFr × Hp) :=
  match wantedA ops fr.T o.guard with
  | true => runOne P e o k fr h (opCall o.op)
  | false => putThen k o.dst fr h (.tuple [])
def runOpsF (P : Program) (e : Ev) (ops : Array Oper) (l : List Oper) : AFr → Hp → Option (AEx × AFr × Hp) :=
  List.rec (motive := fun _ => AFr → Hp → Option (AEx × AFr × Hp)) (fun fr h => some (.normal, fr, h)) (fun o _ ih => stepOp P e ops o ih) l
theorem runOpsF_eq (P : Program) (e : Ev) (ops : Array Oper) : ∀ (l : List Oper) (fr : AFr) (h : Hp), runOpsF P e ops l fr h = runOps P e ops l fr h
  | [], _, _ => rfl
  | o :: l, fr, h => by
    have ih := runOpsF_eq P e ops l
    show stepOp P e ops o (runOpsF P e ops l) fr h = _
    have hp : ∀ d fr h v, putThen (runOpsF P e ops l) d fr h v = (match putA fr.T d v with | some T => runOps P e ops l ⟨T, fr.df⟩ h | none => none) := by
      intro d fr h v
      unfold putThen
      cases putA fr.T d v with
      | none => rfl
      | some T => exact ih _ _
    simp only [stepOp, runOps]
    cases wantedA ops fr.T o.guard with
    | false => exact hp _ _ _ _
    | true =>
      simp only [runOne]
      cases opCall o.op with
      | some c =>
        simp only
        cases acall P e fr h c with
        | none => rfl
        | some r =>
          obtain ⟨out, h1⟩ := r
          cases out with
          | ret v => exact hp _ _ _ _
          | pan v => rfl
      | none =>
        simp only [runPlain]
        cases opPanic o.op with
        | some x =>
          simp only
          cases aev fr.T h.ng x with
          | none => rfl
          | some v => cases v <;> rfl
        | none =>
          simp only
          cases aopF o.op P fr.T h with
          | none => rfl
          | some r => exact hp _ _ _ _

theorem uponIn_mono {F : Fence} {n : Nat} {P : Program} {o : Oper} {a : Act} {next next' : Act → World → Prop} {Q Q' : Exit → Act → World → Prop} (h1 : ∀ a w, next a w → next' a w) (h2 : ∀ e a w, Q e a w → Q' e a w) :
    ∀ (r : Result Next), o.uponIn F n P a next Q r → o.uponIn F n P a next' Q' r := by
  intro r h
  have hout : LetsOut Q → LetsOut Q' := fun ⟨a, w, q⟩ => ⟨a, w, h2 _ _ _ q⟩
  cases r with
  | ok nx w =>
    cases nx <;> simp only [Oper.uponIn] at h ⊢ <;> first
      | exact h1 _ _ h
      | exact h
      | (refine ⟨h.1, h.2.mono ?_⟩; intro e w1 hp; cases e <;> first | exact h1 _ _ hp | exact h2 _ _ _ hp | exact hout hp)
      | (refine ⟨h.1, h.2.mono ?_⟩; intro e w1 hp; exact h1 _ _ hp)
  | halt hh w =>
    cases hh <;> simp only [Oper.uponIn] at h ⊢ <;> first
      | exact h2 _ _ _ h
      | exact h
theorem wpOpsIn_mono {F : Fence} {n : Nat} {P : Program} {ops : Array Oper} {Q Q' : Exit → Act → World → Prop} : ∀ {l : List Nat} {a : Act} {w : World}, wpOpsIn F n P ops Q l a w → (∀ e a w, Q e a w → Q' e a w) →
    wpOpsIn F n P ops Q' l a w
  | [], a, w, h, hq => hq _ _ _ h
  | i :: rest, a, w, h, hq => by
    simp only [wpOpsIn] at h ⊢
    cases ho : ops[i]? with
    | none => rw [ho] at h; exact wpOpsIn_mono h hq
    | some o =>
      rw [ho] at h
      simp only at h ⊢
      split
      · rename_i hw
        rw [if_pos hw] at h
        exact ⟨h.1, uponIn_mono (fun _ _ hh => wpOpsIn_mono hh hq) hq _ h.2⟩
      · rename_i hw
        rw [if_neg hw] at h
        exact ⟨h.1, wpOpsIn_mono h.2 hq⟩
theorem frPut {m : Mp} {fr : AFr} {a : Act} (hfr : FrRel m fr a) {d : Option Tmp} {v : AV} {v' : Value} (hv : VRel m v v') {T : Tm} (h : putA fr.T d v = some T) : FrRel m ⟨T, fr.df⟩ (a.put d v') :=
  ⟨putA_sound hfr.tm hv h, by rw [put_defers]; exact hfr.df⟩

theorem runOps_sound {P : Program} {e : Ev} (hec : SoundCode P e.code) (hcc : SoundCall P e.call) (ops : Array Oper) : ∀ (l : List Oper) (i : Nat), ops.toList.drop i = l →
    ∀ (fr : AFr) (h : Hp) (ex : AEx) (fr' : AFr) (h' : Hp), runOps P e ops l fr h = some (ex, fr', h') → ∀ (m : Mp) (w : World) (a : Act) (lo : Option Nat) (n : Nat), HRel m h w → FrRel m fr a →
      wpOpsIn (Wd lo) n P ops (Post m h w ex fr' h') (List.range' i l.length) a w
  | [], i, _, fr, h, ex, fr', h', he, m, w, a, lo, n, H, hfr => by
    cases he
    exact ⟨m, Ext.refl _ _ _, H, hfr, .normal⟩
  | o :: rest, i, hd, fr, h, ex, fr', h', he, m, w, a, lo, n, H, hfr => by
    have hi : ops[i]? = some o := by
      have : (ops.toList.drop i)[0]? = some o := by rw [hd]; rfl
      simpa [List.getElem?_drop] using this
    have hd' : ops.toList.drop (i + 1) = rest := by
      have : (ops.toList.drop i).drop 1 = rest := by rw [hd]; rfl
      rwa [List.drop_drop] at this
    have ih := runOps_sound hec hcc ops rest (i + 1) hd'
    simp only [List.length_cons, List.range'_succ, wpOpsIn, hi]
    rw [wantedA_sound hfr.tm ops o]
    have step : ∀ (fr1 : AFr) (h1 : Hp), runOps P e ops rest fr1 h1 = some (ex, fr', h') → ∀ (m1 : Mp) (w1 : World) (a1 : Act), Ext m h w m1 h1 w1 → HRel m1 h1 w1 → FrRel m1 fr1 a1 →
        wpOpsIn (Wd lo) n P ops (Post m h w ex fr' h') (List.range' (i + 1) rest.length) a1 w1 := by
      intro fr1 h1 hr m1 w1 a1 x1 x2 x3
      have := ih fr1 h1 ex fr' h' hr m1 w1 a1 lo n x2 x3
      exact wpOpsIn_mono this (fun _ _ _ hp => Post.trans x1 hp)
    simp only [runOps] at he
    split at he
    · rename_i hw
      rw [hw]
      split at he
      · rename_i T hT
        simp only [Bool.false_eq_true, if_false]
        exact ⟨fun _ _ => trivial, step _ _ he m w _ (Ext.refl _ _ _) H (frPut hfr (.tuple .nil) hT)⟩
      · cases he
    · rename_i hw
      rw [hw]
      simp only [if_true]
      refine ⟨fun _ _ => trivial, ?_⟩
      split at he
      · rename_i c hop'
        have hop := opCall_some hop'
        have hsem : o.semAt (Wd lo).round a.eval = execOp a.eval o := Oper.semAt_eq _ _ _ (fun c' => by rw [hop]; simp)
        rw [hsem]
        split at he
        · rename_i v h1 hc
          split at he
          · rename_i T hT
            refine acall_sound hec hcc hc H hfr lo n hop (fun w1 m1 v1 nv e1 hv x1 x2 => ?_) (fun w1 m1 v1 nv e1 => by cases e1)
            cases e1
            exact step _ _ he m1 w1 _ x1 x2 (frPut (hfr.mono x1.sub) hv hT)
          · cases he
        · rename_i v h1 hc
          cases he
          refine acall_sound hec hcc hc H hfr lo n hop (fun w1 m1 v1 nv e1 => by cases e1) (fun w1 m1 v1 nv e1 hv x1 x2 => ?_)
          cases e1
          exact ⟨m1, x1, x2, hfr.mono x1.sub, .panic hv⟩
        · cases he
      · rename_i hnc
        split at he
        · rename_i x hop'
          have hop := opPanic_some hop'
          have hsem : o.semAt (Wd lo).round a.eval = execOp a.eval o := Oper.semAt_eq _ _ _ (fun c' => by rw [hop]; simp)
          rw [hsem]
          split at he
          · rename_i t v hx
            cases he
            have hv := aev_sound H hfr.tm hx
            obtain ⟨v', hxe, hv'⟩ : ∃ v', a.eval x = .iface t v' ∧ VRel m v v' := by
              generalize a.eval x = x' at hv
              cases hv with
              | iface _ h1 => exact ⟨_, rfl, h1⟩
            have hrun : (execOp a.eval o).run P w = .halt (.panic (.iface t v')) w := by
              unfold execOp
              rw [hop]
              simp only [hxe, Instr.panic, goPanic]
              rfl
            rw [hrun, Oper.uponIn_panic]
            exact ⟨m, Ext.refl _ _ _, H, hfr, .panic (.iface t hv')⟩
          · cases he
        · rename_i hnp
          split at he
          · rename_i v h1 hop
            rw [aopF_eq] at hop
            split at he
            · rename_i T hT
              have hnd : ∀ c', o.op ≠ .defer c' := by
                intro c' hh
                rw [hh] at hop
                cases hop
              rw [Oper.semAt_eq _ _ _ hnd]
              obtain ⟨nx, w', m', r1, r2, r3, r4⟩ := aop_sound H hfr.tm hop
              rw [r1]
              rcases r4 with ⟨v', rfl, hv⟩ | ⟨rfl, rfl⟩
              · rw [Oper.uponIn_value]
                exact step _ _ he m' w' _ r3 r2 (frPut (hfr.mono r3.sub) hv hT)
              · rw [Oper.uponIn_skip]
                exact step _ _ he m' w' _ r3 r2 (frPut (hfr.mono r3.sub) (.tuple .nil) hT)
            · cases he
          · cases he
end
end Go.Ev
