/-
  An evaluator of runs and its soundness, part M. No condition of its own.
-/
import Derived.Test.YtjandicpdddlaaaGreatDoorEvS
namespace Go.Ev
noncomputable section

/-! ### Operands -/
def aev (T : Tm) (ng : Nat) : Operand → Option AV
  | .tmp t => some (T.get t)
  | .const v => ofV v
  | .global g => match Nat.blt g ng with | true => some (.ptr g 0) | false => none
  | .func f => some (.func f [] [])
def aevs (T : Tm) (ng : Nat) : List Operand → Option (List AV)
  | [] => some []
  | x :: l => match aev T ng x with
    | some v => match aevs T ng l with
      | some k => some (v :: k)
      | none => none
    | none => none
theorem aev_sound {m : Mp} {h : Hp} {w : World} (H : HRel m h w) {T : Tm} {a : Act} (ht : TmRel m T a.tmps) {x : Operand} {V : AV} (he : aev T h.ng x = some V) : VRel m V (a.eval x) := by
  cases x with
  | tmp t => cases he; exact ht.get t
  | const v => exact ofV_rel m v V he
  | global g =>
    simp only [aev] at he
    split at he
    · rename_i hg
      cases he
      obtain ⟨lim, hm⟩ := H.glob g (blt_lt hg)
      exact VRel.ptr (x := ⟨g, 0, lim⟩) hm
    · cases he
  | func f => cases he; exact .func f .nil .nil
theorem aevs_sound {m : Mp} {h : Hp} {w : World} (H : HRel m h w) {T : Tm} {a : Act} (ht : TmRel m T a.tmps) : ∀ {l : List Operand} {k : List AV}, aevs T h.ng l = some k → LRel m k (l.map a.eval)
  | [], k, he => by simp [aevs] at he; subst he; exact .nil
  | x :: l, k, he => by
    simp only [aevs] at he
    split at he
    · rename_i v hv
      split at he
      · rename_i k' hk
        cases he
        exact .cons (aev_sound H ht hv) (aevs_sound H ht hk)
      · cases he
    · cases he
def aevo (T : Tm) (ng : Nat) : Option Operand → Option (Option AV)
  | none => some none
  | some x => match aev T ng x with
    | some v => some (some v)
    | none => none
theorem aevo_sound {m : Mp} {h : Hp} {w : World} (H : HRel m h w) {T : Tm} {a : Act} (ht : TmRel m T a.tmps) {x : Option Operand} {r : Option AV} (he : aevo T h.ng x = some r) : ORelV m r (x.map a.eval) := by
  cases x with
  | none => cases he; trivial
  | some x =>
    simp only [aevo] at he
    split at he
    · rename_i v hv; cases he; exact aev_sound H ht hv
    · cases he
def aevp (T : Tm) (ng : Nat) : List (Nat × Operand) → Option (List (Nat × AV))
  | [] => some []
  | (i, x) :: l => match aev T ng x with
    | some v => match aevp T ng l with
      | some k => some ((i, v) :: k)
      | none => none
    | none => none
theorem aevp_sound {m : Mp} {h : Hp} {w : World} (H : HRel m h w) {T : Tm} {a : Act} (ht : TmRel m T a.tmps) : ∀ {l : List (Nat × Operand)} {k : List (Nat × AV)}, aevp T h.ng l = some k →
    PRel m k (l.map fun (i, x) => (i, a.eval x))
  | [], k, he => by simp [aevp] at he; subst he; exact .nil
  | (i, x) :: l, k, he => by
    simp only [aevp] at he
    split at he
    · rename_i v hv
      split at he
      · rename_i k' hk
        cases he
        exact .cons i (aev_sound H ht hv) (aevp_sound H ht hk)
      · cases he
    · cases he

/-! ### An operation that calls no Go function -/
def keep (h : Hp) : Option AV → Option (AV × Hp)
  | some v => some (v, h)
  | none => none
def aop (P : Program) (T : Tm) (h : Hp) (o : Op) : Option (AV × Hp) :=
  match o with
  | .move x => keep h (aev T h.ng x)
  | .assign x => keep h (aev T h.ng x)
  | .pick c x y => match aev T h.ng c, aev T h.ng x, aev T h.ng y with
    | some c, some x, some y => keep h (apick c x y)
    | _, _, _ => none
  | .alloc e => aallocOp P h e
  | .box _ x => match aev T h.ng x with | some v => some (abox h v) | none => none
  | .build t ps => match aevp T h.ng ps.toList with | some l => keep h (abuild P t l) | none => none
  | .buildSlice t n ps => match aevp T h.ng ps.toList with | some l => abuildSlice P h t n l | none => none
  | .load t x => match aev T h.ng x with
    | some (.ptr b o) => keep h (aload P t h b o)
    | _ => none
  | .store t x v => match aev T h.ng x with
    | some (.ptr b o) => match aev T h.ng v with
      | some v => match astore P t h b o v with
        | some h' => some (.tuple [], h')
        | none => none
      | none => none
    | _ => none
  | .nilCheck x => match aev T h.ng x with | some v => keep h (anil v) | none => none
  | .binOp op t x y _ => match aev T h.ng x with
    | some v => match aev T h.ng y with
      | some u => keep h (abin P op t x y v u)
      | none => none
    | none => none
  | .unOp op _ x => match aev T h.ng x with | some v => keep h (aun op v) | none => none
  | .convert s d x => match aev T h.ng x with | some v => aconvH P s d v h | none => none
  | .makeInterface t x => match aev T h.ng x with | some v => keep h (amkIface P t v) | none => none
  | .makeFunc fn f c => match fn with
    | .func g => match aevs T h.ng f.toList with
      | some f => match aevs T h.ng c.toList with
        | some c => some (.func g f c, h)
        | none => none
      | none => none
    | _ => none
  | .makeMap _ r => match r with | none => some (amakeMap h) | some _ => none
  | .makeSlice t l c => match aev T h.ng l with
    | some l => match aev T h.ng c with
      | some c => amakeSlice P h t l c
      | none => none
    | none => none
  | .slice t x lo hi mx => match aev T h.ng x with
    | some x => match aevo T h.ng lo, aevo T h.ng hi, aevo T h.ng mx with
      | some lo, some hi, some mx => keep h (asliceAt P h t x lo hi mx)
      | _, _, _ => none
    | none => none
  | .fieldAddr t x f => match aev T h.ng x with | some v => keep h (afieldAddr P t v f) | none => none
  | .field t x f => match aev T h.ng x with | some v => keep h (afield P t v f) | none => none
  | .indexAddr t x i => match aev T h.ng x with
    | some v => match aev T h.ng i with
      | some u => keep h (aindexAddr P t v u)
      | none => none
    | none => none
  | .index t x i => match aev T h.ng x with
    | some v => match aev T h.ng i with
      | some u => keep h (aindex P t v u)
      | none => none
    | none => none
  | .lookup t x i ok => match aev T h.ng x with
    | some v => match aev T h.ng i with
      | some u => keep h (alookup P h t v u ok)
      | none => none
    | none => none
  | .mapUpdate t x k v => match aev T h.ng x, aev T h.ng k, aev T h.ng v with
    | some x, some k, some v => match amapUpdate P h t x k v with
      | some h' => some (.tuple [], h')
      | none => none
    | _, _, _ => none
  | .typeAssert x _ t ok => match aev T h.ng x with | some v => keep h (aassert P v t ok) | none => none
  | .extract x i => match aev T h.ng x with | some v => keep h (aextract v i) | none => none
  | _ => none

/-- The same, with arms that hold nothing: the kernel need not copy them. -/
def aopF (o : Op) : Program → Tm → Hp → Option (AV × Hp) :=
  match o with
  | .move x => fun P T h => keep h (aev T h.ng x)
  | .assign x => fun P T h => keep h (aev T h.ng x)
  | .pick c x y => fun P T h => match aev T h.ng c, aev T h.ng x, aev T h.ng y with
    | some c, some x, some y => keep h (apick c x y)
    | _, _, _ => none
  | .alloc e => fun P T h => aallocOp P h e
  | .box _ x => fun P T h => match aev T h.ng x with | some v => some (abox h v) | none => none
  | .build t ps => fun P T h => match aevp T h.ng ps.toList with | some l => keep h (abuild P t l) | none => none
  | .buildSlice t n ps => fun P T h => match aevp T h.ng ps.toList with | some l => abuildSlice P h t n l | none => none
  | .load t x => fun P T h => match aev T h.ng x with
    | some (.ptr b o) => keep h (aload P t h b o)
    | _ => none
  | .store t x v => fun P T h => match aev T h.ng x with
    | some (.ptr b o) => match aev T h.ng v with
      | some v => match astore P t h b o v with
        | some h' => some (.tuple [], h')
        | none => none
      | none => none
    | _ => none
  | .nilCheck x => fun P T h => match aev T h.ng x with | some v => keep h (anil v) | none => none
  | .binOp op t x y _ => fun P T h => match aev T h.ng x with
    | some v => match aev T h.ng y with
      | some u => keep h (abin P op t x y v u)
      | none => none
    | none => none
  | .unOp op _ x => fun P T h => match aev T h.ng x with | some v => keep h (aun op v) | none => none
  | .convert s d x => fun P T h => match aev T h.ng x with | some v => aconvH P s d v h | none => none
  | .makeInterface t x => fun P T h => match aev T h.ng x with | some v => keep h (amkIface P t v) | none => none
  | .makeFunc fn f c => fun P T h => match fn with
    | .func g => match aevs T h.ng f.toList with
      | some f => match aevs T h.ng c.toList with
        | some c => some (.func g f c, h)
        | none => none
      | none => none
    | _ => none
  | .makeMap _ r => fun P T h => match r with | none => some (amakeMap h) | some _ => none
  | .makeSlice t l c => fun P T h => match aev T h.ng l with
    | some l => match aev T h.ng c with
      | some c => amakeSlice P h t l c
      | none => none
    | none => none
  | .slice t x lo hi mx => fun P T h => match aev T h.ng x with
    | some x => match aevo T h.ng lo, aevo T h.ng hi, aevo T h.ng mx with
      | some lo, some hi, some mx => keep h (asliceAt P h t x lo hi mx)
      | _, _, _ => none
    | none => none
  | .fieldAddr t x f => fun P T h => match aev T h.ng x with | some v => keep h (afieldAddr P t v f) | none => none
  | .field t x f => fun P T h => match aev T h.ng x with | some v => keep h (afield P t v f) | none => none
  | .indexAddr t x i => fun P T h => match aev T h.ng x with
    | some v => match aev T h.ng i with
      | some u => keep h (aindexAddr P t v u)
      | none => none
    | none => none
  | .index t x i => fun P T h => match aev T h.ng x with
    | some v => match aev T h.ng i with
      | some u => keep h (aindex P t v u)
      | none => none
    | none => none
  | .lookup t x i ok => fun P T h => match aev T h.ng x with
    | some v => match aev T h.ng i with
      | some u => keep h (alookup P h t v u ok)
      | none => none
    | none => none
  | .mapUpdate t x k v => fun P T h => match aev T h.ng x, aev T h.ng k, aev T h.ng v with
    | some x, some k, some v => match amapUpdate P h t x k v with
      | some h' => some (.tuple [], h')
      | none => none
    | _, _, _ => none
  | .typeAssert x _ t ok => fun P T h => match aev T h.ng x with | some v => keep h (aassert P v t ok) | none => none
  | .extract x i => fun P T h => match aev T h.ng x with | some v => keep h (aextract v i) | none => none
  | _ => fun _ _ _ => none
theorem aopF_eq (o : Op) (P : Program) (T : Tm) (h : Hp) : aopF o P T h = aop P T h o := by cases o <;> rfl
def opCall (o : Op) : Option Call := match o with | .call c => some c | _ => none
def opPanic (o : Op) : Option Operand := match o with | .panic x => some x | _ => none
theorem opCall_some {o : Op} {c : Call} (h : opCall o = some c) : o = .call c := by
  cases o <;> simp only [opCall] at h <;> first | (cases h; rfl) | (cases h; done)
theorem opCall_none {o : Op} (h : opCall o = none) (c : Call) : o ≠ .call c := by
  intro hh; subst hh; cases h
theorem opPanic_some {o : Op} {x : Operand} (h : opPanic o = some x) : o = .panic x := by
  cases o <;> simp only [opPanic] at h <;> first | (cases h; rfl) | (cases h; done)

/-- What an operation comes to: a value, or no value at all. -/
def NxRel (m : Mp) (V : AV) (nx : Next) : Prop := (∃ v, nx = .value v ∧ VRel m V v) ∨ (nx = .skip ∧ V = .tuple [])
def OpDoes (P : Program) (m : Mp) (h : Hp) (w : World) (s : Sem Next) (V : AV) (h' : Hp) : Prop :=
  ∃ nx w' m', s.run P w = .ok nx w' ∧ HRel m' h' w' ∧ Ext m h w m' h' w' ∧ NxRel m' V nx
theorem OpDoes.val {P : Program} {m : Mp} {h h' : Hp} {w : World} {s : Sem Value} {V : AV} (hd : Does P m h w s V h') : OpDoes P m h w (do pure (.value (← s))) V h' := by
  obtain ⟨v, w', m', r1, r2, r3, r4⟩ := hd
  exact ⟨.value v, w', m', by simp [r1], r2, r3, .inl ⟨v, rfl, r4⟩⟩
theorem OpDoes.pu {P : Program} {m : Mp} {h h' : Hp} {w : World} (H : HRel m h w) {s : Sem Value} {o : Option AV} {V : AV} (he : keep h o = some (V, h')) (hp : ∀ V, o = some V → Pu P m s V) :
    OpDoes P m h w (do pure (.value (← s))) V h' := by
  cases o with
  | none => cases he
  | some v => cases he; exact .val (Pu.does H (hp _ rfl))
theorem OpDoes.rd {P : Program} {m : Mp} {h h' : Hp} {w : World} (H : HRel m h w) {s : Sem Value} {o : Option AV} {V : AV} (he : keep h o = some (V, h')) (hp : ∀ V, o = some V → ∃ v, s.run P w = .ok v w ∧ VRel m V v) :
    OpDoes P m h w (do pure (.value (← s))) V h' := by
  cases o with
  | none => cases he
  | some v =>
    cases he
    obtain ⟨u, r1, r2⟩ := hp _ rfl
    exact ⟨.value u, w, m, by simp [r1], H, Ext.refl _ _ _, .inl ⟨u, rfl, r2⟩⟩

theorem aop_sound {P : Program} {m : Mp} {h h' : Hp} {w : World} (H : HRel m h w) {T : Tm} {a : Act} (ht : TmRel m T a.tmps) {o : Oper} {V : AV} (he : aop P T h o.op = some (V, h')) :
    OpDoes P m h w (execOp a.eval o) V h' := by
  have E : ∀ {x : Operand} {v : AV}, aev T h.ng x = some v → VRel m v (a.eval x) := fun hx => aev_sound H ht hx
  unfold execOp
  revert he
  generalize o.op = op
  intro he
  cases op <;> simp only [aop] at he <;> try (cases he; done)
  case move x =>
    cases hx : aev T h.ng x with
    | none => rw [hx] at he; cases he
    | some v => rw [hx] at he; cases he; exact ⟨_, w, m, rfl, H, Ext.refl _ _ _, .inl ⟨_, rfl, E hx⟩⟩
  case assign x =>
    cases hx : aev T h.ng x with
    | none => rw [hx] at he; cases he
    | some v => rw [hx] at he; cases he; exact ⟨_, w, m, rfl, H, Ext.refl _ _ _, .inl ⟨_, rfl, E hx⟩⟩
  case pick c x y =>
    split at he
    · rename_i hc hx hy
      have := OpDoes.pu H he (fun V hV => apick_sound (P := P) (E hc) (E hx) (E hy) hV)
      obtain ⟨nx, w', m', r1, r2⟩ := this
      refine ⟨nx, w', m', ?_, r2⟩
      rw [← r1]
      simp
    · cases he
  case alloc e => exact .val (aallocOp_sound H he)
  case box e x =>
    split at he
    · rename_i v hv; cases he; exact .val (abox_sound H e (E hv))
    · cases he
  case build t ps =>
    split at he
    · rename_i l hl
      refine OpDoes.pu H he (fun V hV => abuild_sound ?_ hV)
      simpa using aevp_sound H ht hl
    · cases he
  case buildSlice t n ps =>
    split at he
    · rename_i l hl
      refine .val (abuildSlice_sound H ?_ he)
      simpa using aevp_sound H ht hl
    · cases he
  case load t x =>
    split at he
    · rename_i b o hx
      refine OpDoes.rd H he (fun V hV => ?_)
      have hv := E hx
      generalize a.eval x = x' at hv ⊢
      cases hv with
      | ptr hm =>
        obtain ⟨v, r1, r2⟩ := loadVar_sound H hm hV
        exact ⟨v, by simp [Instr.loadAt, Instr.sureAddr, r1], r2⟩
    · cases he
  case store t x v =>
    split at he
    · rename_i b o hx
      split at he
      · rename_i v' hv
        split at he
        · rename_i h1 hs
          cases he
          have hp := E hx
          obtain ⟨blk, hm, hxe⟩ : ∃ blk, m b = some blk ∧ a.eval x = .pointer (some ⟨blk.c, blk.base + o, none⟩) := by
            generalize a.eval x = x' at hp
            cases hp with
            | ptr hm => exact ⟨_, hm, rfl⟩
          obtain ⟨w', r1, r2, r3⟩ := storeVar_sound (P := P) H hm (E hv) hs
          exact ⟨.skip, w', m, by simp [Instr.storeAt, Instr.sureAddr, hxe, r1], r2, r3, .inr ⟨rfl, rfl⟩⟩
        · cases he
      · cases he
    · cases he
  case nilCheck x =>
    split at he
    · rename_i v hv
      have hp := E hv
      have key : ∀ V, anil v = some V → ∃ nx, (match a.eval x with
        | .pointer none | .nilIface | .nilFunc => runtimePanic .nilDeref
        | .func (.method name) first captured =>
          match (first[0]? : Option Value) with
          | some .nilIface => runtimePanic .nilDeref
          | some (.iface t w) => do
            if (← nilAhead ((← program).types.size + Made.depth) t w name) != some false then
              unsupported (.noEntry "op/nilCheck.the method's receiver behind this interface value is a nil pointer, or cannot be seen to be none, and the arguments act or may panic (ledger 612)")
            pure (.value (.func (.method name) first captured))
          | _ => pure (.value (.func (.method name) first captured))
        | x => pure (.value x) : Sem Next).run P w = .ok nx w ∧ NxRel m V nx := by
        intro V hV
        generalize a.eval x = x' at hp ⊢
        cases hp <;> first | (cases hV; done) | skip
        · rename_i hm; cases hV; exact ⟨_, rfl, .inl ⟨_, rfl, .ptr hm⟩⟩
        · rename_i ha hc; cases hV; exact ⟨_, rfl, .inl ⟨_, rfl, .func _ ha hc⟩⟩
        · rename_i hm; cases hV; exact ⟨_, rfl, .inl ⟨_, rfl, .yield hm⟩⟩
        · rename_i hm; cases hV; exact ⟨_, rfl, .inl ⟨_, rfl, .iface _ hm⟩⟩
      cases ha : anil v with
      | none => rw [ha] at he; cases he
      | some u =>
        rw [ha] at he; cases he
        obtain ⟨nx, r1, r2⟩ := key _ ha
        exact ⟨nx, w, m, r1, H, Ext.refl _ _ _, r2⟩
    · cases he
  case binOp op t x y yt =>
    split at he
    · rename_i v hv
      split at he
      · rename_i u hu
        exact OpDoes.pu H he (fun V hV => abin_sound (E hv) (E hu) hV)
      · cases he
    · cases he
  case unOp op t x =>
    split at he
    · rename_i v hv; exact OpDoes.pu H he (fun V hV => aun_sound (E hv) hV)
    · cases he
  case convert s d x =>
    split at he
    · rename_i v hv; exact .val (aconvH_sound H (E hv) he)
    · cases he
  case makeInterface t x =>
    split at he
    · rename_i v hv; exact OpDoes.pu H he (fun V hV => amkIface_sound (E hv) hV)
    · cases he
  case makeFunc fn f c =>
    split at he
    · rename_i g
      split at he
      · rename_i f' hf
        split at he
        · rename_i c' hc
          cases he
          refine ⟨_, w, m, rfl, H, Ext.refl _ _ _, .inl ⟨_, rfl, .func g ?_ ?_⟩⟩
          · simpa using aevs_sound H ht hf
          · simpa using aevs_sound H ht hc
        · cases he
      · cases he
    · cases he
  case makeMap t r =>
    cases r with
    | none => simp only at he; cases he; exact .val (amakeMap_sound H t)
    | some _ => cases he
  case makeSlice t l c =>
    split at he
    · rename_i l' hl
      split at he
      · rename_i c' hc
        exact .val (amakeSlice_sound H (E hl) (E hc) he)
      · cases he
    · cases he
  case slice t x lo hi mx =>
    split at he
    · rename_i v hv
      split at he
      · rename_i lo' hi' mx' h1 h2 h3
        exact OpDoes.rd H he (fun V hV => asliceAt_sound H (E hv) (aevo_sound H ht h1) (aevo_sound H ht h2) (aevo_sound H ht h3) hV)
      · cases he
    · cases he
  case fieldAddr t x f =>
    split at he
    · rename_i v hv; exact OpDoes.pu H he (fun V hV => afieldAddr_sound (E hv) hV)
    · cases he
  case field t x f =>
    split at he
    · rename_i v hv; exact OpDoes.pu H he (fun V hV => afield_sound (E hv) hV)
    · cases he
  case indexAddr t x i =>
    split at he
    · rename_i v hv
      split at he
      · rename_i u hu; exact OpDoes.pu H he (fun V hV => aindexAddr_sound (E hv) (E hu) hV)
      · cases he
    · cases he
  case index t x i =>
    split at he
    · rename_i v hv
      split at he
      · rename_i u hu; exact OpDoes.pu H he (fun V hV => aindex_sound (E hv) (E hu) hV)
      · cases he
    · cases he
  case lookup t x i ok =>
    split at he
    · rename_i v hv
      split at he
      · rename_i u hu; exact OpDoes.rd H he (fun V hV => alookup_sound H (E hv) (E hu) hV)
      · cases he
    · cases he
  case mapUpdate t x k v =>
    split at he
    · rename_i x' k' v' hx hk hv
      split at he
      · rename_i h1 hs
        cases he
        obtain ⟨w', r1, r2, r3⟩ := amapUpdate_sound (P := P) H (E hx) (E hk) (E hv) hs
        exact ⟨.skip, w', m, by simp [r1], r2, r3, .inr ⟨rfl, rfl⟩⟩
      · cases he
    · cases he
  case typeAssert x xt t ok =>
    split at he
    · rename_i v hv; exact OpDoes.pu H he (fun V hV => aassert_sound (E hv) hV)
    · cases he
  case extract x i =>
    split at he
    · rename_i v hv; exact OpDoes.pu H he (fun V hV => aextract_sound (E hv) hV)
    · cases he
end
end Go.Ev
