/-
  An evaluator of runs and its soundness, part N. No condition of its own.
-/
import Derived.Test.YtjandicpdddlaaaGreatDoorEvM
namespace Go.Ev
noncomputable section

/-! ### Frames -/
inductive ADef where
  | mark (r : Nat)
structure AFr where
  T : Tm
  df : List ADef
inductive DRel (m : Mp) : List ADef → List Deferred → Prop
  | nil : DRel m [] []
  | mark {r : Nat} {x : Blk} {l : List ADef} {l' : List Deferred} (h : m r = some x) (t : DRel m l l') : DRel m (.mark r :: l) ({ target := .collected x.c, args := #[] } :: l')
theorem DRel.mono {m m' : Mp} (hm : m.le m') : ∀ {l : List ADef} {l' : List Deferred}, DRel m l l' → DRel m' l l'
  | _, _, .nil => .nil
  | _, _, .mark h t => .mark (hm _ _ h) (DRel.mono hm t)
structure FrRel (m : Mp) (fr : AFr) (a : Act) : Prop where
  tm : TmRel m fr.T a.tmps
  df : DRel m fr.df a.defers
theorem FrRel.mono {m m' : Mp} (hm : m.le m') {fr : AFr} {a : Act} (h : FrRel m fr a) : FrRel m' fr a := ⟨h.tm.mono hm, h.df.mono hm⟩

inductive AEx where
  | normal
  | exit (id : Nat)
  | goto (l : Nat)
  | ret
  | panic (v : AV)
inductive AOut where
  | ret (v : AV)
  | pan (v : AV)
inductive ExRel (m : Mp) : AEx → Exit → Prop
  | normal : ExRel m .normal .normal
  | exit (id : Nat) : ExRel m (.exit id) (.exit id)
  | goto (l : Nat) : ExRel m (.goto l) (.goto l)
  | ret : ExRel m .ret .ret
  | panic {v : AV} {v' : Value} (h : VRel m v v') : ExRel m (.panic v) (.panic [{ v := v', recovered := false }])
inductive OutRel (m : Mp) : AOut → Ending → Prop
  | ret {v : AV} {v' : Value} (h : VRel m v v') : OutRel m (.ret v) (.returned v')
  | pan {v : AV} {v' : Value} (h : VRel m v v') : OutRel m (.pan v) (.panicked [{ v := v', recovered := false }])

abbrev CodeEv := Option Nat → Code → AFr → Hp → Option (AEx × AFr × Hp)
abbrev CallEv := FuncId → List AV → Hp → Option (AOut × Hp)
structure Ev where
  code : CodeEv
  call : CallEv

def Wd (lo : Option Nat) : Fence := { fn := fun _ => True, depth := none, alive := false, round := lo }
def RoRel (m : Mp) : Option Nat → Option Nat → Prop
  | none, none => True
  | some l, some c => ∃ x, m l = some x ∧ x.c = c
  | _, _ => False
theorem RoRel.mono {m m' : Mp} (hm : m.le m') {a b : Option Nat} (h : RoRel m a b) : RoRel m' a b := by
  cases a <;> cases b <;> first | exact h | (obtain ⟨x, e, r⟩ := h; exact ⟨x, hm _ _ e, r⟩)

def Post (m : Mp) (h : Hp) (w : World) (ex : AEx) (fr' : AFr) (h' : Hp) : Exit → Act → World → Prop :=
  fun e a1 w1 => ∃ m1, Ext m h w m1 h' w1 ∧ HRel m1 h' w1 ∧ FrRel m1 fr' a1 ∧ ExRel m1 ex e
def CPost (m : Mp) (h : Hp) (w : World) (out : AOut) (h' : Hp) : Ending → World → Prop :=
  fun e w1 => ∃ m1, Ext m h w m1 h' w1 ∧ HRel m1 h' w1 ∧ OutRel m1 out e
def SoundCode (P : Program) (ec : CodeEv) : Prop :=
  ∀ ro c fr h ex fr' h', ec ro c fr h = some (ex, fr', h') → ∀ (m : Mp) (w : World) (a : Act) (lo : Option Nat) (n : Nat), HRel m h w → FrRel m fr a → RoRel m ro lo →
    c.wpIn (Wd lo) n P (Post m h w ex fr' h') a w
def SoundCall (P : Program) (ec : CallEv) : Prop :=
  ∀ f args h out h', ec f args h = some (out, h') → ∀ (m : Mp) (w : World) (args' : Array Value) (lo : Option Nat) (n : Nat), HRel m h w → LRel m args args'.toList →
    CallsIn (Wd lo) n P f args' w (CPost m h w out h')

theorem Post.trans {m m1 : Mp} {h h1 h2 : Hp} {w w1 : World} {ex : AEx} {fr : AFr} (he : Ext m h w m1 h1 w1) {e : Exit} {a : Act} {w2 : World} (hp : Post m1 h1 w1 ex fr h2 e a w2) : Post m h w ex fr h2 e a w2 := by
  obtain ⟨m2, r1, r2, r3, r4⟩ := hp
  exact ⟨m2, he.trans r1, r2, r3, r4⟩

/-! ### Temporaries and guards -/
def putA (T : Tm) (d : Option Tmp) (v : AV) : Option Tm :=
  match d with
  | none => some T
  | some d => match Nat.blt d T.sz with
    | true => some (T.put d v)
    | false => none
theorem putA_sound {m : Mp} {T T' : Tm} {a : Act} (ht : TmRel m T a.tmps) {d : Option Tmp} {v : AV} {v' : Value} (hv : VRel m v v') (h : putA T d v = some T') : TmRel m T' (a.put d v').tmps := by
  unfold putA at h
  split at h
  · cases h; exact ht
  · split at h
    · rename_i hd
      cases h
      exact ht.put (blt_lt hd) hv
    · cases h
theorem put_defers (a : Act) (d : Option Tmp) (v : Value) : (a.put d v).defers = a.defers := by cases d <;> rfl
def wantedA (ops : Array Oper) (T : Tm) (g : Option (Nat × Bool)) : Bool :=
  match g with
  | none => true
  | some (j, b) => match ops[j]? with
    | some o => match o.dst with
      | some d => match T.get d with
        | .bool x => beqB x b
        | _ => false
      | none => false
    | none => false
theorem wantedA_sound {m : Mp} {T : Tm} {a : Act} (ht : TmRel m T a.tmps) (ops : Array Oper) (o : Oper) : Region.wanted o (yielded ops a.tmps) = wantedA ops T o.guard := by
  unfold Region.wanted wantedA
  cases o.guard with
  | none => rfl
  | some g =>
    obtain ⟨j, b⟩ := g
    simp only [yielded]
    cases hj : ops[j]? with
    | none => simp
    | some oj =>
      simp only [Option.bind_some]
      cases hd : oj.dst with
      | none => simp
      | some d =>
        simp only [Option.bind_some]
        have hr := ht.get d
        have hgd : a.tmps.getD d undef = (a.tmps[d]?).getD undef := by rw [Array.getD_eq_getD_getElem?]
        rw [hgd] at hr
        cases hq : a.tmps[d]? with
        | none =>
          rw [hq] at hr
          generalize T.get d = V at hr ⊢
          simp only [Option.getD_none, undef] at hr
          cases hr
          rfl
        | some v =>
          rw [hq] at hr
          simp only [Option.getD_some] at hr
          generalize T.get d = V at hr ⊢
          cases hr <;> first | (simp; done) | (simp [beqB_eq]; done) | skip

/-! ### Function bodies -/
def mkT (l : List AV) : Nat → Tr AV → Tr AV := List.rec (motive := fun _ => Nat → Tr AV → Tr AV) (fun _ t => t) (fun v _ ih i t => ih (Nat.succ i) (t.set v i)) l
theorem mkT_get : ∀ (l : List AV) (i : Nat) (t : Tr AV) (k : Nat), (mkT l i t).get k = if i ≤ k ∧ k < i + l.length then l[k - i]? else t.get k
  | [], i, t, k => by
    have : ¬ (i ≤ k ∧ k < i + ([] : List AV).length) := by simp
    rw [if_neg this]; rfl
  | v :: l, i, t, k => by
    show (mkT l (i + 1) (t.set v i)).get k = _
    rw [mkT_get l (i + 1) _ k, Tr.get_set]
    by_cases h1 : i + 1 ≤ k ∧ k < i + 1 + l.length
    · have h2 : i ≤ k ∧ k < i + (v :: l).length := by simp; omega
      rw [if_pos h1, if_pos h2]
      have : k - i = (k - (i + 1)) + 1 := by omega
      rw [this]; simp
    · rw [if_neg h1]
      by_cases e : k = i
      · subst e
        have h2 : k ≤ k ∧ k < k + (v :: l).length := by simp
        rw [if_pos rfl, if_pos h2]
        simp
      · have h2 : ¬ (i ≤ k ∧ k < i + (v :: l).length) := by simp; omega
        rw [if_neg e, if_neg h2]
def mkTm (args : List AV) (n : Nat) : Tm := ⟨mkT args 0 .leaf, n⟩
theorem mkTm_rel {m : Mp} {args : List AV} {args' : Array Value} (h : LRel m args args'.toList) {n : Nat} (hn : args.length ≤ n) : TmRel m (mkTm args n) (args' ++ Array.replicate (n - args'.size) undef) := by
  have hl := h.length
  simp only [Array.length_toList] at hl
  refine ⟨by simp only [mkTm, Array.size_append, Array.size_replicate]; omega, fun i => ?_⟩
  unfold mkTm Tm.get
  simp only
  rw [mkT_get]
  simp only [Nat.zero_le, true_and, Nat.zero_add, Nat.sub_zero]
  by_cases hi : i < args.length
  · rw [if_pos hi]
    have hv : args[i]? = some args[i] := List.getElem?_eq_getElem hi
    obtain ⟨v', e1, e2⟩ := h.get hv
    rw [hv]
    have e3 : args'[i]? = some v' := by simpa using e1
    have : (args' ++ Array.replicate (n - args'.size) undef)[i]? = some v' := by
      rw [Array.getElem?_append_left (by omega)]; exact e3
    rw [Array.getD_eq_getD_getElem?, this]
    exact e2
  · rw [if_neg hi]
    have : (args' ++ Array.replicate (n - args'.size) undef).getD i undef = undef := by
      rw [Array.getD_eq_getD_getElem?, Array.getElem?_append_right (by omega)]
      rw [Array.getElem?_replicate]
      split <;> rfl
    rw [this]
    rw [Tr.get_leaf]
    exact .tuple .nil

def unwindA : List ADef → Hp → Option Hp
  | [], h => some h
  | .mark r :: l, h => match h.get r with
    | some (.dfr true) => unwindA l (h.set r (.dfr false))
    | _ => none
def aresult (P : Program) (T : Tm) (h : Hp) : ResultVar → Option AV
  | .tmp t => some (T.get t)
  | .cell a t => match T.get a with
    | .ptr b o => aload P t h b o
    | _ => none
def aresults (P : Program) (T : Tm) (h : Hp) : List ResultVar → Option (List AV)
  | [] => some []
  | r :: l => match aresult P T h r with
    | some v => match aresults P T h l with
      | some k => some (v :: k)
      | none => none
    | none => none
def tup : List AV → AV
  | [v] => v
  | l => .tuple l
def rv (tmps : Array Value) : ResultVar → Sem Value
  | .tmp t => pure (tmps.getD t undef)
  | .cell a t => do loadVar t (← asAddr (tmps.getD a undef))
theorem results_rv (fn : Func) (tmps : Array Value) : results fn tmps = (do let vs ← fn.results.mapM (rv tmps); pure (if h : vs.size = 1 then vs[0] else .tuple vs)) := rfl
theorem aresults_sound {P : Program} {m : Mp} {h : Hp} {w : World} (H : HRel m h w) {T : Tm} {tmps : Array Value} (ht : TmRel m T tmps) : ∀ {l : List ResultVar} {k : List AV}, aresults P T h l = some k →
    ∃ k', (l.mapM (rv tmps)).run P w = .ok k' w ∧ LRel m k k'
  | [], k, he => by simp [aresults] at he; subst he; exact ⟨[], rfl, .nil⟩
  | r :: l, k, he => by
    simp only [aresults] at he
    split at he
    · rename_i v hv
      split at he
      · rename_i k1 hk
        cases he
        obtain ⟨k', r1, r2⟩ := aresults_sound H ht hk
        have : ∃ v', (rv tmps r).run P w = .ok v' w ∧ VRel m v v' := by
          cases r with
          | tmp t => cases hv; exact ⟨_, rfl, ht.get t⟩
          | cell a t =>
            simp only [aresult] at hv
            split at hv
            · rename_i b o hb
              have hr := ht.get a
              rw [hb] at hr
              obtain ⟨blk, hm, hxe⟩ : ∃ blk, m b = some blk ∧ tmps.getD a undef = .pointer (some ⟨blk.c, blk.base + o, none⟩) := by
                generalize tmps.getD a undef = x' at hr
                cases hr with
                | ptr hm => exact ⟨_, hm, rfl⟩
              obtain ⟨v', q1, q2⟩ := loadVar_sound H hm hv
              exact ⟨v', by simp only [rv, hxe, asAddr, Sem.run_bind, Sem.run_pure, Result.andThen_ok, q1], q2⟩
            · cases hv
        obtain ⟨v', q1, q2⟩ := this
        refine ⟨v' :: k', ?_, .cons q2 r2⟩
        simp only [List.mapM_cons, Sem.run_bind, q1, Result.andThen_ok, r1, Sem.run_pure]
      · cases he
    · cases he
theorem results_sound {P : Program} {m : Mp} {h : Hp} {w : World} (H : HRel m h w) {T : Tm} {tmps : Array Value} (ht : TmRel m T tmps) {fn : Func} {k : List AV} (he : aresults P T h fn.results.toList = some k) :
    ∃ v, (results fn tmps).run P w = .ok v w ∧ VRel m (tup k) v := by
  obtain ⟨k', r1, r2⟩ := aresults_sound H ht he
  have hl := r2.length
  refine ⟨if h : k'.toArray.size = 1 then k'.toArray[0] else .tuple k'.toArray, ?_, ?_⟩
  · simp only [results_rv, Sem.run_bind, Array.mapM_eq_mapM_toList, Sem.run_map, r1, Result.andThen_ok, Sem.run_pure]
  · cases r2 with
    | nil => simp only [tup]; exact .tuple .nil
    | cons hv t =>
      cases t with
      | nil => simp only [tup]; simpa using hv
      | cons hv2 t2 =>
        show VRel m (.tuple _) _
        rw [dif_neg (by simp)]
        exact .tuple (.cons hv (.cons hv2 t2))
end
end Go.Ev
