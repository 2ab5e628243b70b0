/-
  An evaluator of runs and its soundness, part O. No condition of its own.
-/
import Derived.Test.YtjandicpdddlaaaGreatDoorEvN
namespace Go.Ev
noncomputable section

/-! ### Built-in functions -/
def abuiltin (P : Program) (h : Hp) (b : Builtin) (ats : Array TypeId) (args : List AV) : Option (AV × Hp) :=
  match b with
  | .len => match ats[0]?, args with
    | some t, x :: _ => keep h (alen P h t x)
    | _, _ => none
  | .cap => match ats[0]?, args with
    | some t, x :: _ => keep h (acap P t x)
    | _, _ => none
  | .append => match ats[0]?, ats[1]?, args with
    | some t, some u, s :: x :: _ => aappend P h t u s x
    | _, _, _ => none
  | .copy => match ats[0]?, args with
    | some t, d :: s :: _ => acopy P h t d s
    | _, _ => none
  | .max => keep h (amm true args)
  | .min => keep h (amm false args)
  | _ => none
theorem abuiltin_sound {P : Program} {m : Mp} {h h' : Hp} {w : World} (H : HRel m h w) {b : Builtin} {ats : Array TypeId} {ty : TypeId} {cs : Array Bool} {args : List AV} {args' : Array Value} {V : AV}
    (ha : LRel m args args'.toList) (he : abuiltin P h b ats args = some (V, h')) : OpDoes P m h w (builtin b ats ty cs args') V h' := by
  have A0 : ∀ {x : AV} {r : List AV}, args = x :: r → ∃ x', args'[0]? = some x' ∧ VRel m x x' := by
    intro x r e
    obtain ⟨x', e1, e2⟩ := ha.get (i := 0) (v := x) (by rw [e]; rfl)
    exact ⟨x', by simpa using e1, e2⟩
  have A1 : ∀ {x y : AV} {r : List AV}, args = x :: y :: r → ∃ y', args'[1]? = some y' ∧ VRel m y y' := by
    intro x y r e
    obtain ⟨x', e1, e2⟩ := ha.get (i := 1) (v := y) (by rw [e]; rfl)
    exact ⟨x', by simpa using e1, e2⟩
  unfold builtin
  cases b <;> simp only [abuiltin] at he <;> try (cases he; done)
  case append =>
    split at he
    · rename_i t u s x r h0 h1
      obtain ⟨s', e1, e2⟩ := A0 rfl
      obtain ⟨x', e3, e4⟩ := A1 rfl
      exact .val (aappend_sound (ty := ty) H h0 h1 e1 e3 e2 e4 he)
    · cases he
  case cap =>
    split at he
    · rename_i t x r h0
      obtain ⟨x', e1, e2⟩ := A0 rfl
      exact OpDoes.rd H he (fun V hV => acap_sound (ty := ty) h0 e1 e2 hV)
    · cases he
  case copy =>
    split at he
    · rename_i t d s r h0
      obtain ⟨s', e1, e2⟩ := A0 rfl
      obtain ⟨x', e3, e4⟩ := A1 rfl
      exact .val (acopy_sound (ty := ty) H h0 e1 e3 e2 e4 he)
    · cases he
  case len =>
    split at he
    · rename_i t x r h0
      obtain ⟨x', e1, e2⟩ := A0 rfl
      exact OpDoes.rd H he (fun V hV => alen_sound (ty := ty) H h0 e1 e2 hV)
    · cases he
  case max => exact OpDoes.pu H he (fun V hV => amax_sound ha hV)
  case min => exact OpDoes.pu H he (fun V hV => amin_sound ha hV)

/-! ### A call -/
def isNG (s : String) : Bool := s == "runtime.NumGoroutine"
def callable (P : Program) (f : FuncId) : Option (Func × Code) :=
  match P.funcs[f]? with
  | some fn => match fn.body with
    | some c => match isNG fn.name with
      | true => none
      | false => some (fn, c)
    | none => none
  | none => none
theorem callable_run {P : Program} {f : FuncId} {fn : Func} {c : Code} (h : callable P f = some (fn, c)) (args : Array Value) (w : World) :
    P.funcs[f]? = some fn ∧ fn.body = some c ∧ (callFunc f args).run P w = .ok (.enter f args) w := by
  unfold callable at h
  split at h
  · rename_i fn' hf
    split at h
    · rename_i c' hc
      split at h
      · cases h
      · rename_i hn
        cases h
        refine ⟨hf, hc, ?_⟩
        have hn' : (fn.name == "runtime.NumGoroutine") = false := hn
        simp only [callFunc, Sem.run_bind, run_program, Result.andThen_ok, hf, hn', Bool.false_eq_true, if_false, hc, Option.isNone_some, Sem.run_pure]
    · cases h
  · cases h

def putPs : List Tmp → List AV → Tm → Option Tm
  | [], [], T => some T
  | t :: ts, v :: vs, T => match Nat.blt t T.sz with
    | true => putPs ts vs (T.put t v)
    | false => none
  | _, _, _ => none
theorem putPs_sound {m : Mp} : ∀ {ps : List Tmp} {vs : List AV} {vs' : List Value} {T T' : Tm} {tmps : Array Value}, TmRel m T tmps → LRel m vs vs' → putPs ps vs T = some T' →
    ps.length = vs'.length ∧ TmRel m T' ((ps.zip vs').foldl (fun tmps (x : Tmp × Value) => tmps.setIfInBounds x.1 x.2) tmps)
  | [], [], _, T, T', tmps, ht, .nil, h => by cases h; exact ⟨rfl, ht⟩
  | t :: ts, v :: vs, _, T, T', tmps, ht, .cons hv hvs, h => by
    simp only [putPs] at h
    split at h
    · rename_i hb
      obtain ⟨r1, r2⟩ := putPs_sound (ht.put (blt_lt hb) hv) hvs h
      exact ⟨by simp [r1], r2⟩
    · cases h
  | [], _ :: _, _, _, _, _, _, .cons _ _, h => by cases h
  | _ :: _, [], _, _, _, _, _, .nil, h => by cases h

/-- How a round's body was left, as the jump that is pending. -/
def jumpOf : AEx → Option (Option Code)
  | .normal => some none
  | .ret => some (some .ret)
  | .exit id => some (some (.exit id))
  | .goto l => some (some (.goto l))
  | .panic _ => none
def isNone {α : Type} : Option α → Bool
  | none => true
  | some _ => false
def around (P : Program) (e : Ev) (l : Nat) (args : List AV) (h : Hp) : Option (AOut × Hp) :=
  match h.get l with
  | some (.loop st _ T ps asg body _) => match putPs ps.toList args T with
    | some T1 => match e.code (some l) asg ⟨T1, []⟩ h with
      | some (.normal, fr1, h1) => match h1.get l with
        | some (.loop .ready pend2 T2 ps2 asg2 body2 df2) =>
          match e.code (some l) body fr1 (h1.set l (.loop .busy pend2 T2 ps2 asg2 body2 df2)) with
          | some (ex, _, h3) => match jumpOf ex with
            | some j => match h3.get l with
              | some (.loop _ _ T3 ps3 asg3 body3 df3) =>
                some (.ret (.bool (isNone j)), h3.set l (.loop (match isNone j with | true => .ready | false => .done) j T3 ps3 asg3 body3 df3))
              | _ => none
            | none => none
          | none => none
        | _ => none
      | _ => none
    | none => none
  | _ => none

theorem HRel.loop {m : Mp} {h : Hp} {w : World} (H : HRel m h w) {l : Nat} {st : LoopState} {pend : Option Code} {T : Tm} {ps : Array Tmp} {asg body : Code} {df : Nat}
    (hb : h.get l = some (.loop st pend T ps asg body df)) : ∃ x lp, m l = some x ∧ w.heap[x.c]? = some (.loop lp) ∧ lp.state = st ∧ lp.pending = pend ∧ TmRel m T lp.tmps ∧ lp.params = ps ∧ lp.assign = asg ∧ lp.body = body ∧
      ∃ y, m df = some y ∧ y.c = lp.defers := by
  obtain ⟨x, c, h1, h2, h3⟩ := H.obj _ _ hb
  cases c <;> first | exact h3.elim | exact ⟨x, _, h1, h2, h3⟩
theorem run_getObj {P : Program} {w : World} {c : Nat} {o : Obj} (h : w.heap[c]? = some o) (hc : ∀ a b d, o ≠ .cells a b d) : (getObj c).run P w = .ok o w := by
  cases o <;> first | exact absurd rfl (hc _ _ _) | (simp only [getObj, Sem.run, h])
theorem run_setObj {P : Program} {w : World} {c : Nat} {o : Obj} (h : w.heap[c]? = some o) (hc : ∀ a b d, o ≠ .cells a b d) (o' : Obj) : (setObj c o').run P w = .ok () (Go.Ev.setBlk w c o') := by
  cases o <;> first | exact absurd rfl (hc _ _ _) | (simp only [setObj, Sem.run, h]; rfl)
theorem run_getLoop {P : Program} {w : World} {c : Nat} {lp : Loop} (h : w.heap[c]? = some (.loop lp)) : (Instr.getLoop c).run P w = .ok lp w := by
  simp [Instr.getLoop, run_getObj h (by intros; simp)]

/-- Setting a loop's record: state, pending jump. -/
theorem HRel.setLoop {m : Mp} {h : Hp} {w : World} (H : HRel m h w) {l : Nat} {st st' : LoopState} {pend pend' : Option Code} {T : Tm} {ps : Array Tmp} {asg body : Code} {df : Nat} {x : Blk} {lp : Loop}
    (hb : h.get l = some (.loop st pend T ps asg body df)) (hx : m l = some x) (hl : w.heap[x.c]? = some (.loop lp)) :
    HRel m (h.set l (.loop st' pend' T ps asg body df)) (Go.Ev.setBlk w x.c (.loop { lp with state := st', pending := pend' })) ∧
      Ext m h w m (h.set l (.loop st' pend' T ps asg body df)) (Go.Ev.setBlk w x.c (.loop { lp with state := st', pending := pend' })) := by
  obtain ⟨y, lp', h1, h2, h3, h4, h5, h6, h7, h8, z, h9, h10⟩ := H.loop hb
  rw [hx] at h1; cases h1
  rw [hl] at h2; cases h2
  exact H.setBlk hb rfl hx ⟨rfl, rfl, h5, h6, h7, h8, z, h9, h10⟩

/-- One round of a range over a function. -/
theorem around_sound {P : Program} {e : Ev} (hec : SoundCode P e.code) {l : Nat} {args : List AV} {h h' : Hp} {out : AOut} (he : around P e l args h = some (out, h')) {m : Mp} {w : World} (H : HRel m h w)
    {args' : Array Value} (ha : LRel m args args'.toList) {x : Blk} (hx : m l = some x) (lo : Option Nat) (n : Nat) :
    ∃ f tmps asg body, (Instr.yield x.c args').run P w = .ok (.round x.c f tmps asg body) w ∧ RoundIn (Wd lo) n P x.c f tmps asg body w (CPost m h w out h') := by
  unfold around at he
  split at he
  · rename_i st pend T ps asg body df hb
    obtain ⟨y, lp, g1, g2, g3, g4, g5, g6, g7, g8, _⟩ := H.loop hb
    rw [hx] at g1; cases g1
    split at he
    · rename_i T1 hT1
      obtain ⟨q1, q2⟩ := putPs_sound g5 ha hT1
      refine ⟨lp.fn, (lp.params.zip args').foldl (fun tmps x => tmps.setIfInBounds x.1 x.2) lp.tmps, lp.assign, lp.body, ?_, ?_⟩
      · simp only [Instr.yield, Sem.run_bind, run_getLoop g2, Result.andThen_ok]
        have hsz : ¬ (args'.size ≠ lp.params.size) := by
          rw [g6]; simp only [Array.length_toList] at q1; omega
        rw [if_neg hsz]
        rfl
      · split at he
        · rename_i fr1 h1 hc1
          refine roundIn_of_wpIn (F := Wd lo) trivial ?_
          have hfr : FrRel m ⟨T1, []⟩ { tmps := (lp.params.zip args').foldl (fun tmps x => tmps.setIfInBounds x.1 x.2) lp.tmps, defers := [] } := by
            refine ⟨?_, .nil⟩
            show TmRel m T1 _
            rw [g6, ← Array.foldl_toList, Array.toList_zip]
            exact q2
          have h0 := hec _ _ _ _ _ _ _ hc1 m w _ (some x.c) n H hfr ⟨x, hx, rfl⟩
          rw [g7]
          refine wpIn_mono h0 ?_
          intro ex1 a1 w1 hp
          obtain ⟨m1, r1, r2, r3, r4⟩ := hp
          cases r4
          show ∃ w₂, _
          split at he
          · rename_i pend2 T2 ps2 asg2 body2 df2 hb2
            have hx1 := r1.sub _ _ hx
            obtain ⟨y, lp1, k1, k2, k3, k4, _⟩ := r2.loop hb2
            rw [hx1] at k1; cases k1
            obtain ⟨s1, s2⟩ := r2.setLoop (st' := .busy) (pend' := pend2) hb2 hx1 k2
            have hbr : (Instr.beginRound x.c).run P w1 = .ok () (Go.Ev.setBlk w1 x.c (.loop { lp1 with state := .busy, pending := pend2 })) := by
              simp only [Instr.beginRound, Sem.run_bind, run_getLoop k2, Result.andThen_ok, run_setObj k2 (by intros; simp), k3]
              rw [← k4]; rfl
            refine ⟨_, hbr, ?_⟩
            split at he
            · rename_i ex fr3 h3 hc3
              rw [g8]
              have h4 := hec _ _ _ _ _ _ _ hc3 m1 _ a1 (some x.c) n s1 r3 ⟨x, hx1, rfl⟩
              refine wpIn_mono h4 ?_
              intro ex4 a4 w4 hp4
              obtain ⟨m4, t1, t2, t3, t4⟩ := hp4
              split at he
              · rename_i j hj
                split at he
                · rename_i st3 pend3 T3 ps3 asg3 body3 df3 hb3
                  cases he
                  have hx4 := t1.sub _ _ hx1
                  obtain ⟨y, lp4, u1, u2, u3, u4, _⟩ := t2.loop hb3
                  rw [hx4] at u1; cases u1
                  have fin : ∀ (jump : Option Code), jump = j → ∃ v w', (Instr.endRound x.c jump).run P w4 = .ok v w' ∧
                      CPost m h w (.ret (.bool (isNone j))) (h3.set l (.loop (match isNone j with | true => .ready | false => .done) j T3 ps3 asg3 body3 df3)) (.returned v) w' := by
                    intro jump ej
                    subst ej
                    obtain ⟨v1, v2⟩ := t2.setLoop (st' := match isNone jump with | true => .ready | false => .done) (pend' := jump) hb3 hx4 u2
                    refine ⟨.bool jump.isNone, _, ?_, m4, (r1.trans (s2.trans t1)).trans v2, v1, ?_⟩
                    · simp only [Instr.endRound, Sem.run_bind, run_getLoop u2, Result.andThen_ok, run_setObj u2 (by intros; simp), Sem.run_pure]
                      cases jump <;> rfl
                    · cases jump <;> exact .ret (.bool _)
                  cases ex <;> simp only [jumpOf] at hj <;> (try (cases hj; done)) <;> cases hj <;> cases t4 <;> exact fin _ rfl
                · cases he
              · cases he
            · cases he
          · cases he
        · cases he
    · cases he
  · cases he
end
end Go.Ev
