/-
  An evaluator of runs and its soundness, part R. No condition of its own.
-/
import Derived.Test.YtjandicpdddlaaaGreatDoorEvQ
namespace Go.Ev
noncomputable section

def SoundDraw (P : Program) (dr : Ev → Array Oper → AFr → Hp → Option (AEx × AFr × Hp)) : Prop :=
  ∀ e, SoundCode P e.code → SoundCall P e.call → ∀ id ops fr h ex fr' h', dr e ops fr h = some (ex, fr', h') → ∀ (m : Mp) (w : World) (a : Act) (lo : Option Nat) (n : Nat), HRel m h w → FrRel m fr a →
    (Code.region id ops true).wpIn (Wd lo) n P (Post m h w ex fr' h') a w

theorem roundsIn_mono {F : Fence} {n : Nat} {P : Program} {c : Code} {Q Q' : Exit → Act → World → Prop} (hq : ∀ e a w, Q e a w → Q' e a w) : ∀ (k : Nat) (a : Act) (w : World), Code.roundsIn F n P c Q k a w → Code.roundsIn F n P c Q' k a w
  | 0, _, _, h => h.elim
  | k + 1, a, w, h => by
    rw [roundsIn_succ] at h ⊢
    refine wpIn_mono h ?_
    intro e a1 w1 hp
    cases e <;> first | exact roundsIn_mono hq k _ _ hp | exact hq _ _ _ hp

theorem loopRun_sound {P : Program} {ec : CodeEv} (hec : SoundCode P ec) (ro : Option Nat) (c : Code) : ∀ (k : Nat) (fr : AFr) (h : Hp) (ex : AEx) (fr' : AFr) (h' : Hp), loopRun (ec ro c) k fr h = some (ex, fr', h') →
    ∀ (m : Mp) (w : World) (a : Act) (lo : Option Nat) (n : Nat), HRel m h w → FrRel m fr a → RoRel m ro lo → Code.roundsIn (Wd lo) n P c (Post m h w ex fr' h') k a w
  | 0, fr, h, ex, fr', h', he, m, w, a, lo, n, H, hfr, hro => by cases he
  | k + 1, fr, h, ex, fr', h', he, m, w, a, lo, n, H, hfr, hro => by
    rw [roundsIn_succ]
    have he' : (match ec ro c fr h with
      | some (.normal, fr1, h1) => loopRun (ec ro c) k fr1 h1
      | r => r) = some (ex, fr', h') := he
    cases hc : ec ro c fr h with
    | none => rw [hc] at he'; cases he'
    | some r =>
      obtain ⟨ex1, fr1, h1⟩ := r
      have hs := hec _ _ _ _ _ _ _ hc m w a lo n H hfr hro
      refine wpIn_mono hs ?_
      rintro e1 a1 w1 ⟨m1, r1, r2, r3, r4⟩
      rw [hc] at he'
      cases r4 with
      | normal =>
        have hi := loopRun_sound hec ro c k fr1 h1 ex fr' h' he' m1 w1 a1 lo n r2 r3 (hro.mono r1.sub)
        exact roundsIn_mono (fun _ _ _ hp => Post.trans r1 hp) k _ _ hi
      | exit id => cases he'; exact ⟨m1, r1, r2, r3, .exit id⟩
      | goto l => cases he'; exact ⟨m1, r1, r2, r3, .goto l⟩
      | ret => cases he'; exact ⟨m1, r1, r2, r3, .ret⟩
      | panic hv => cases he'; exact ⟨m1, r1, r2, r3, .panic hv⟩

theorem ofJump_sound {P : Program} {F : Fence} {n : Nat} {m : Mp} {ex : AEx} {Q : Exit → Act → World → Prop} {a : Act} {w : World} : ∀ {j : Option Code}, ofJump j = some ex → (∀ e, ExRel m ex e → Q e a w) →
    (match j with
     | none => Q .normal a w
     | some c => c.wpIn F n P Q a w) := by
  intro j h hq
  cases j with
  | none => cases h; exact hq _ .normal
  | some c =>
    cases c <;> simp only [ofJump] at h <;> (try (cases h; done)) <;> cases h
    · exact wpIn_exit (hq _ (.exit _))
    · exact wpIn_goto (hq _ (.goto _))
    · exact wpIn_ret (hq _ .ret)

theorem run_enterLoop_none {P : Program} {w : World} (fn : FuncId) (tmps : Array Value) (ps : Array Tmp) (asg body : Code) :
    (Instr.enterLoop fn tmps ps asg body none).run P w = .ok (w.heap.size + 1, [{ target := .collected w.heap.size, args := #[] }])
      ((w.alloc (.deferred (some []))).alloc (.loop { state := .ready, pending := none, fn, tmps, params := ps, assign := asg, body, defers := w.heap.size })) := by
  simp only [Instr.enterLoop, Sem.run_bind, run_newObj, Result.andThen_ok, Sem.run_pure]
  simp only [Array.size_push]
  rfl
theorem run_enterLoop_some {P : Program} {w : World} (fn : FuncId) (tmps : Array Value) (ps : Array Tmp) (asg body : Code) {c : Nat} {lp : Loop} (h : w.heap[c]? = some (.loop lp)) :
    (Instr.enterLoop fn tmps ps asg body (some c)).run P w = .ok (w.heap.size, []) (w.alloc (.loop { state := .ready, pending := none, fn, tmps, params := ps, assign := asg, body, defers := lp.defers })) := by
  simp only [Instr.enterLoop, Sem.run_bind, run_getLoop h, Result.andThen_ok, Sem.run_pure, run_newObj]
  rfl

theorem rangeRun_sound {P : Program} {e : Ev} (hcc : SoundCall P e.call) {ro : Option Nat} {f : Operand} {ps : Array Tmp} {asg body : Code} {fr : AFr} {h : Hp} {ex : AEx} {fr' : AFr} {h' : Hp}
    (he : rangeRun P e ro f ps asg body fr h = some (ex, fr', h')) {m : Mp} {w : World} {a : Act} (lo : Option Nat) (n : Nat) (H : HRel m h w) (hfr : FrRel m fr a) (hro : RoRel m ro lo) :
    (Code.rangeFunc f ps asg body).wpIn (Wd lo) n P (Post m h w ex fr' h') a w := by
  unfold rangeRun at he
  split at he
  · rename_i g a1 c1 hf
    split at he
    · rename_i fc hg
      obtain ⟨fnn, bodyn⟩ := fc
      have hv := aev_sound H hfr.tm hf
      obtain ⟨a1', c1', hfe, ha1, hc1⟩ : ∃ a1' c1', a.eval f = .func (.func g) a1' c1' ∧ LRel m a1 a1'.toList ∧ LRel m c1 c1'.toList := by
        generalize a.eval f = f' at hv
        cases hv with
        | func _ h1 h2 => exact ⟨_, _, rfl, h1, h2⟩
      split at he
      · rename_i d df h1 hsel
        -- what enterLoop does
        have hentry : ∀ fn : FuncId, ∃ (c : Nat) (mark : List Deferred) (w1 : World) (m1 : Mp) (x : Blk), (Instr.enterLoop fn a.tmps ps asg body (Wd lo).round).run P w = .ok (c, mark) w1 ∧
            HRel m1 (h1.alloc (.loop .ready none fr.T ps asg body d)) w1 ∧ Ext m h w m1 (h1.alloc (.loop .ready none fr.T ps asg body d)) w1 ∧ m1 h1.next = some x ∧ x.c = c ∧ DRel m1 df (mark ++ a.defers) := by
          intro fn
          split at hsel
          · cases hsel
            cases lo with
            | some _ => exact hro.elim
            | none =>
              have hor1 : ORel m (.dfr true) ⟨w.heap.size, 0, 0⟩ (.deferred (some [])) := rfl
              obtain ⟨r1, r2⟩ := H.alloc hor1
              have hd : (m.ext h.next ⟨w.heap.size, 0, 0⟩) h.next = some ⟨w.heap.size, 0, 0⟩ := Mp.ext_same _ _ _
              have hor2 : ORel (m.ext h.next ⟨w.heap.size, 0, 0⟩) (.loop .ready none fr.T ps asg body h.next) ⟨(w.alloc (.deferred (some []))).heap.size, 0, 0⟩
                  (.loop { state := .ready, pending := none, fn, tmps := a.tmps, params := ps, assign := asg, body, defers := w.heap.size }) :=
                ⟨rfl, rfl, hfr.tm.mono r2.sub, rfl, rfl, rfl, ⟨w.heap.size, 0, 0⟩, hd, rfl⟩
              obtain ⟨s1, s2⟩ := r1.alloc hor2
              refine ⟨_, _, _, _, ⟨(w.alloc (.deferred (some []))).heap.size, 0, 0⟩, run_enterLoop_none fn _ _ _ _, s1, r2.trans s2, Mp.ext_same _ _ _, by simp, ?_⟩
              exact .mark (x := ⟨w.heap.size, 0, 0⟩) (s2.sub _ _ hd) (hfr.df.mono (r2.trans s2).sub)
          · rename_i l0
            split at hsel
            · rename_i st0 pd0 T0 ps0 asg0 body0 d0 hb0
              cases hsel
              cases lo with
              | none => exact hro.elim
              | some c0 =>
                obtain ⟨x0, hx0, hc0⟩ := hro
                obtain ⟨y, lp, g1, g2, g3, g4, g5, g6, g7, g8, z, g9, g10⟩ := H.loop hb0
                rw [hx0] at g1; cases g1
                have hor2 : ORel m (.loop .ready none fr.T ps asg body d) ⟨w.heap.size, 0, 0⟩ (.loop { state := .ready, pending := none, fn, tmps := a.tmps, params := ps, assign := asg, body, defers := lp.defers }) :=
                  ⟨rfl, rfl, hfr.tm, rfl, rfl, rfl, z, g9, g10⟩
                obtain ⟨s1, s2⟩ := H.alloc hor2
                have hrun := run_enterLoop_some (P := P) fn a.tmps ps asg body g2
                rw [hc0] at hrun
                exact ⟨_, _, _, _, ⟨w.heap.size, 0, 0⟩, hrun, s1, s2, Mp.ext_same _ _ _, rfl, by simpa using hfr.df.mono s2.sub⟩
            · cases hsel
        refine wpIn_rangeFunc (fun fn _ => ?_)
        obtain ⟨c, mark, w1, m1, x, q1, q2, q3, q4, q5, q6⟩ := hentry fn
        subst q5
        have hargs : LRel m1 (a1 ++ (.yield h1.next :: c1)) (a1' ++ #[Value.func (Fn.yield x.c) #[] #[]] ++ c1').toList := by
          simp only [Array.toList_append, List.append_assoc]
          exact (ha1.mono q3.sub).append (.cons (.yield q4) (hc1.mono q3.sub))
        have hres : (resolve a.eval (rangeCall f x.c) 0).run P w1 = .ok { target := .fn (.func g) c1', args := a1' ++ #[Value.func (Fn.yield x.c) #[] #[]] } w1 := by
          simp only [resolve, rangeCall, hfe, Deferred.ofValue, Sem.run_pure, List.map_toArray, List.map_cons, List.map_nil]
          simp [Act.eval]
        refine ⟨x.c, mark, w1, _, w1, g, a1' ++ #[Value.func (Fn.yield x.c) #[] #[]] ++ c1', w1, q1, hres, fun _ _ => trivial, ?_, (fun hh => by cases hh), ?_⟩
        · obtain ⟨_, _, r⟩ := callable_run hg (a1' ++ #[Value.func (Fn.yield x.c) #[] #[]] ++ c1') w1
          simpa [invoke] using r
        · cases hcall : e.call g (a1 ++ (.yield h1.next :: c1)) (h1.alloc (.loop .ready none fr.T ps asg body d)) with
          | none => rw [hcall] at he; cases he
          | some r =>
            obtain ⟨out, h2⟩ := r
            rw [hcall] at he
            refine (hcc _ _ _ _ _ hcall m1 w1 _ lo (n - 1) q2 hargs).mono ?_
            rintro e2 w2 ⟨m2, t1, t2, t3⟩
            have hfr2 : FrRel m2 ⟨fr.T, df⟩ { a with defers := mark ++ a.defers } := ⟨hfr.tm.mono (Mp.le_trans q3.sub t1.sub), q6.mono t1.sub⟩
            cases t3 with
            | pan hv => cases he; exact ⟨m2, q3.trans t1, t2, hfr2, .panic hv⟩
            | ret hv =>
              simp only at he
              split at he
              · rename_i st j T2 ps2 asg2 body2 d2 hb2
                have hx2 := t1.sub _ _ q4
                obtain ⟨y, lp2, k1, k2, k3, k4, _⟩ := t2.loop hb2
                rw [hx2] at k1; cases k1
                have fin : ∀ v0 : Value, st ≠ .busy → ∀ ex1, ofJump j = some ex1 → rangePost (Wd lo) n P x.c (Post m h w ex1 ⟨fr.T, df⟩ (h2.set h1.next (.loop .exhausted j T2 ps2 asg2 body2 d2))) { a with defers := mark ++ a.defers } (.returned v0) w2 := by
                  intro v0 hnb ex1 hj
                  obtain ⟨v1, v2⟩ := t2.setLoop (st' := .exhausted) (pend' := j) hb2 hx2 k2
                  refine ⟨j, _, ?_, ofJump_sound hj (fun e5 he5 => ⟨m2, (q3.trans t1).trans v2, v1, hfr2, he5⟩)⟩
                  have hst : (lp2.state == .busy) = false := by
                    rw [k3]; cases st <;> first | rfl | exact absurd rfl hnb
                  simp only [Instr.endLoop, Sem.run_bind, run_getLoop k2, Result.andThen_ok, hst, Bool.false_eq_true, if_false, run_setObj k2 (by intros; simp), Sem.run_pure, k4]
                split at he
                · cases he
                · rename_i hnb
                  split at he
                  · rename_i ex1 hj
                    cases he
                    exact fin _ (fun hh => hnb hh) _ hj
                  · cases he
              · cases he
      · cases he
    · cases he
  · cases he

theorem codeStep_sound {P : Program} {dr : Ev → Array Oper → AFr → Hp → Option (AEx × AFr × Hp)} (hd : SoundDraw P dr) {e : Ev} (hec : SoundCode P e.code) (hcc : SoundCall P e.call) : SoundCode P (codeStep P dr e) := by
  intro ro c fr h ex fr' h' he m w a lo n H hfr hro
  have here : ∀ {e1 : Exit} {ex1 : AEx}, ExRel m ex1 e1 → Post m h w ex1 fr h e1 a w := fun hx => ⟨m, Ext.refl _ _ _, H, hfr, hx⟩
  unfold codeStep at he
  split at he
  · cases he; exact wpIn_skip (here .normal)
  · cases he; exact wpIn_label (here .normal)
  · rename_i x y
    refine wpIn_seq ?_
    cases hx : e.code ro x fr h with
    | none => rw [hx] at he; cases he
    | some r =>
      obtain ⟨ex1, fr1, h1⟩ := r
      rw [hx] at he
      refine wpIn_mono (hec _ _ _ _ _ _ _ hx m w a lo n H hfr hro) ?_
      rintro e1 a1 w1 ⟨m1, r1, r2, r3, r4⟩
      cases r4 with
      | normal =>
        exact wpIn_mono (hec _ _ _ _ _ _ _ he m1 w1 a1 lo n r2 r3 (hro.mono r1.sub)) (fun _ _ _ hp => Post.trans r1 hp)
      | exit id => cases he; exact ⟨m1, r1, r2, r3, .exit id⟩
      | goto l => cases he; exact ⟨m1, r1, r2, r3, .goto l⟩
      | ret => cases he; exact ⟨m1, r1, r2, r3, .ret⟩
      | panic hv => cases he; exact ⟨m1, r1, r2, r3, .panic hv⟩
  · rename_i c x y
    split at he
    · rename_i hc
      have hv := aev_sound H hfr.tm hc
      have hb : a.eval c = .bool true := by generalize a.eval c = c' at hv ⊢; cases hv; rfl
      exact wpIn_cond_true hb (hec _ _ _ _ _ _ _ he m w a lo n H hfr hro)
    · rename_i hc
      have hv := aev_sound H hfr.tm hc
      have hb : a.eval c = .bool false := by generalize a.eval c = c' at hv ⊢; cases hv; rfl
      exact wpIn_cond_false hb (hec _ _ _ _ _ _ _ he m w a lo n H hfr hro)
    · cases he
  · rename_i id x
    refine wpIn_block ?_
    cases hx : e.code ro x fr h with
    | none => rw [hx] at he; cases he
    | some r =>
      obtain ⟨ex1, fr1, h1⟩ := r
      rw [hx] at he
      refine wpIn_mono (hec _ _ _ _ _ _ _ hx m w a lo n H hfr hro) ?_
      rintro e1 a1 w1 ⟨m1, r1, r2, r3, r4⟩
      cases r4 with
      | normal => cases he; exact ⟨m1, r1, r2, r3, .normal⟩
      | exit id' =>
        simp only at he
        split at he
        · rename_i hid
          cases he
          have := beq_eq hid
          subst this
          show (if id' = id' then _ else _)
          rw [if_pos rfl]
          exact ⟨m1, r1, r2, r3, .normal⟩
        · rename_i hid
          cases he
          show (if id' = id then _ else _)
          rw [if_neg (beq_ne hid)]
          exact ⟨m1, r1, r2, r3, .exit id'⟩
      | goto l => cases he; exact ⟨m1, r1, r2, r3, .goto l⟩
      | ret => cases he; exact ⟨m1, r1, r2, r3, .ret⟩
      | panic hv => cases he; exact ⟨m1, r1, r2, r3, .panic hv⟩
  · rename_i x
    exact wpIn_loop_rounds 1000000 (loopRun_sound hec ro x 1000000 fr h ex fr' h' he m w a lo n H hfr hro)
  · cases he; exact wpIn_exit (here (.exit _))
  · cases he; exact wpIn_goto (here (.goto _))
  · cases he; exact wpIn_ret (here .ret)
  · rename_i id ops
    have := runOps_sound hec hcc ops ops.toList 0 rfl fr h ex fr' h' he m w a lo n H hfr
    refine wpIn_region ?_
    rw [List.range_eq_range']
    simpa using this
  · rename_i id ops
    exact hd e hec hcc id ops fr h ex fr' h' he m w a lo n H hfr
  · rename_i f ps asg body
    exact rangeRun_sound hcc he lo n H hfr hro
  · cases he

theorem ev_sound {P : Program} {dr : Ev → Array Oper → AFr → Hp → Option (AEx × AFr × Hp)} (hd : SoundDraw P dr) : ∀ n, SoundCode P (ev P dr n).code ∧ SoundCall P (ev P dr n).call
  | 0 => ⟨by intro ro c fr h ex fr' h' he; exact absurd (show (none : Option (AEx × AFr × Hp)) = some _ from he) (by simp),
      by intro f args h out h' he; exact absurd (show (none : Option (AOut × Hp)) = some _ from he) (by simp)⟩
  | n + 1 => by
    obtain ⟨h1, h2⟩ := ev_sound hd n
    refine ⟨?_, callStep_sound h1⟩
    have hs := codeStep_sound hd h1 h2
    intro ro c fr h ex fr' h' he
    exact hs ro c fr h ex fr' h' ((codeF_eq P dr _ ro c fr h).symm.trans he)
end
end Go.Ev
