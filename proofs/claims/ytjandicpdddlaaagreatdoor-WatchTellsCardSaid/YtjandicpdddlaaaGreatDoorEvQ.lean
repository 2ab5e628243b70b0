/-
  An evaluator of runs and its soundness, part Q. No condition of its own.
-/
import Derived.Test.YtjandicpdddlaaaGreatDoorEvP
namespace Go.Ev
noncomputable section

/-! ### The steps of the evaluator -/
def loopRun (f : AFr → Hp → Option (AEx × AFr × Hp)) (k : Nat) : AFr → Hp → Option (AEx × AFr × Hp) :=
  Nat.rec (motive := fun _ => AFr → Hp → Option (AEx × AFr × Hp)) (fun _ _ => none)
    (fun _ ih fr h => match f fr h with
      | some (.normal, fr1, h1) => ih fr1 h1
      | r => r) k
def ofJump : Option Code → Option AEx
  | none => some .normal
  | some .ret => some .ret
  | some (.exit id) => some (.exit id)
  | some (.goto l) => some (.goto l)
  | _ => none
def rangeRun (P : Program) (e : Ev) (ro : Option Nat) (f : Operand) (ps : Array Tmp) (asg body : Code) (fr : AFr) (h : Hp) : Option (AEx × AFr × Hp) :=
  match aev fr.T h.ng f with
  | some (.func g a1 c1) => match callable P g with
    | some _ =>
      match (match ro with
        | none => some (h.next, ADef.mark h.next :: fr.df, h.alloc (.dfr true))
        | some l0 => match h.get l0 with
          | some (.loop _ _ _ _ _ _ d) => some (d, fr.df, h)
          | _ => none) with
      | some (d, df, h1) =>
        match e.call g (a1 ++ (.yield h1.next :: c1)) (h1.alloc (.loop .ready none fr.T ps asg body d)) with
        | some (.ret _, h2) => match h2.get h1.next with
          | some (.loop st j T2 ps2 asg2 body2 d2) => match st with
            | .busy => none
            | _ => match ofJump j with
              | some ex => some (ex, ⟨fr.T, df⟩, h2.set h1.next (.loop .exhausted j T2 ps2 asg2 body2 d2))
              | none => none
          | _ => none
        | some (.pan v, h2) => some (.panic v, ⟨fr.T, df⟩, h2)
        | none => none
      | none => none
    | none => none
  | _ => none
def codeStep (P : Program) (dr : Ev → Array Oper → AFr → Hp → Option (AEx × AFr × Hp)) (e : Ev) : CodeEv := fun ro c fr h =>
  match c with
  | .skip => some (.normal, fr, h)
  | .label _ => some (.normal, fr, h)
  | .seq x y => match e.code ro x fr h with
    | some (.normal, fr1, h1) => e.code ro y fr1 h1
    | r => r
  | .cond c x y => match aev fr.T h.ng c with
    | some (.bool true) => e.code ro x fr h
    | some (.bool false) => e.code ro y fr h
    | _ => none
  | .block id x => match e.code ro x fr h with
    | some (.exit id', fr1, h1) => match Nat.beq id' id with
      | true => some (.normal, fr1, h1)
      | false => some (.exit id', fr1, h1)
    | r => r
  | .loop x => loopRun (e.code ro x) 1000000 fr h
  | .exit id => some (.exit id, fr, h)
  | .goto l => some (.goto l, fr, h)
  | .ret => some (.ret, fr, h)
  | .region _ ops false => runOps P e ops ops.toList fr h
  | .region _ ops true => dr e ops fr h
  | .rangeFunc f ps asg body => rangeRun P e ro f ps asg body fr h
  | _ => none
def codeF (c : Code) : Program → (Ev → Array Oper → AFr → Hp → Option (AEx × AFr × Hp)) → Ev → Option Nat → AFr → Hp → Option (AEx × AFr × Hp) :=
  match c with
  | .skip => fun P dr e ro fr h => some (.normal, fr, h)
  | .label _ => fun P dr e ro fr h => some (.normal, fr, h)
  | .seq x y => fun P dr e ro fr h => match e.code ro x fr h with
    | some (.normal, fr1, h1) => e.code ro y fr1 h1
    | r => r
  | .cond c x y => fun P dr e ro fr h => match aev fr.T h.ng c with
    | some (.bool true) => e.code ro x fr h
    | some (.bool false) => e.code ro y fr h
    | _ => none
  | .block id x => fun P dr e ro fr h => match e.code ro x fr h with
    | some (.exit id', fr1, h1) => match Nat.beq id' id with
      | true => some (.normal, fr1, h1)
      | false => some (.exit id', fr1, h1)
    | r => r
  | .loop x => fun P dr e ro fr h => loopRun (e.code ro x) 1000000 fr h
  | .exit id => fun P dr e ro fr h => some (.exit id, fr, h)
  | .goto l => fun P dr e ro fr h => some (.goto l, fr, h)
  | .ret => fun P dr e ro fr h => some (.ret, fr, h)
  | .region _ ops false => fun P dr e ro fr h => runOpsF P e ops ops.toList fr h
  | .region _ ops true => fun P dr e ro fr h => dr e ops fr h
  | .rangeFunc f ps asg body => fun P dr e ro fr h => rangeRun P e ro f ps asg body fr h
  | _ => fun _ _ _ _ _ _ => none
theorem codeF_eq (P : Program) (dr : Ev → Array Oper → AFr → Hp → Option (AEx × AFr × Hp)) (e : Ev) (ro : Option Nat) (c : Code) (fr : AFr) (h : Hp) : codeF c P dr e ro fr h = codeStep P dr e ro c fr h := by
  cases c <;> first | rfl | (rename_i d; cases d <;> first | rfl | exact runOpsF_eq _ _ _ _ _ _)
def leave (P : Program) (fn : Func) (ex : AEx) (fr : AFr) (h : Hp) : Option (AOut × Hp) :=
  match ex with
  | .normal => match unwindA fr.df h with
    | some h1 => match aresults P fr.T h1 fn.results.toList with
      | some k => some (.ret (tup k), h1)
      | none => none
    | none => none
  | .ret => match unwindA fr.df h with
    | some h1 => match aresults P fr.T h1 fn.results.toList with
      | some k => some (.ret (tup k), h1)
      | none => none
    | none => none
  | .panic v => match unwindA fr.df h with
    | some h1 => some (.pan v, h1)
    | none => none
  | _ => none
def callStep (P : Program) (e : Ev) : CallEv := fun f args h =>
  match callable P f with
  | some (fn, c) => match Nat.ble args.length fn.ntmps with
    | true => match e.code none c ⟨mkTm args fn.ntmps, []⟩ h with
      | some (ex, fr, h1) => leave P fn ex fr h1
      | none => none
    | false => none
  | none => none
def ev (P : Program) (dr : Ev → Array Oper → AFr → Hp → Option (AEx × AFr × Hp)) (n : Nat) : Ev :=
  Nat.rec (motive := fun _ => Ev) ⟨fun _ _ _ _ => none, fun _ _ _ => none⟩ (fun _ e => ⟨fun ro c fr h => codeF c P dr e ro fr h, callStep P e⟩) n

theorem unwindA_sound {P : Program} {n : Nat} {lo : Option Nat} {fn : Func} {tmps : Array Value} {R : Ending → World → Prop} {u : FrameMode} (hu : u ≠ .run) :
    ∀ {df : List ADef} {ds : List Deferred} {m : Mp} {h h1 : Hp} {w : World}, DRel m df ds → HRel m h w → unwindA df h = some h1 →
      (∀ w1, Ext m h w m h1 w1 → HRel m h1 w1 → LeavesIn (Wd lo) n P fn tmps R [] u w1) → LeavesInM (Wd lo) n P fn tmps R ds u w
  | [], _, m, h, h1, w, .nil, H, he, K => by cases he; exact K w (Ext.refl _ _ _) H
  | .mark r :: df, _, m, h, h1, w, .mark (x := x) (l' := ds) hx t, H, he, K => by
    simp only [unwindA] at he
    split at he
    · rename_i hb
      obtain ⟨y, c, g1, g2, g3⟩ := H.obj _ _ hb
      rw [hx] at g1; cases g1
      have hc : c = .deferred (some []) := by
        cases c <;> first | exact g3.elim | (have := g3; simp [ORel] at this; rw [this])
      subst hc
      have hor : ORel m (.dfr false) x (.deferred none) := rfl
      obtain ⟨r1, r2⟩ := H.setBlk hb rfl hx hor
      refine ⟨hu, .inl ⟨x.c, _, rfl, ?_, unwindA_sound hu t r1 he (fun w1 e1 e2 => K w1 (r2.trans e1) e2)⟩⟩
      simp only [Instr.takeDeferred, Sem.run_bind, run_getObj g2 (by intros; simp), Result.andThen_ok, run_setObj g2 (by intros; simp), Sem.run_pure]
    · cases he

theorem leave_sound {P : Program} {n : Nat} {lo : Option Nat} {fn : Func} {ex : AEx} {fr : AFr} {h h1 : Hp} {out : AOut} (he : leave P fn ex fr h = some (out, h1)) {m0 m : Mp} {h0 : Hp} {w0 w : World} {e : Exit} {a : Act}
    (E : Ext m0 h0 w0 m h w) (H : HRel m h w) (hfr : FrRel m fr a) (hex : ExRel m ex e) : bodyPostM (Wd lo) n P fn (CPost m0 h0 w0 out h1) e a w := by
  have fin : ∀ h1 k, unwindA fr.df h = some h1 → aresults P fr.T h1 fn.results.toList = some k → LeavesInM (Wd lo) n P fn a.tmps (CPost m0 h0 w0 (.ret (tup k)) h1) a.defers .returning w := by
    intro h2 k q1 q2
    refine unwindA_sound (by simp) hfr.df H q1 (fun w1 e1 e2 => ?_)
    obtain ⟨v, r1, r2⟩ := results_sound e2 hfr.tm q2
    exact ⟨v, r1, m, E.trans e1, e2, .ret r2⟩
  unfold leave at he
  split at he
  · cases hex
    split at he
    · rename_i h2 q1
      split at he
      · rename_i k q2; cases he; exact fin _ _ q1 q2
      · cases he
    · cases he
  · cases hex
    split at he
    · rename_i h2 q1
      split at he
      · rename_i k q2; cases he; exact fin _ _ q1 q2
      · cases he
    · cases he
  · cases hex with
    | panic hv =>
      split at he
      · rename_i h2 q1
        cases he
        refine unwindA_sound (by simp) hfr.df H q1 (fun w1 e1 e2 => ?_)
        exact ⟨m, E.trans e1, e2, .pan hv⟩
      · cases he
  · cases he

theorem callStep_sound {P : Program} {e : Ev} (hec : SoundCode P e.code) : SoundCall P (callStep P e) := by
  intro f args h out h' he m w args' lo n H ha
  unfold callStep at he
  split at he
  · rename_i fn c hc
    obtain ⟨hf, hb, _⟩ := callable_run hc args' w
    split at he
    · rename_i hn
      split at he
      · rename_i ex fr h1 hcode
        refine (callsIn_of_wp_marks (F := Wd none) hf hb trivial ?_ rfl : CallsIn (Wd none) n P f args' w _)
        have hfr : FrRel m ⟨mkTm args fn.ntmps, []⟩ { tmps := args' ++ Array.replicate (fn.ntmps - args'.size) undef, defers := [] } := ⟨mkTm_rel ha (ble_le hn), .nil⟩
        refine wpIn_mono (hec _ _ _ _ _ _ _ hcode m w _ none n H hfr trivial) ?_
        rintro ex1 a1 w1 ⟨m1, r1, r2, r3, r4⟩
        exact leave_sound he r1 r2 r3 r4
      · cases he
    · cases he
  · cases he
end
end Go.Ev
