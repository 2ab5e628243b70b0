/-
  Walks over written-out states, part E. No condition of its own.
-/
import Derived.Test.YtjandicpdddlaaaGreatDoorVD
namespace Go.Ev
noncomputable section

/-! ### Functions that only compute -/
/-- Called with values that lie still, a function hands back a value that lies still, and leaves all that was there as it was. -/
def PF (P : Program) (GT : GTab) (f : FuncId) (args : List AV) (v : AV) : Prop :=
  (∃ fc, callable P f = some fc) ∧ ∀ (m : Mp) (w : World) (args' : Array Value) (lo : Option Nat) (n : Nat), GOk GT m → St m [] w → LRel m args args'.toList →
    CallsIn (Wd lo) n P f args' w (fun e w1 => ∃ r m1, e = .returned r ∧ Fr m [] w m1 [] w1 ∧ St m1 [] w1 ∧ VRel m1.bare v r)

/-- What a caller has behind such a call. -/
theorem St.after {m m1 : Mp} {L : Ls} {w w1 : World} (H : St m L w) (f : Fr m [] w m1 [] w1) (H1 : St m1 [] w1) : St ⟨m.f, m1.K⟩ L w1 ∧ Fr m L w ⟨m.f, m1.K⟩ L w1 ∧ m.le ⟨m.f, m1.K⟩ := by
  have hle : m.le ⟨m.f, m1.K⟩ := ⟨fun _ _ h => h, f.K⟩
  have hold : ∀ c, c < w.heap.size → w1.heap[c]? = w.heap[c]? := fun c hc => f.kept c hc (fun b o x h => by cases h)
  refine ⟨⟨H.dom, fun b x hb => Nat.lt_of_lt_of_le (H.bnd b x hb) f.size, ?_, H.inj, ?_⟩, ⟨f.K, f.os, f.tape, f.output, f.size, fun c hc _ => hold c hc, fun b o x h1 h2 h3 _ => ⟨b, o, x, h1, h2, h3, rfl⟩, ?_⟩, hle⟩
  · intro b o hb
    obtain ⟨x, c, h1, h2, h3⟩ := H.obj b o hb
    exact ⟨x, c, h1, by rw [hold _ (H.bnd _ _ h1)]; exact h2, h3.mono hle⟩
  · intro c a hk
    refine ⟨(H1.frz c a hk).1, fun b o x hb hm hc => ?_⟩
    have hlt : c < w.heap.size := by rw [← hc]; exact H.bnd b x hm
    exact (H.frz c a (f.kn c a hk hlt (fun b o x h => by cases h))).2 b o x hb hm hc
  · intro c a hk hc _
    exact f.kn c a hk hc (fun b o x h => by cases h)

section
variable {P : Program} {GT : GTab} {sz : Nat} {st : List It2} {S : Sl} {L : Ls} {K : Fin} {ops : Array Oper} {rest : List Oper} {o : Oper} {v : AV} {d : Nat}

theorem TO.call {g : FuncId} {as : Array Operand} {ats : Array TypeId} {vs : List AV} (hg : wants ops S o.guard = some true) (hop : o.op = .call ⟨.value (.func g), as, ats⟩) (hargs : sevs GT S as.toList = some vs) (hp : PF P GT g vs v)
    (ho : o.dst = some d) (hd : Nat.blt d sz = true) (h : TO P GT sz ops rest st ((d, some v) :: S) L K) : TO P GT sz ops (o :: rest) st S L K := by
  intro m w a lo n m0 L0 w0 hG f H s hz hdf
  simp only [wpListIn]
  rw [wants_sound s hg]
  simp only [if_true]
  have hnd : ∀ c, o.op ≠ .defer c := by rw [hop]; intro c h; cases h
  refine ⟨fun _ _ => trivial, ?_⟩
  have hlt : d < a.tmps.size := by rw [hz]; exact blt_lt hd
  have hA := sevs_sound (hG.mono f.K) s hargs
  have hA' : LRel m vs (as.map a.eval).toList := by simpa using hA
  obtain ⟨⟨⟨fn, body⟩, hc⟩, hp⟩ := hp
  have hrun : (execOp a.eval o).run P w = .ok (.enter g (as.map a.eval)) w := by
    obtain ⟨_, _, r⟩ := callable_run hc (#[] ++ as.map a.eval ++ #[]) w
    unfold execOp
    rw [hop]
    simp only [resolve, Act.eval, Deferred.ofValue, Sem.run_bind, Sem.run_pure, Result.andThen_ok, invoke]
    rw [r]
    simp
  rw [Oper.semAt_eq _ _ _ hnd, hrun, Oper.uponIn_enter]
  refine ⟨(fun hh => by cases hh), (hp m w _ lo (n - 1) (hG.mono f.K) (H.less (fun b o h => by cases h)) hA').mono ?_⟩
  rintro e w1 ⟨r, m1, rfl, f1, H1, hv⟩
  obtain ⟨g1, g2, g3⟩ := H.after f1 H1
  rw [ho]
  have hle : m1.bare.le ⟨m.f, m1.K⟩ := ⟨(fun _ _ h => by cases h), fun _ _ h => h⟩
  exact h _ w1 _ lo n m0 L0 w0 hG (f.trans g2) g1 ((s.mono g3).put hlt (VRel.mono hle hv)) (by rw [put_size]; exact hz) (by rw [put_defers]; exact hdf)

end

/-! ### Results -/
def AV.flat : AV → Bool
  | .bool _ | .int _ _ | .str _ | .nilPtr | .nilSlice | .nilMap | .nilFunc | .nilIface | .lst _ _ | .fptr _ => true
  | _ => false
def flatL : List AV → Bool
  | [] => true
  | v :: l => match AV.flat v with | true => flatL l | false => false
/-- What a value is, once nothing is written any more. -/
inductive Frz (L : Ls) : AV → AV → Prop
  | flat {v : AV} (h : AV.flat v = true) : Frz L v v
  | slice {b n : Nat} {cap : Cap} {cs : List AV} {op : Bool} (h : hget L b = some (.cells cs true op)) (hf : flatL cs = true) : Frz L (.slice b 0 n cap) (.lst n cs)
  | empty : Frz L .empty (.lst 0 [])
inductive FrzL (L : Ls) : List AV → List AV → Prop
  | nil : FrzL L [] []
  | cons {v v' : AV} {l l' : List AV} (h : Frz L v v') (t : FrzL L l l') : FrzL L (v :: l) (v' :: l')
inductive FrzR (L : Ls) : AV → AV → Prop
  | one {v v' : AV} (h : Frz L v v') : FrzR L v v'
  | agg {l l' : List AV} (h : FrzL L l l') : FrzR L (.agg l) (.agg l')
inductive FrzT (L : Ls) : List AV → List AV → Prop
  | nil : FrzT L [] []
  | cons {v v' : AV} {l l' : List AV} (h : FrzR L v v') (t : FrzT L l l') : FrzT L (v :: l) (v' :: l')

theorem VRel.ofFlat {m : Mp} {v : AV} {x : Value} (hf : AV.flat v = true) (h : VRel m v x) : VRel m.bare v x := by
  cases h with
  | bool b => exact .bool _
  | int k n => exact .int _ _
  | str h => exact .str h
  | nilPtr => exact .nilPtr
  | nilSlice => exact .nilSlice
  | nilMap => exact .nilMap
  | nilFunc => exact .nilFunc
  | nilIface => exact .nilIface
  | lst hK hb hn hr => exact .lst hK hb hn hr
  | lst0 a c => exact .lst0 _ _
  | fptr hK hb hr => exact .fptr hK hb hr
  | _ => cases hf
theorem LRel.ofFlat {m : Mp} : ∀ {l : List AV} {k : List Value}, flatL l = true → LRel m l k → LRel m.bare l k
  | [], _, _, .nil => .nil
  | v :: l, _, hf, .cons h t => by
    have hf' : (match AV.flat v with | true => flatL l | false => false) = true := hf
    cases hv : AV.flat v with
    | false => rw [hv] at hf'; cases hf'
    | true => rw [hv] at hf'; exact .cons (h.ofFlat hv) (LRel.ofFlat hf' t)

/-- All that was laid since the beginning lies still from now on. -/
def still (m : Mp) (w0 w : World) : Mp := ⟨fun _ => none, fun c => match m.K c with
  | some a => some a
  | none => match Nat.ble w0.heap.size c, w.heap[c]? with
    | true, some (.cells a _ _) => some a
    | _, _ => none⟩
theorem still_K {m : Mp} {w0 w : World} {c : Nat} {a : Array Value} (h : m.K c = some a) : (still m w0 w).K c = some a := by simp [still, h]
theorem still_new {m : Mp} {L : Ls} {w0 w : World} (H : St m L w) {c : Nat} {a : Array Value} {e : TypeId} {fr : Nat × Nat} (hc : w0.heap.size ≤ c) (h : w.heap[c]? = some (.cells a e fr)) : (still m w0 w).K c = some a := by
  cases hk : m.K c with
  | some a' =>
    obtain ⟨⟨e', fr', h'⟩, _⟩ := H.frz c a' hk
    rw [h] at h'; cases h'
    exact still_K hk
  | none =>
    have : Nat.ble w0.heap.size c = true := by rw [Nat.ble_eq]; exact hc
    simp [still, hk, this, h]
theorem St.still {m : Mp} {L : Ls} {w0 w : World} (H : St m L w) : St (Go.Ev.still m w0 w) [] w := by
  refine ⟨⟨0, (fun b x h => by cases h)⟩, (fun b x h => by cases h), (fun b o h => by cases h), (fun b b' o o' x x' h => by cases h), fun c a hk => ⟨?_, (fun b o x h => by cases h)⟩⟩
  cases hk' : m.K c with
  | some a' => rw [still_K hk'] at hk; cases hk; exact (H.frz c _ hk').1
  | none =>
    simp only [Go.Ev.still, hk'] at hk
    split at hk
    · rename_i a' e fr h1 h2; cases hk; exact ⟨e, fr, h2⟩
    · cases hk
theorem Fr.still {m0 m : Mp} {w0 w : World} {L : Ls} (f : Fr m0 [] w0 m L w) : Fr m0 [] w0 (Go.Ev.still m w0 w) [] w :=
  ⟨fun c a h => still_K (f.K c a h), f.os, f.tape, f.output, f.size, f.kept, (fun b o x h => by cases h), fun c a hk hc hn => by
    cases hk' : m.K c with
    | some a' => rw [still_K hk'] at hk; cases hk; exact f.kn c _ hk' hc hn
    | none =>
      have : Nat.ble w0.heap.size c = false := by
        cases h : Nat.ble w0.heap.size c with
        | false => rfl
        | true => rw [Nat.ble_eq] at h; omega
      simp [Go.Ev.still, hk', this] at hk⟩
/-- A block of one's own lies still. -/
theorem own_still {m0 m : Mp} {w0 w : World} {L : Ls} (f : Fr m0 [] w0 m L w) (H : St m L w) {b : Nat} {cs : List AV} {op : Bool} {x : Blk} (h : hget L b = some (.cells cs true op)) (hx : m b = some x) :
    ∃ arr, (Go.Ev.still m w0 w).K x.c = some arr ∧ x.base + cs.length ≤ arr.size ∧ LRel m cs ((arr.toList.drop x.base).take cs.length) := by
  obtain ⟨N, hN⟩ := H.hrel
  obtain ⟨y, arr, e, fr, h1, h2, h3, h4, h5, h6, h7⟩ := hN.cells (b := b) (cs := cs) (wr := true) (op := op) ((toTr_get L b).trans h)
  rw [hx] at h1; cases h1
  refine ⟨arr, ?_, by omega, h6⟩
  rcases Nat.lt_or_ge x.c w0.heap.size with hlt | hge
  · obtain ⟨b', o', x', g1, _⟩ := f.img b _ x h rfl hx hlt
    cases g1
  · exact still_new H hge h2
section
variable {m0 m : Mp} {w0 w : World} {L : Ls}
theorem still_le (m : Mp) (w0 w : World) : m.bare.le (Go.Ev.still m w0 w).bare := Mp.bare_mono (fun _ _ h => still_K h)
theorem Frz.sound (f : Fr m0 [] w0 m L w) (H : St m L w) {v v' : AV} {x : Value} (h : Frz L v v') (hv : VRel m v x) : VRel (Go.Ev.still m w0 w).bare v' x := by
  cases h with
  | flat hf => exact (hv.ofFlat hf).mono (still_le m w0 w)
  | slice hb hf =>
    cases hv with
    | slice hm hc hl =>
      obtain ⟨arr, g1, g2, g3⟩ := own_still f H hb hm
      exact .lst (m := (Go.Ev.still m w0 w).bare) g1 g2 hl (LRel.mono (still_le m w0 w) (LRel.ofFlat hf g3))
  | empty => cases hv; exact .lst0 _ _
theorem FrzL.sound (f : Fr m0 [] w0 m L w) (H : St m L w) : ∀ {v v' : List AV} {x : List Value} (_ : FrzL L v v') (_ : LRel m v x), LRel (Go.Ev.still m w0 w).bare v' x
  | _, _, _, .nil, .nil => .nil
  | _, _, _, .cons h t, .cons g k => .cons (h.sound f H g) (FrzL.sound f H t k)
theorem FrzR.sound (f : Fr m0 [] w0 m L w) (H : St m L w) {v v' : AV} {x : Value} (h : FrzR L v v') (hv : VRel m v x) : VRel (Go.Ev.still m w0 w).bare v' x := by
  cases h with
  | one h => exact h.sound f H hv
  | agg h => cases hv with | agg hv => exact .agg (h.sound f H hv)
theorem FrzT.sound (f : Fr m0 [] w0 m L w) (H : St m L w) : ∀ {v v' : List AV} {x : List Value} (_ : FrzT L v v') (_ : LRel m v x), LRel (Go.Ev.still m w0 w).bare v' x
  | _, _, _, .nil, .nil => .nil
  | _, _, _, .cons h t, .cons g k => .cons (h.sound f H g) (FrzT.sound f H t k)
end

/-! ### A function's results -/
inductive SRes (P : Program) (S : Sl) (L : Ls) : List ResultVar → List AV → Prop
  | nil : SRes P S L [] []
  | tmp {t : Tmp} {v : AV} {l : List ResultVar} {k : List AV} (h : sget S t = some v) (r : SRes P S L l k) : SRes P S L (.tmp t :: l) (v :: k)
  | cell {t : Tmp} {ty : TypeId} {b : Nat} {d : TypeDesc} {cs l' : List AV} {wr op : Bool} {v : AV} {l : List ResultVar} {k : List AV} (h : sget S t = some (.ptr b 0)) (hL : hget L b = some (.cells cs wr op)) (ht : P.underlying ty = some d)
      (hV : (isAggD d = false ∧ cs = v :: l') ∨ (isAggD d = true ∧ ∃ sz, (P.info? ty).map (·.size) = some sz ∧ Nat.ble sz cs.length = true ∧ v = .agg (cs.take sz))) (r : SRes P S L l k) : SRes P S L (.cell t ty :: l) (v :: k)
theorem SRes.sound {P : Program} {S : Sl} {L : Ls} {m : Mp} {w : World} (H : St m L w) {a : Act} (s : SRel m S a) : ∀ {l : List ResultVar} {k : List AV}, SRes P S L l k →
    ∃ vs : List Value, (l.mapM (rv a.tmps)).run P w = .ok vs w ∧ LRel m k vs
  | _, _, .nil => ⟨[], by simp, .nil⟩
  | _, _, .tmp (t := t) h r => by
    obtain ⟨vs, h1, h2⟩ := SRes.sound H s r
    exact ⟨_ :: vs, by simp [rv, h1], .cons (s.get t _ h) h2⟩
  | _, _, .cell (t := t) (ty := ty) (b := b) (cs := cs) (v := v) h hL ht hV r => by
    obtain ⟨vs, h1, h2⟩ := SRes.sound H s r
    have hv := s.get t _ h
    obtain ⟨N, hN⟩ := H.hrel
    obtain ⟨y, arr, e, fr, g1, g2, g3, g4, g5, g6, g7⟩ := hN.cells ((toTr_get L _).trans hL)
    obtain ⟨blk, hm, hxe⟩ : ∃ blk, m b = some blk ∧ a.tmps.getD t undef = .pointer (some ⟨blk.c, blk.base + 0, none⟩) := by
      generalize a.tmps.getD t undef = x' at hv
      cases hv with
      | ptr hm => exact ⟨_, hm, rfl⟩
    obtain rfl : blk = y := Option.some.inj (hm.symm.trans g1)
    obtain ⟨u, r1, r2⟩ := load_at (P := P) g2 (off := blk.base) (t := ty) (V := v) (cs := cs) (by omega) g6 ht (by
      rcases hV with ⟨q1, q2⟩ | ⟨q1, sz, q2, q3, q4⟩
      · exact .inl ⟨q1, _, q2⟩
      · exact .inr ⟨q1, sz, q2, ble_le q3, q4⟩)
    refine ⟨u :: vs, ?_, .cons r2 h2⟩
    have r1' : (loadVar ty ⟨blk.c, blk.base + 0, none⟩).run P w = .ok u w := r1
    simp only [List.mapM_cons, Sem.run_bind, rv, hxe, asAddr, Sem.run_pure, Result.andThen_ok, r1', h1]

def slots : List AV → Nat → Sl
  | [], _ => []
  | v :: l, i => (i, some v) :: slots l (i + 1)
theorem slots_get : ∀ (l : List AV) (i k : Nat) (v : AV), sget (slots l i) k = some v → i ≤ k ∧ l[k - i]? = some v
  | [], i, k, v, h => by cases h
  | u :: l, i, k, v, h => by
    simp only [slots] at h
    rw [sget_cons] at h
    by_cases e : k = i
    · subst e; rw [if_pos rfl] at h; cases h; exact ⟨Nat.le_refl _, by simp⟩
    · rw [if_neg e] at h
      obtain ⟨h1, h2⟩ := slots_get l (i + 1) k v h
      refine ⟨by omega, ?_⟩
      have : k - i = (k - (i + 1)) + 1 := by omega
      rw [this]; simpa using h2
def RetK (P : Program) (rs : List ResultVar) (v : AV) : Fin := fun ex S L => (ex = .ret ∨ ex = .normal) ∧ ∃ vs vs', SRes P S L rs vs ∧ FrzT L vs vs' ∧ tup vs' = v

theorem tup_rel {m : Mp} {k : List AV} {k' : List Value} (h : LRel m k k') : VRel m (tup k) (if h : k'.toArray.size = 1 then k'.toArray[0] else .tuple k'.toArray) := by
  cases h with
  | nil => simp only [tup]; exact .tuple .nil
  | cons hv t =>
    cases t with
    | nil => simp only [tup]; simpa using hv
    | cons hv2 t2 =>
      show VRel m (.tuple _) _
      rw [dif_neg (by simp)]
      exact .tuple (.cons hv (.cons hv2 t2))

/-- A function that only computes, out of its text. -/
theorem PF.enter {P : Program} {GT : GTab} {f : FuncId} {fn : Func} {c : Code} {args : List AV} {v : AV} {sz : Nat} {rs : List ResultVar} (hc : callable P f = some (fn, c)) (hz : fn.ntmps = sz) (hrs : fn.results.toList = rs) (hn : Nat.ble args.length sz = true)
    (h : TT P GT sz [.code c] .normal (slots args 0) [] (RetK P rs v)) : PF P GT f args v := by
  subst hz hrs
  refine ⟨⟨_, hc⟩, ?_⟩
  intro m w args' lo n hG H hA
  obtain ⟨hf, hb, _⟩ := callable_run hc args' w
  refine (callsIn_of_wp_marks (F := Wd none) hf hb trivial ?_ rfl : CallsIn (Wd none) n P f args' w _)
  have hlen := hA.length
  simp only [Array.length_toList] at hlen
  have hs : SRel m (slots args 0) { tmps := args' ++ Array.replicate (fn.ntmps - args'.size) undef, defers := [] } := by
    refine ⟨fun i u hu => ?_⟩
    obtain ⟨_, h2⟩ := slots_get _ _ _ _ hu
    rw [Nat.sub_zero] at h2
    obtain ⟨u', e1, e2⟩ := hA.get h2
    have hlt : i < args'.size := by
      have := (List.getElem?_eq_some_iff.1 e1).1
      simpa using this
    have e1' : args'[i]? = some u' := by simpa using e1
    show VRel m u ((args' ++ Array.replicate (fn.ntmps - args'.size) undef).getD i undef)
    rw [Array.getD_eq_getD_getElem?, Array.getElem?_append_left hlt, e1']
    exact e2
  have hsz : (args' ++ Array.replicate (fn.ntmps - args'.size) undef).size = fn.ntmps := by
    have := ble_le hn
    simp; omega
  refine wpIn_mono (h m w _ none n m [] w hG (Fr.refl _ _ _) H hs hsz rfl _ .normal) ?_
  rintro e a w1 ⟨ex, S, L, m1, ⟨hex, vs, vs', h1, h2, rfl⟩, f1, H1, s1, hz1, hd1, hexr⟩
  obtain ⟨k', r1, r2⟩ := SRes.sound H1 s1 h1
  have r3 := h2.sound f1 H1 r2
  have hres : (results fn a.tmps).run P w1 = .ok (if h : k'.toArray.size = 1 then k'.toArray[0] else .tuple k'.toArray) w1 := by
    simp only [results_rv, Sem.run_bind, Array.mapM_eq_mapM_toList, Sem.run_map, r1, Result.andThen_ok, Sem.run_pure]
  have fin : LeavesInM (Wd none) n P fn a.tmps (fun e w1 => ∃ r m1, e = .returned r ∧ Fr m [] w m1 [] w1 ∧ St m1 [] w1 ∧ VRel m1.bare (tup vs') r) a.defers .returning w1 := by
    rw [hd1]
    exact ⟨_, hres, _, Go.Ev.still m1 w w1, rfl, f1.still, H1.still, tup_rel r3⟩
  rcases hex with rfl | rfl
  · cases hexr; exact fin
  · cases hexr; exact fin

/-- The end of a function with one plain result. -/
theorem TT.ret1 {P : Program} {GT : GTab} {sz : Nat} {S : Sl} {L : Ls} {t : Tmp} {v0 v : AV} (h : sget S t = some v0) (hf : AV.flat v0 = true) (he : v0 = v) : TT P GT sz [] .ret S L (RetK P [.tmp t] v) :=
  TT.nil ⟨.inl rfl, [v0], [v0], .tmp h .nil, .cons (.one (.flat hf)) .nil, he⟩
theorem TT.end1 {P : Program} {GT : GTab} {sz : Nat} {S : Sl} {L : Ls} {t : Tmp} {v0 v : AV} (h : sget S t = some v0) (hf : AV.flat v0 = true) (he : v0 = v) : TT P GT sz [] .normal S L (RetK P [.tmp t] v) :=
  TT.nil ⟨.inr rfl, [v0], [v0], .tmp h .nil, .cons (.one (.flat hf)) .nil, he⟩

/-! ### Lists that lie still -/
def flat {α : Type} (e : α → List AV) (l : List α) : List AV := (l.map e).flatten
/-- A list's item at an integer. -/
def nth {α : Type} [Inhabited α] (l : List α) (i : Int) : α := l.getD i.toNat default
theorem flat_length {α : Type} {e : α → List AV} {sz : Nat} (h : ∀ x, (e x).length = sz) : ∀ l : List α, (flat e l).length = l.length * sz
  | [] => by simp [flat]
  | x :: l => by
    have ih := flat_length h l
    unfold flat at ih ⊢
    simp only [List.map_cons, List.flatten_cons, List.length_append, h x, ih, List.length_cons, Nat.succ_mul]
    omega
theorem flat_row {α : Type} {e : α → List AV} {sz : Nat} (h : ∀ x, (e x).length = sz) : ∀ (l : List α) (k : Nat) (hk : k < l.length), ((flat e l).drop (k * sz)).take sz = e l[k]
  | x :: l, 0, hk => by
    unfold flat
    simp only [List.map_cons, List.flatten_cons, Nat.zero_mul, List.drop_zero, List.getElem_cons_zero]
    rw [List.take_append_of_le_length (by rw [h]; exact Nat.le_refl _), List.take_of_length_le (by rw [h]; exact Nat.le_refl _)]
  | x :: l, k + 1, hk => by
    have ih := flat_row h l k (by simpa using hk)
    have e1 : flat e (x :: l) = e x ++ flat e l := rfl
    have e2 : (flat e (x :: l)).drop ((k + 1) * sz) = (flat e l).drop (k * sz) := by
      rw [e1, List.drop_append, h, List.drop_of_length_le (by rw [h, Nat.succ_mul]; omega), List.nil_append]
      congr 1
      rw [Nat.succ_mul]; omega
    rw [e2, ih]
    rfl
theorem flat_fits {α : Type} {e : α → List AV} {sz : Nat} (h : ∀ x, (e x).length = sz) (l : List α) (k : Nat) (hk : k < l.length) : k * sz + sz ≤ (flat e l).length := by
  rw [flat_length h, ← Nat.succ_mul]; exact Nat.mul_le_mul_right _ hk
theorem nth_get {α : Type} [Inhabited α] (l : List α) (i : Int) (h : i.toNat < l.length) : nth l i = l[i.toNat] := by
  unfold nth; rw [List.getD_eq_getElem?_getD, List.getElem?_eq_getElem h]; rfl
theorem nth_cast {α : Type} [Inhabited α] (l : List α) (k : Nat) (h : k < l.length) : nth l (k : Int) = l[k] := nth_get l k h
/-- A row of such a list. -/
theorem OV.rowF {P : Program} {GT : GTab} {S : Sl} {L : Ls} {o : Oper} {α : Type} [Inhabited α] {e : α → List AV} {l : List α} {t et sz : Nat} {i : Int} {x y : Operand} {k : IntKind} (ht : P.underlying t = some (.slice et)) (hs : (P.info? et).map (·.size) = some sz)
    (ho : o.op = .indexAddr t x y) (hx : sev GT S x = some (.lst l.length (flat e l))) (hy : sev GT S y = some (.int k i)) (h0 : 0 ≤ i) (hn : i < (l.length : Int)) (he : ∀ x, (e x).length = sz) : OV P GT S L o (.fptr (e (nth l i))) := by
  have hk : i.toNat < l.length := by omega
  refine OV.row ht hs ho hx hy h0 hn ?_ (flat_fits he l _ hk)
  rw [flat_row he l _ hk, nth_get l i hk]
end
end Go.Ev
