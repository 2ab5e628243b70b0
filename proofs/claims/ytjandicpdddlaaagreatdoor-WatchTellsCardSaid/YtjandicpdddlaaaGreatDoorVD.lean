/-
  Walks over written-out states, part D. No condition of its own.
-/
import Derived.Test.YtjandicpdddlaaaGreatDoorVC
namespace Go.Ev
noncomputable section

/-! ### Is a guarded operation wanted? -/
def wants (ops : Array Oper) (S : Sl) (g : Option (Nat × Bool)) : Option Bool :=
  match g with
  | none => some true
  | some (j, b) => match ops[j]? with
    | some o => match o.dst with
      | some d => match sget S d with
        | some (.bool x) => some (beqB x b)
        | some (.tuple []) => some false
        | _ => none
      | none => none
    | none => none
theorem wants_sound {m : Mp} {S : Sl} {a : Act} (s : SRel m S a) {ops : Array Oper} {o : Oper} {r : Bool} (h : wants ops S o.guard = some r) : Region.wanted o (yielded ops a.tmps) = r := by
  unfold Region.wanted
  cases hg : o.guard with
  | none => rw [hg] at h; cases h; rfl
  | some g =>
    obtain ⟨j, b⟩ := g
    rw [hg] at h
    simp only [wants] at h
    split at h
    · rename_i oj hj
      split at h
      · rename_i d hd
        simp only [yielded, hj, Option.bind_some, hd]
        split at h
        · rename_i x hx
          cases h
          have hr := s.get d _ hx
          rw [Array.getD_eq_getD_getElem?] at hr
          cases hq : a.tmps[d]? with
          | none => rw [hq] at hr; simp only [Option.getD_none, undef] at hr; cases hr
          | some v => rw [hq] at hr; simp only [Option.getD_some] at hr; cases hr; simp [beqB_eq]
        · rename_i hx
          cases h
          have hr := s.get d _ hx
          rw [Array.getD_eq_getD_getElem?] at hr
          cases hq : a.tmps[d]? with
          | none => simp
          | some v => rw [hq] at hr; simp only [Option.getD_some] at hr; cases hr; simp
        · cases h
      · cases h
    · cases h

section
variable {P : Program} {GT : GTab} {sz : Nat} {st : List It2} {S : Sl} {L : Ls} {K : Fin} {ops : Array Oper} {rest : List Oper} {o : Oper} {v : AV} {d : Nat}

/-- A step that changes no memory. -/
theorem TO.op (hg : wants ops S o.guard = some true) (hv : OV P GT S L o v) (ho : o.dst = some d) (hd : Nat.blt d sz = true) (h : TO P GT sz ops rest st ((d, some v) :: S) L K) : TO P GT sz ops (o :: rest) st S L K := by
  intro m w a lo n m0 L0 w0 hG f H s hz hdf
  simp only [wpListIn]
  rw [wants_sound s hg]
  simp only [if_true]
  obtain ⟨hnd, hv⟩ := hv
  obtain ⟨nx, r1, r2⟩ := hv m w a (hG.mono f.K) H (s.opR (hG.mono f.K) o)
  refine ⟨fun _ _ => trivial, ?_⟩
  rw [Oper.semAt_eq _ _ _ hnd, r1]
  have hlt : d < a.tmps.size := by rw [hz]; exact blt_lt hd
  rcases r2 with ⟨u, rfl, hu⟩ | ⟨rfl, rfl⟩
  · rw [Oper.uponIn_value, ho]
    exact h m w _ lo n m0 L0 w0 hG f H (s.put hlt hu) (by rw [put_size]; exact hz) (by rw [put_defers]; exact hdf)
  · rw [Oper.uponIn_skip, ho]
    exact h m w _ lo n m0 L0 w0 hG f H (s.put hlt (.tuple .nil)) (by rw [put_size]; exact hz) (by rw [put_defers]; exact hdf)
/-- A step that is not wanted. -/
theorem TO.not (hg : wants ops S o.guard = some false) (ho : o.dst = some d) (hd : Nat.blt d sz = true) (h : TO P GT sz ops rest st ((d, some (.tuple [])) :: S) L K) : TO P GT sz ops (o :: rest) st S L K := by
  intro m w a lo n m0 L0 w0 hG f H s hz hdf
  simp only [wpListIn]
  rw [wants_sound s hg]
  have hlt : d < a.tmps.size := by rw [hz]; exact blt_lt hd
  simp only [Bool.false_eq_true, if_false]
  refine ⟨fun _ _ => trivial, ?_⟩
  rw [ho]
  exact h m w _ lo n m0 L0 w0 hG f H (s.put hlt (.tuple .nil)) (by rw [put_size]; exact hz) (by rw [put_defers]; exact hdf)
/-- Two ways, by what a slot holds. -/
theorem TO.ways {b : Bool} (i : Nat) (hb : sget S i = some (.bool b)) (ht : b = true → TO P GT sz ops rest st ((i, some (.bool true)) :: S) L K) (hf : b = false → TO P GT sz ops rest st ((i, some (.bool false)) :: S) L K) : TO P GT sz ops rest st S L K := by
  have key : ∀ c, b = c → TO P GT sz ops rest st ((i, some (.bool c)) :: S) L K → TO P GT sz ops rest st S L K := by
    intro c hc h m w a lo n m0 L0 w0 hG f H s hz hdf
    refine h m w a lo n m0 L0 w0 hG f H ⟨fun j v hv => ?_⟩ hz hdf
    rw [sget_cons] at hv
    by_cases e : j = i
    · rw [if_pos e] at hv; rw [← hc, ← hb, ← e] at hv; exact s.get j v hv
    · rw [if_neg e] at hv; exact s.get j v hv
  cases hb' : b with
  | true => exact key true hb' (ht hb')
  | false => exact key false hb' (hf hb')
theorem TO.less {S' : Sl} {L' : Ls} (hS : subS S' S) (hL : subH L' L) (h : TO P GT sz ops rest st S' L' K) : TO P GT sz ops rest st S L K :=
  fun m w a lo n m0 L0 w0 hG f H s hz hd => h m w a lo n m0 L0 w0 hG (f.less (subH_get hL)) (H.less (subH_get hL)) (s.less (subS_get hS)) hz hd

/-! ### New blocks -/
/-- A block is laid under a name that nothing has. -/
theorem St.alloc {m : Mp} {L : Ls} {w : World} (H : St m L w) {b lim : Nat} {o : AObj} {c : Obj} (hb : hget L b = none) (hm : menH b L = false) (ho : ORel m o ⟨w.heap.size, 0, lim⟩ c) (hmo : menO b o = false) :
    Mp.but b m (m.ext b ⟨w.heap.size, 0, lim⟩) ∧ St (m.ext b ⟨w.heap.size, 0, lim⟩) ((b, o) :: L) (w.alloc c) ∧ Fr m L w (m.ext b ⟨w.heap.size, 0, lim⟩) ((b, o) :: L) (w.alloc c) := by
  have hbut : Mp.but b m (m.ext b ⟨w.heap.size, 0, lim⟩) := ⟨fun k x hk h => by rw [Mp.ext_other _ _ hk]; exact h, fun _ _ h => h⟩
  have hold : ∀ k, k < w.heap.size → (w.alloc c).heap[k]? = w.heap[k]? := fun k hk => by
    show (w.heap.push c)[k]? = _
    rw [Array.getElem?_push, if_neg (by omega)]
  have hne : ∀ k x, hget L k = some x → k ≠ b := fun k x hk e => by rw [e, hb] at hk; cases hk
  refine ⟨hbut, ⟨?_, ?_, ?_, ?_, ?_⟩, ⟨fun _ _ h => h, rfl, rfl, rfl, by simp, fun k hk _ => hold k hk, ?_, fun _ _ h _ _ => h⟩⟩
  · obtain ⟨N, hN⟩ := H.dom
    refine ⟨max N (b + 1), fun k x hk => ?_⟩
    by_cases e : k = b
    · omega
    · rw [Mp.ext_other _ _ e] at hk; have := hN _ _ hk; omega
  · intro k x hk
    simp only [World.size_alloc]
    by_cases e : k = b
    · subst e; rw [Mp.ext_same] at hk; cases hk; simp
    · rw [Mp.ext_other _ _ e] at hk; have := H.bnd _ _ hk; omega
  · intro k o1 hk
    rw [hget_cons] at hk
    by_cases e : k = b
    · subst e
      simp only [if_true, Option.some.injEq] at hk; subst hk
      exact ⟨_, c, Mp.ext_same _ _ _, by show (w.heap.push c)[w.heap.size]? = _; simp, ho.but hbut hmo⟩
    · simp only [e, if_false] at hk
      obtain ⟨x, c', h1, h2, h3⟩ := H.obj _ _ hk
      exact ⟨x, c', by rw [Mp.ext_other _ _ e]; exact h1, by rw [hold _ (H.bnd _ _ h1)]; exact h2, h3.but hbut (menH_get hm hk)⟩
  · intro b1 b2 o1 o2 x1 x2 h1 h2 e1 e2 hc
    rw [hget_cons] at h1 h2
    by_cases f1 : b1 = b <;> by_cases f2 : b2 = b
    · rw [f1, f2]
    · subst f1
      rw [Mp.ext_same] at e1; rw [Mp.ext_other _ _ f2] at e2; cases e1
      have := H.bnd _ _ e2; simp only at hc; omega
    · subst f2
      rw [Mp.ext_same] at e2; rw [Mp.ext_other _ _ f1] at e1; cases e2
      have := H.bnd _ _ e1; simp only at hc; omega
    · rw [Mp.ext_other _ _ f1] at e1; rw [Mp.ext_other _ _ f2] at e2
      simp only [f1, f2, if_false] at h1 h2
      exact H.inj _ _ _ _ _ _ h1 h2 e1 e2 hc
  · intro c1 a hk
    obtain ⟨⟨e, fr, h1⟩, h2⟩ := H.frz c1 a hk
    have hlt := (Array.getElem?_eq_some_iff.1 h1).1
    refine ⟨⟨e, fr, by rw [hold _ hlt]; exact h1⟩, fun k o1 x g1 g2 g3 => ?_⟩
    rw [hget_cons] at g1
    by_cases e : k = b
    · subst e; rw [Mp.ext_same] at g2; cases g2; simp at g3; omega
    · rw [if_neg e] at g1; rw [Mp.ext_other _ _ e] at g2; exact h2 _ _ _ g1 g2 g3
  · intro k o1 x h1 h2 h3 hx
    rw [hget_cons] at h1
    by_cases e : k = b
    · subst e; rw [Mp.ext_same] at h3; cases h3; simp at hx
    · rw [if_neg e] at h1; rw [Mp.ext_other _ _ e] at h3; exact ⟨k, o1, x, h1, h2, h3, rfl⟩

/-- A variable of its own for a value. -/
theorem TO.box {t : TypeId} {x : Operand} {vx : AV} {cs : List AV} (b : Nat) (hg : wants ops S o.guard = some true) (hop : o.op = .box t x) (hx : sev GT S x = some vx) (hc : vx.cells = cs) (hb : hget L b = none) (hm : menH b L = false) (hs : menS b S = false)
    (hmc : AV.menL b cs = false) (ho : o.dst = some d) (hd : Nat.blt d sz = true) (h : TO P GT sz ops rest st ((d, some (.ptr b 0)) :: S) ((b, .cells cs true false) :: L) K) : TO P GT sz ops (o :: rest) st S L K := by
  intro m w a lo n m0 L0 w0 hG f H s hz hdf
  simp only [wpListIn]
  rw [wants_sound s hg]
  simp only [if_true]
  have hnd : ∀ c, o.op ≠ .defer c := by rw [hop]; intro c h; cases h
  refine ⟨fun _ _ => trivial, ?_⟩
  have hlt : d < a.tmps.size := by rw [hz]; exact blt_lt hd
  have hv := sev_sound (hG.mono f.K) s hx
  have hvc := hv.cells
  rw [hc] at hvc
  obtain ⟨hbut, r1, r2⟩ := H.alloc (lim := (a.eval x).cells.size) hb hm (cells_orel (e := t) hvc) hmc
  have hrun : (execOp a.eval o).run P w = .ok (.value (.pointer (some ⟨w.heap.size, 0, none⟩))) (w.alloc (.cells (a.eval x).cells t (0, 0))) := by
    unfold execOp; rw [hop]; simp [Instr.box, newVar, newRow]
  rw [Oper.semAt_eq _ _ _ hnd, hrun, Oper.uponIn_value]
  rw [ho]
  refine h _ _ _ lo n m0 L0 w0 hG (f.trans r2) r1 ((s.but hbut hs).put hlt ?_) (by rw [put_size]; exact hz) (by rw [put_defers]; exact hdf)
  exact VRel.ptr (x := ⟨w.heap.size, 0, (a.eval x).cells.size⟩) (o := 0) (Mp.ext_same _ _ _)
/-- A variable of its own, at its zero. -/
theorem TO.alloc {t : TypeId} {z : AV} {cs : List AV} (b : Nat) (hg : wants ops S o.guard = some true) (hop : o.op = .alloc t) (hzr : zeroA P t = some z) (hc : z.cells = cs) (hb : hget L b = none) (hm : menH b L = false) (hs : menS b S = false)
    (hmc : AV.menL b cs = false) (ho : o.dst = some d) (hd : Nat.blt d sz = true) (h : TO P GT sz ops rest st ((d, some (.ptr b 0)) :: S) ((b, .cells cs true false) :: L) K) : TO P GT sz ops (o :: rest) st S L K := by
  intro m w a lo n m0 L0 w0 hG f H s hz hdf
  simp only [wpListIn]
  rw [wants_sound s hg]
  simp only [if_true]
  have hnd : ∀ c, o.op ≠ .defer c := by rw [hop]; intro c h; cases h
  refine ⟨fun _ _ => trivial, ?_⟩
  have hlt : d < a.tmps.size := by rw [hz]; exact blt_lt hd
  obtain ⟨zv, rz, hv⟩ := zeroA_sound (P := P) (m := m) hzr w
  have hvc := hv.cells
  rw [hc] at hvc
  obtain ⟨hbut, r1, r2⟩ := H.alloc (lim := zv.cells.size) hb hm (cells_orel (e := t) hvc) hmc
  have hrun : (execOp a.eval o).run P w = .ok (.value (.pointer (some ⟨w.heap.size, 0, none⟩))) (w.alloc (.cells zv.cells t (0, 0))) := by
    unfold execOp; rw [hop]
    simp only [Instr.alloc, Sem.run_bind, rz, Result.andThen_ok]
    simp [newVar, newRow]
  rw [Oper.semAt_eq _ _ _ hnd, hrun, Oper.uponIn_value]
  rw [ho]
  refine h _ _ _ lo n m0 L0 w0 hG (f.trans r2) r1 ((s.but hbut hs).put hlt ?_) (by rw [put_size]; exact hz) (by rw [put_defers]; exact hdf)
  exact VRel.ptr (x := ⟨w.heap.size, 0, zv.cells.size⟩) (o := 0) (Mp.ext_same _ _ _)
end
end
end Go.Ev
