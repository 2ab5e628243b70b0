/-
  Walks over written-out states, part I. No condition of its own.
-/
import Derived.Test.YtjandicpdddlaaaGreatDoorVH
namespace Go.Ev
noncomputable section

/-! ### Many steps at once -/
structure En where
  tt : TTab
  zt : List (Nat × AV)
  GT : GTab
def zget : List (Nat × AV) → Nat → Option AV
  | [], _ => none
  | (k, v) :: l, i => match Nat.beq i k with
    | true => some v
    | false => zget l i
structure EnOk (P : Program) (E : En) : Prop where
  tt : TabOk P E.tt
  zt : ∀ t z, zget E.zt t = some z → zeroA P t = some z
def ztB (P : Program) : List (Nat × AV) → Bool
  | [] => true
  | (t, z) :: l => andB (match zeroA P t with | some v => AV.same v z | none => false) (ztB P l)
theorem ztB_ok {P : Program} : ∀ {l : List (Nat × AV)}, ztB P l = true → ∀ t z, zget l t = some z → zeroA P t = some z
  | [], _, t, z, h => by cases h
  | (k, u) :: l, hb, t, z, h => by
    obtain ⟨h1, h2⟩ := andB_true hb
    simp only [zget, beq_iff] at h
    by_cases e : t = k
    · subst e; simp at h; subst h
      split at h1
      · rename_i v hv; rw [hv, AV.same_eq h1]
      · cases h1
    · simp [e] at h; exact ztB_ok h2 t z h
theorem EnOk.of {P : Program} {E : En} (h1 : tabB P E.tt = true) (h2 : ztB P E.zt = true) : EnOk P E := ⟨TabOk.of h1, ztB_ok h2⟩

inductive Md where
  | t (e : AEx)
  | o (ops : Array Oper) (rest : List Oper)
  | q (ops : Array Oper) (rest : List Oper)
structure Cf where
  md : Md
  st : List It2
  S : Sl
  L : Ls
  nx : Nat
def Gl (P : Program) (E : En) (sz : Nat) (K : Fin) (c : Cf) : Prop :=
  match c with
  | ⟨.t e, st, S, L, _⟩ => TT P E.GT sz st e S L K
  | ⟨.o ops rest, st, S, L, _⟩ => TO P E.GT sz ops rest st S L K
  | ⟨.q ops rest, st, S, L, _⟩ => TQ P E.GT sz ops rest st S L K

def stepC (E : En) (x : Code) (st : List It2) (S : Sl) (L : Ls) (nx : Nat) : Option Cf :=
  match x with
  | .skip => some ⟨.t .normal, st, S, L, nx⟩
  | .seq a b => some ⟨.t .normal, .code a :: .code b :: st, S, L, nx⟩
  | .block id a => some ⟨.t .normal, .code a :: .blk id :: st, S, L, nx⟩
  | .cond y a b => match sev E.GT S y with
    | some (.bool true) => some ⟨.t .normal, .code a :: st, S, L, nx⟩
    | some (.bool false) => some ⟨.t .normal, .code b :: st, S, L, nx⟩
    | _ => none
  | .exit id => some ⟨.t (.exit id), st, S, L, nx⟩
  | .ret => some ⟨.t .ret, [], S, L, nx⟩
  | .region _ ops false => some ⟨.o ops ops.toList, st, S, L, nx⟩
  | _ => none
def newB (ops : Array Oper) (rest : List Oper) (st : List It2) (S : Sl) (L : Ls) (nx : Nat) (cs : List AV) (d : Nat) : Option Cf :=
  match hget L nx with
  | none => match menH nx L with
    | false => match menS nx S with
      | false => match AV.menL nx cs with
        | false => some ⟨.o ops rest, st, (d, some (.ptr nx 0)) :: S, (nx, .cells cs true false) :: L, nx + 1⟩
        | true => none
      | true => none
    | true => none
  | some _ => none
def whole (cs : List AV) (i n : Nat) (vs : List AV) : List AV :=
  match i with
  | 0 => match Nat.beq n cs.length with
    | true => vs
    | false => spliceL cs 0 vs
  | k + 1 => spliceL cs (k + 1) vs
def stepM (E : En) (ops : Array Oper) (op : Op) (dst : Option Nat) (rest : List Oper) (st : List It2) (S : Sl) (L : Ls) (nx sz : Nat) : Option Cf :=
  match op with
  | .box _ x => match dst with
    | some d => match Nat.blt d sz with
      | true => match sev E.GT S x with
        | some v => newB ops rest st S L nx v.cells d
        | none => none
      | false => none
    | none => none
  | .alloc t => match dst with
    | some d => match Nat.blt d sz with
      | true => match zget E.zt t with
        | some z => newB ops rest st S L nx z.cells d
        | none => none
      | false => none
    | none => none
  | .store t x y => match dst with
    | none => match tsz E.tt t with
      | some n => match sev E.GT S x with
        | some (.ptr b i) => match sev E.GT S y with
          | some V => match hget L b with
            | some (.cells cs true op) => match Nat.beq V.cells.length n with
              | true => match Nat.ble (i + n) cs.length with
                | true => match V.cells.all AV.one with
                  | true => some ⟨.o ops rest, st, S, hset L b (.cells (whole cs i n V.cells) true op), nx⟩
                  | false => none
                | false => none
              | false => none
            | _ => none
          | none => none
        | _ => none
      | none => none
    | some _ => none
  | _ => none
def stepO (E : En) (ops : Array Oper) (o : Oper) (rest : List Oper) (st : List It2) (S : Sl) (L : Ls) (nx sz : Nat) : Option Cf :=
  match wants ops S o.guard with
  | some true => match opS E.tt E.GT S L o.op with
    | some v => match o.dst with
      | some d => match Nat.blt d sz with
        | true => some ⟨.o ops rest, st, (d, some v) :: S, L, nx⟩
        | false => none
      | none => none
    | none => stepM E ops o.op o.dst rest st S L nx sz
  | some false => match o.dst with
    | some d => match Nat.blt d sz with
      | true => some ⟨.o ops rest, st, (d, some (.tuple [])) :: S, L, nx⟩
      | false => none
    | none => none
  | none => none
def stepQ (E : En) (ops : Array Oper) (o : Oper) (rest : List Oper) (st : List It2) (S : Sl) (L : Ls) (nx sz : Nat) : Option Cf :=
  match wants ops S o.guard with
  | some true => match opS E.tt E.GT S L o.op with
    | some v => match o.dst with
      | some d => match Nat.blt d sz with
        | true => some ⟨.q ops rest, st, (d, some v) :: S, L, nx⟩
        | false => none
      | none => none
    | none => none
  | some false => match o.dst with
    | some d => match Nat.blt d sz with
      | true => some ⟨.q ops rest, st, (d, some (.tuple [])) :: S, L, nx⟩
      | false => none
    | none => none
  | none => none
def step (E : En) (sz : Nat) (c : Cf) : Option Cf :=
  match c with
  | ⟨.t .normal, .code x :: st, S, L, nx⟩ => stepC E x st S L nx
  | ⟨.t .normal, .blk _ :: st, S, L, nx⟩ => some ⟨.t .normal, st, S, L, nx⟩
  | ⟨.t (.exit id), .code _ :: st, S, L, nx⟩ => some ⟨.t (.exit id), st, S, L, nx⟩
  | ⟨.t (.exit id), .back _ :: st, S, L, nx⟩ => some ⟨.t (.exit id), st, S, L, nx⟩
  | ⟨.t (.exit id), .blk id' :: st, S, L, nx⟩ => match Nat.beq id id' with
    | true => some ⟨.t .normal, st, S, L, nx⟩
    | false => some ⟨.t (.exit id), st, S, L, nx⟩
  | ⟨.o _ [], st, S, L, nx⟩ => some ⟨.t .normal, st, S, L, nx⟩
  | ⟨.o ops (o :: rest), st, S, L, nx⟩ => stepO E ops o rest st S L nx sz
  | ⟨.q _ [], st, S, L, nx⟩ => some ⟨.t .normal, st, S, L, nx⟩
  | ⟨.q ops (o :: rest), st, S, L, nx⟩ => stepQ E ops o rest st S L nx sz
  | _ => none
def steps (E : En) (sz : Nat) : Nat → Cf → Option Cf
  | 0, c => some c
  | n + 1, c => match step E sz c with
    | some c' => steps E sz n c'
    | none => none

section
variable {P : Program} {E : En} {sz : Nat} {K : Fin}
theorem TT.retNil {GT : GTab} {S : Sl} {L : Ls} (h : TT P GT sz [] .ret S L K) : ∀ (st : List It2), TT P GT sz st .ret S L K
  | [] => h
  | .code c :: st => by
    intro m w a lo n m0 L0 w0 hG f H s hz hd e' he
    cases he
    exact TT.retNil h st m w a lo n m0 L0 w0 hG f H s hz hd _ .ret
  | .blk id :: st => by
    intro m w a lo n m0 L0 w0 hG f H s hz hd e' he
    cases he
    exact TT.retNil h st m w a lo n m0 L0 w0 hG f H s hz hd _ .ret
  | .back J :: st => by
    intro m w a lo n m0 L0 w0 hG f H s hz hd e' he
    cases he
    exact TT.retNil h st m w a lo n m0 L0 w0 hG f H s hz hd _ .ret
theorem stepC_ok {x : Code} {st : List It2} {S : Sl} {L : Ls} {nx : Nat} {c' : Cf} (h : stepC E x st S L nx = some c') (k : Gl P E sz K c') : TT P E.GT sz (.code x :: st) .normal S L K := by
  unfold stepC at h
  split at h
  · cases h; exact TT.skip k
  · cases h; exact TT.seq k
  · cases h; exact TT.block k
  · split at h
    · rename_i hc; cases h; exact TT.cond hc (fun _ => k) (fun h => by cases h)
    · rename_i hc; cases h; exact TT.cond hc (fun h => by cases h) (fun _ => k)
    · cases h
  · cases h; exact TT.exit k
  · cases h; exact TT.ret (TT.retNil k st)
  · cases h; exact TT.region k
  · cases h
theorem whole_eq {cs : List AV} {i n : Nat} {vs : List AV} (h1 : Nat.beq vs.length n = true) : whole cs i n vs = spliceL cs i vs := by
  unfold whole
  split
  · split
    · rename_i hb
      have := beq_eq hb
      have h2 := beq_eq h1
      unfold spliceL
      rw [List.take_zero, List.nil_append, List.drop_of_length_le (by omega), List.append_nil]
    · rfl
  · rfl
theorem stepM_ok {ops : Array Oper} {o : Oper} {rest : List Oper} {st : List It2} {S : Sl} {L : Ls} {nx : Nat} {c' : Cf} (hE : EnOk P E) (hw : wants ops S o.guard = some true) (h : stepM E ops o.op o.dst rest st S L nx sz = some c') (k : Gl P E sz K c') :
    TO P E.GT sz ops (o :: rest) st S L K := by
  unfold stepM at h
  split at h
  · rename_i t x hop
    split at h
    · rename_i d hd
      split at h
      · rename_i hlt
        split at h
        · rename_i v hv
          unfold newB at h
          split at h
          · rename_i h1
            split at h
            · rename_i h2
              split at h
              · rename_i h3
                split at h
                · rename_i h4
                  cases h
                  exact TO.box nx hw hop hv rfl h1 h2 h3 h4 hd hlt k
                · cases h
              · cases h
            · cases h
          · cases h
        · cases h
      · cases h
    · cases h
  · rename_i t hop
    split at h
    · rename_i d hd
      split at h
      · rename_i hlt
        split at h
        · rename_i z hz
          unfold newB at h
          split at h
          · rename_i h1
            split at h
            · rename_i h2
              split at h
              · rename_i h3
                split at h
                · rename_i h4
                  cases h
                  exact TO.alloc nx hw hop (hE.zt _ _ hz) rfl h1 h2 h3 h4 hd hlt k
                · cases h
              · cases h
            · cases h
          · cases h
        · cases h
      · cases h
    · cases h
  · rename_i t x y hop
    split at h
    · rename_i hd
      split at h
      · rename_i n hn
        split at h
        · rename_i b i hx
          split at h
          · rename_i V hy
            split at h
            · rename_i cs op hb
              split at h
              · rename_i h1
                split at h
                · rename_i h2
                  split at h
                  · rename_i h3
                    cases h
                    have k' : TO P E.GT sz ops rest st S (hset L b (.cells (whole cs i n V.cells) true op)) K := k
                    rw [whole_eq h1] at k'
                    exact TO.store hw hop (tsz_ok hE.tt hn) hx hy hb h1 h2 h3 hd k'
                  · cases h
                · cases h
              · cases h
            · cases h
          · cases h
        · cases h
      · cases h
    · cases h
  · cases h
theorem stepO_ok {ops : Array Oper} {o : Oper} {rest : List Oper} {st : List It2} {S : Sl} {L : Ls} {nx : Nat} {c' : Cf} (hE : EnOk P E) (h : stepO E ops o rest st S L nx sz = some c') (k : Gl P E sz K c') :
    TO P E.GT sz ops (o :: rest) st S L K := by
  unfold stepO at h
  split at h
  · rename_i hw
    split at h
    · rename_i v hv
      split at h
      · rename_i d hd
        split at h
        · rename_i hlt; cases h; exact TO.op hw (opS_ok hE.tt hv) hd hlt k
        · cases h
      · cases h
    · exact stepM_ok hE hw h k
  · rename_i hw
    split at h
    · rename_i d hd
      split at h
      · rename_i hlt; cases h; exact TO.not hw hd hlt k
      · cases h
    · cases h
  · cases h
theorem stepQ_ok {ops : Array Oper} {o : Oper} {rest : List Oper} {st : List It2} {S : Sl} {L : Ls} {nx : Nat} {c' : Cf} (hE : EnOk P E) (h : stepQ E ops o rest st S L nx sz = some c') (k : Gl P E sz K c') :
    TQ P E.GT sz ops (o :: rest) st S L K := by
  unfold stepQ at h
  split at h
  · rename_i hw
    split at h
    · rename_i v hv
      split at h
      · rename_i d hd
        split at h
        · rename_i hlt; cases h; exact TQ.op hw (opS_ok hE.tt hv) hd hlt k
        · cases h
      · cases h
    · cases h
  · rename_i hw
    split at h
    · rename_i d hd
      split at h
      · rename_i hlt; cases h; exact TQ.not hw hd hlt k
      · cases h
    · cases h
  · cases h
theorem step_ok (hE : EnOk P E) {c c' : Cf} (h : step E sz c = some c') (k : Gl P E sz K c') : Gl P E sz K c := by
  unfold step at h
  split at h
  · exact stepC_ok h k
  · cases h; exact TT.blkEnd k
  · cases h; exact TT.exitCode k
  · cases h; exact TT.exitBack k
  · split at h
    · rename_i hb
      cases h
      have := beq_eq hb
      subst this
      exact TT.exitHere k
    · rename_i hb; cases h; exact TT.exitOn hb k
  · cases h; exact TO.nil k
  · exact stepO_ok hE h k
  · cases h; exact TQ.nil k
  · exact stepQ_ok hE h k
  · cases h
theorem steps_ok (hE : EnOk P E) : ∀ (n : Nat) {c c' : Cf}, steps E sz n c = some c' → Gl P E sz K c' → Gl P E sz K c
  | 0, c, c', h, k => by cases h; exact k
  | n + 1, c, c', h, k => by
    simp only [steps] at h
    split at h
    · rename_i c1 h1; exact step_ok hE h1 (steps_ok hE n h k)
    · cases h
/-- Many steps at once, from the rest of a function, or of a region. -/
theorem TT.run (hE : EnOk P E) (n nx : Nat) {e : AEx} {st : List It2} {S : Sl} {L : Ls} {c' : Cf} (h : steps E sz n ⟨.t e, st, S, L, nx⟩ = some c') (k : Gl P E sz K c') : TT P E.GT sz st e S L K := steps_ok hE n h k
theorem TQ.run (hE : EnOk P E) (n nx : Nat) {ops : Array Oper} {rest : List Oper} {st : List It2} {S : Sl} {L : Ls} {c' : Cf} (h : steps E sz n ⟨.q ops rest, st, S, L, nx⟩ = some c') (k : Gl P E sz K c') : TQ P E.GT sz ops rest st S L K := steps_ok hE n h k
theorem TO.run (hE : EnOk P E) (n nx : Nat) {ops : Array Oper} {rest : List Oper} {st : List It2} {S : Sl} {L : Ls} {c' : Cf} (h : steps E sz n ⟨.o ops rest, st, S, L, nx⟩ = some c') (k : Gl P E sz K c') : TO P E.GT sz ops rest st S L K := steps_ok hE n h k

theorem TO.waysG {GT : GTab} {st : List It2} {S : Sl} {L : Ls} {ops : Array Oper} {rest : List Oper} {o : Oper} {b : Bool} {i : Nat} (_hg : gslot ops o.guard = some i) (hb : sget S i = some (.bool b)) (ht : b = true → TO P GT sz ops (o :: rest) st ((i, some (.bool true)) :: S) L K)
    (hf : b = false → TO P GT sz ops (o :: rest) st ((i, some (.bool false)) :: S) L K) : TO P GT sz ops (o :: rest) st S L K := TO.ways i hb ht hf
theorem OV.rowE (hE : EnOk P E) {S : Sl} {L : Ls} {o : Oper} {α : Type} [Inhabited α] {e : α → List AV} {l : List α} {t et n : Nat} {i : Int} {x y : Operand} {k : IntKind} (ht : tget E.tt t = some (.sl et n))
    (ho : o.op = .indexAddr t x y) (hx : sev E.GT S x = some (.lst l.length (flat e l))) (hy : sev E.GT S y = some (.int k i)) (h0 : 0 ≤ i) (hn : i < (l.length : Int)) (he : ∀ x, (e x).length = n) : OV P E.GT S L o (.fptr (e (nth l i))) :=
  OV.rowF (hE.tt _ _ ht).1 (hE.tt _ _ ht).2.1 ho hx hy h0 hn he
end
end
end Go.Ev
