/-
  An evaluator of runs and its soundness, part F. No condition of its own.
-/
import Derived.Test.YtjandicpdddlaaaGreatDoorEvE
import Derived.Laws.BytesString
namespace Go.Ev
noncomputable section

/-! ### One operand -/
def aun (op : UnOp) (x : AV) : Option AV :=
  match op with
  | .neg => match x with | .int k n => some (.int k (wrapA k (Int.sub (.ofNat 0) n))) | _ => none
  | .not => match x with | .bool b => some (.bool (notB b)) | _ => none
  | _ => none
theorem aun_sound {P : Program} {m : Mp} {op : UnOp} {x : AV} {x' : Value} {V : AV} (hx : VRel m x x') (h : aun op x = some V) : Pu P m (Op.unary op x') V := by
  intro w
  unfold aun at h
  split at h
  · split at h
    · cases h; cases hx
      rename_i k n
      refine ⟨.int k (k.wrap (0 - n)), rfl, ?_⟩
      rw [wrapA_eq]; exact .int _ _
    · cases h
  · split at h
    · cases h; cases hx
      exact ⟨_, by simp [Op.unary]; rfl, by rw [notB_eq]; exact .bool _⟩
    · cases h
  · cases h

def aconv (P : Program) (src dst : TypeId) (x : AV) : Option AV :=
  match P.underlying src with
  | some _ => match P.underlying dst with
    | some d => match x with
      | .int _ n => match d with | .int k => some (.int k (wrapA k n)) | _ => none
      | .str l => match d with | .string => some (.str l) | _ => none
      | _ => none
    | none => none
  | none => none
theorem aconv_sound {P : Program} {m : Mp} {src dst : TypeId} {x : AV} {x' : Value} {V : AV} (hx : VRel m x x') (h : aconv P src dst x = some V) : Pu P m (convert src dst x') V := by
  intro w
  unfold aconv at h
  split at h
  · rename_i s hs
    split at h
    · rename_i d hd
      split at h
      · split at h
        · cases h; cases hx
          exact ⟨_, by simp [convert, run_und w hs, run_und w hd, Conv.intToInt]; rfl, by rw [wrapA_eq]; exact .int _ _⟩
        · cases h
      · split at h
        · cases h; cases hx with
          | str hh => exact ⟨_, by simp [convert, run_und w hs, run_und w hd], .str hh⟩
        · cases h
      · cases h
    · cases h
  · cases h

def afield (P : Program) (t : TypeId) (x : AV) (f : Nat) : Option AV :=
  match P.underlying t with
  | some (.struct fs) => match fs[f]? with
    | some fd => match x with | .agg cs => apart P fd.type cs fd.offset | _ => none
    | none => none
  | _ => none
theorem afield_sound {P : Program} {m : Mp} {t : TypeId} {x : AV} {x' : Value} {f : Nat} {V : AV} (hx : VRel m x x') (h : afield P t x f = some V) : Pu P m (Instr.field t x' f) V := by
  intro w
  unfold afield at h
  split at h
  · rename_i fs hs
    split at h
    · rename_i fd hf
      split at h
      · cases hx with
        | agg hc =>
          obtain ⟨v, r, hv⟩ := part_sound hc h w
          exact ⟨v, by simp [Instr.field, run_und w hs, hf, asAgg, r], hv⟩
      · cases h
    · cases h
  · cases h

def natOf : AV → Option Nat
  | .int _ (.ofNat n) => some n
  | _ => none
def aindex (P : Program) (t : TypeId) (x i : AV) : Option AV :=
  match natOf i with
  | some j => match P.underlying t with
    | some (.array len e) => match x with
      | .agg cs => match Nat.blt j len with
        | true => match P.info? e with | some ie => apart P e cs (Nat.mul j ie.size) | none => none
        | false => none
      | _ => none
    | some .string => match x with
      | .str l => match l[j]? with | some b => some (.int .u8 (.ofNat b)) | none => none
      | _ => none
    | _ => none
  | none => none
theorem natOf_rel {m : Mp} {i : AV} {i' : Value} {j : Nat} (hi : VRel m i i') (h : natOf i = some j) : ∃ k, i' = .int k (j : Int) := by
  cases hi <;> first | (cases h; done) | skip
  rename_i k n
  cases n with
  | ofNat n => cases h; exact ⟨k, rfl⟩
  | negSucc n => cases h
theorem blt_lt {a b : Nat} (h : Nat.blt a b = true) : a < b := by rw [nat_blt] at h; exact of_decide_eq_true h
theorem aindex_sound {P : Program} {m : Mp} {t : TypeId} {x i : AV} {x' i' : Value} {V : AV} (hx : VRel m x x') (hi : VRel m i i') (h : aindex P t x i = some V) : Pu P m (Instr.index t x' i') V := by
  intro w
  unfold aindex at h
  split at h
  · rename_i j hj
    obtain ⟨k, rfl⟩ := natOf_rel hi hj
    split at h
    · rename_i len e ht
      split at h
      · split at h
        · rename_i hlt
          split at h
          · rename_i ie hie
            cases hx with
            | agg hc =>
              obtain ⟨v, r, hv⟩ := part_sound hc h w
              have hlt' := blt_lt hlt
              have r' : (part e _ (j * ie.size)).run P w = .ok v w := r
              exact ⟨v, by simp [Instr.index, asIntOf, run_und w ht, hlt', run_size w hie, r'], hv⟩
          · cases h
        · cases h
      · cases h
    · rename_i ht
      split at h
      · split at h
        · rename_i b hb
          cases h
          cases hx with
          | @str _ s l hs =>
            subst hs
            have : ∃ u, s[j]? = some u ∧ u.toNat = b := by
              unfold bytesOf at hb
              rw [List.getElem?_map] at hb
              cases e : s.data.toList[j]? with
              | none => rw [e] at hb; cases hb
              | some u =>
                rw [e] at hb
                simp only [Option.map_some, Option.some.injEq] at hb
                refine ⟨u, ?_, hb⟩
                have hlt : j < s.data.size := by
                  have := (List.getElem?_eq_some_iff.1 e).1
                  simpa using this
                have : j < s.size := hlt
                rw [getElem?_pos s j this]
                have e2 : s.data.toList[j]? = some s.data[j] := by simp
                rw [e2] at e
                cases e
                rfl
            obtain ⟨u, hu, hub⟩ := this
            subst hub
            refine ⟨_, ?_, .int _ _⟩
            simp [Instr.index, asIntOf, run_und w ht, hu]
        · cases h
      · cases h
    · cases h
  · cases h

def aextract (x : AV) (i : Nat) : Option AV :=
  match x with
  | .tuple vs => vs[i]?
  | _ => none
theorem aextract_sound {P : Program} {m : Mp} {x : AV} {x' : Value} {i : Nat} {V : AV} (hx : VRel m x x') (h : aextract x i = some V) : Pu P m (Instr.extract x' i) V := by
  intro w
  cases hx <;> first | (cases h; done) | skip
  rename_i cs cs' hc
  obtain ⟨v, e, r⟩ := hc.get h
  have : cs'[i]? = some v := by simpa using e
  exact ⟨v, by simp [Instr.extract, this], r⟩

/-! ### Addresses -/
def afieldAddr (P : Program) (t : TypeId) (x : AV) (f : Nat) : Option AV :=
  match P.underlying t with
  | some (.struct fs) => match fs[f]? with
    | some fd => match P.info? fd.type with
      | some i => match i.size with
        | 0 => none
        | _ + 1 => match x with | .ptr b o => some (.ptr b (Nat.add o fd.offset)) | _ => none
      | none => none
    | none => none
  | _ => none
theorem afieldAddr_sound {P : Program} {m : Mp} {t : TypeId} {x : AV} {x' : Value} {f : Nat} {V : AV} (hx : VRel m x x') (h : afieldAddr P t x f = some V) : Pu P m (Instr.fieldAt t x' f) V := by
  intro w
  unfold afieldAddr at h
  split at h
  · rename_i fs hs
    split at h
    · rename_i fd hf
      split at h
      · rename_i i hi
        split at h
        · cases h
        · rename_i n hn
          split at h
          · cases h
            cases hx with
            | ptr hm =>
              refine ⟨_, ?_, .ptr hm⟩
              have hz : ¬ (i.size = 0) := by omega
              simp [Instr.fieldAt, run_und w hs, hf, Instr.sureAddr, fieldPlace, run_size w hi, hz, addr_add, Nat.add_assoc]
          · cases h
      · cases h
    · cases h
  · cases h

def aindexAddr (P : Program) (t : TypeId) (x i : AV) : Option AV :=
  match natOf i with
  | some j => match P.underlying t with
    | some (.array len e) => match x with
      | .ptr b o => match Nat.blt j len with
        | true => match P.info? e with | some ie => some (.ptr b (Nat.add o (Nat.mul j ie.size))) | none => none
        | false => none
      | _ => none
    | some (.slice e) => match x with
      | .slice b o len _ => match Nat.blt j len with
        | true => match P.info? e with | some ie => some (.ptr b (Nat.add o (Nat.mul j ie.size))) | none => none
        | false => none
      | _ => none
    | _ => none
  | none => none
theorem aindexAddr_sound {P : Program} {m : Mp} {t : TypeId} {x i : AV} {x' i' : Value} {V : AV} (hx : VRel m x x') (hi : VRel m i i') (h : aindexAddr P t x i = some V) : Pu P m (Instr.indexAt t x' i') V := by
  intro w
  unfold aindexAddr at h
  split at h
  · rename_i j hj
    obtain ⟨k, rfl⟩ := natOf_rel hi hj
    split at h
    · rename_i len e ht
      split at h
      · split at h
        · rename_i hlt
          split at h
          · rename_i ie hie
            cases h
            cases hx with
            | ptr hm =>
              have hlt' := blt_lt hlt
              refine ⟨_, ?_, .ptr hm⟩
              simp [Instr.indexAt, asIntOf, run_und w ht, Instr.sureAddr, hlt', run_size w hie, addr_add, Nat.add_assoc]
          · cases h
        · cases h
      · cases h
    · rename_i e ht
      split at h
      · split at h
        · rename_i hlt
          split at h
          · rename_i ie hie
            cases h
            cases hx with
            | slice hm hc hl =>
              have hlt' := blt_lt hlt
              refine ⟨_, ?_, .ptr hm⟩
              simp [Instr.indexAt, asIntOf, run_und w ht, hlt', run_size w hie, addr_add, Nat.add_assoc]
          · cases h
        · cases h
      · cases h
    · cases h
  · cases h

/-! ### Small ones -/
def apick (c a b : AV) : Option AV := match c with | .bool true => some a | .bool false => some b | _ => none
theorem apick_sound {P : Program} {m : Mp} {c a b : AV} {c' a' b' : Value} {V : AV} (hc : VRel m c c') (ha : VRel m a a') (hb : VRel m b b') (h : apick c a b = some V) :
    Pu P m (do pure (if ← asBool c' then a' else b')) V := by
  intro w
  cases hc <;> first | (cases h; done) | skip
  rename_i t
  cases t <;> (cases h; simp [asBool]; assumption)

def anil (x : AV) : Option AV :=
  match x with
  | .ptr _ _ => some x
  | .func _ _ _ => some x
  | .yield _ => some x
  | .iface _ _ => some x
  | _ => none

def amkIface (P : Program) (t : TypeId) (x : AV) : Option AV :=
  match P.underlying t with
  | some (.interface _) => none
  | some _ => some (.iface t x)
  | none => none
theorem amkIface_sound {P : Program} {m : Mp} {t : TypeId} {x : AV} {x' : Value} {V : AV} (hx : VRel m x x') (h : amkIface P t x = some V) : Pu P m (Instr.makeInterface t x') V := by
  intro w
  unfold amkIface at h
  split at h
  · cases h
  · rename_i d hn hd
    cases h
    refine ⟨_, ?_, .iface t hx⟩
    simp only [Instr.makeInterface, Sem.run_bind, run_und w hd, Result.andThen_ok]
    rfl
  · cases h

def zeroA (P : Program) (t : TypeId) : Option AV :=
  match P.info? t with
  | some i => match i.zero with
    | some v => ofV v
    | none => none
  | none => none
theorem zeroA_sound {P : Program} {m : Mp} {t : TypeId} {V : AV} (h : zeroA P t = some V) : Pu P m (zeroValue t) V := by
  intro w
  unfold zeroA at h
  split at h
  · rename_i i hi
    split at h
    · rename_i v hv; exact ⟨v, run_zero w hi hv, ofV_rel m v V h⟩
    · cases h
  · cases h

def isIfaceD : TypeDesc → Bool
  | .interface _ => true
  | _ => false
/-- Of an asserted type that is no interface. -/
def aassert (P : Program) (x : AV) (asserted : TypeId) (ok : Bool) : Option AV :=
  match P.underlying asserted with
  | some d => match isIfaceD d with
    | true => none
    | false => match x with
      | .iface t v => match Nat.beq t asserted with
        | true => some (match ok with | true => .tuple [v, .bool true] | false => v)
        | false => match ok with
          | true => match zeroA P asserted with | some z => some (.tuple [z, .bool false]) | none => none
          | false => none
      | .nilIface => match ok with
        | true => match zeroA P asserted with | some z => some (.tuple [z, .bool false]) | none => none
        | false => none
      | _ => none
  | none => none
theorem aassert_sound {P : Program} {m : Mp} {x : AV} {x' : Value} {xt asserted : TypeId} {ok : Bool} {V : AV} (hx : VRel m x x') (h : aassert P x asserted ok = some V) :
    Pu P m (Instr.typeAssert x' xt asserted ok) V := by
  intro w
  unfold aassert at h
  split at h
  · rename_i d hd
    split at h
    · cases h
    · rename_i hni
      split at h
      · rename_i t v
        cases hx with
        | @iface _ _ _ v' hv =>
          split at h
          · rename_i e
            cases h
            have e' : t = asserted := Nat.eq_of_beq_eq_true e
            subst e'
            refine ⟨if ok then .tuple #[v', .bool true] else v', ?_, ?_⟩
            · cases d <;> first | (cases hni; done) | simp [Instr.typeAssert, run_und w hd]
            · cases ok
              · exact hv
              · exact .tuple (.cons hv (.cons (.bool _) .nil))
          · rename_i e
            have e' : t ≠ asserted := Nat.ne_of_beq_eq_false e
            split at h
            · split at h
              · rename_i z hz
                cases h
                obtain ⟨z', rz, vz⟩ := zeroA_sound (m := m) hz w
                refine ⟨.tuple #[z', .bool false], ?_, .tuple (.cons vz (.cons (.bool _) .nil))⟩
                cases d <;> first | (cases hni; done) | simp [Instr.typeAssert, run_und w hd, e', rz]
              · cases h
            · cases h
      · cases hx with
        | nilIface =>
          split at h
          · split at h
            · rename_i z hz
              cases h
              obtain ⟨z', rz, vz⟩ := zeroA_sound (m := m) hz w
              refine ⟨.tuple #[z', .bool false], ?_, .tuple (.cons vz (.cons (.bool _) .nil))⟩
              cases d <;> first | (cases hni; done) | simp [Instr.typeAssert, run_und w hd, rz]
            · cases h
          · cases h
      · cases h
  · cases h

/-! ### Slices of slices and of strings -/
def natOr (x : Option AV) (d : Nat) : Option Nat :=
  match x with
  | none => some d
  | some v => natOf v
/-- Is a slice's capacity surely so great? (K: cells known behind the block's begin.) -/
def capGe (h : Hp) (b o : Nat) (cap : Cap) (len n : Nat) : Bool :=
  match Nat.ble n len with
  | true => true
  | false => match cap with
    | .ex k => Nat.ble n k
    | .te sz => match sz with
      | 0 => false
      | s + 1 => match h.get b with
        | some (.cells cs _ _) => Nat.ble (Nat.add o (Nat.mul n (s + 1))) cs.length
        | _ => false
def asliceOf (P : Program) (h : Hp) (t : TypeId) (x : AV) (lo hi mx : Option AV) : Option AV :=
  match P.underlying t with
  | some .string => match x, mx with
    | .str l, none => match natOr hi l.length with
      | some e => match natOr lo 0 with
        | some s => match Nat.ble s e, Nat.ble e l.length with
          | true, true => some (.str ((l.take e).drop s))
          | _, _ => none
        | none => none
      | none => none
    | _, _ => none
  | some (.slice e) => match P.info? e with
    | some ie => match x with
      | .slice b o len cap => match natOr hi len with
        | some hh => match natOr lo 0 with
          | some l => match Nat.ble l hh with
            | true => match mx with
              | none => match capGe h b o cap len hh with
                | true => match cap with
                  | .ex k => match Nat.beq k l with
                    | true => some (.slice b o (Nat.sub hh l) (.ex 0))
                    | false => some (.slice b (Nat.add o (Nat.mul l ie.size)) (Nat.sub hh l) (.ex (Nat.sub k l)))
                  | .te sz => match Nat.beq sz ie.size with
                    | true => match l with
                      | 0 => some (.slice b o hh cap)
                      | _ + 1 => match Nat.blt l len with
                        | true => some (.slice b (Nat.add o (Nat.mul l ie.size)) (Nat.sub hh l) cap)
                        | false => match Nat.beq l hh with | true => some .empty | false => none
                    | false => none
                | false => none
              | some mv => match natOf mv with
                | some mm => match Nat.ble hh mm, capGe h b o cap len mm with
                  | true, true => match Nat.beq mm l with
                    | true => some (.slice b o (Nat.sub hh l) (.ex 0))
                    | false => some (.slice b (Nat.add o (Nat.mul l ie.size)) (Nat.sub hh l) (.ex (Nat.sub mm l)))
                  | _, _ => none
                | none => none
            | false => none
          | none => none
        | none => none
      | .nilSlice => match natOr hi 0, natOr lo 0, natOr mx 0 with
        | some 0, some 0, some 0 => some .nilSlice
        | _, _, _ => none
      | .empty => match natOr hi 0, natOr lo 0, natOr mx 0 with
        | some 0, some 0, some 0 => some .empty
        | _, _, _ => none
      | _ => none
    | none => none
  | some (.array n e) => match P.info? e with
    | some ie => match x with
      | .ptr b o => match natOr hi n, natOr lo 0, natOr mx n with
        | some hh, some l, some mm => match Nat.ble l hh, Nat.ble hh mm, Nat.ble mm n with
          | true, true, true => match Nat.beq mm l with
            | true => some (.slice b o (Nat.sub hh l) (.ex 0))
            | false => some (.slice b (Nat.add o (Nat.mul l ie.size)) (Nat.sub hh l) (.ex (Nat.sub mm l)))
          | _, _, _ => none
        | _, _, _ => none
      | _ => none
    | none => none
  | _ => none

theorem capGe_sound {m : Mp} {h : Hp} {w : World} (H : HRel m h w) {b o len n c : Nat} {cap : Cap} {x : Blk} (hm : m b = some x) (hc : CapRel x o cap c) (hl : len ≤ c) (hg : capGe h b o cap len n = true) : n ≤ c := by
  unfold capGe at hg
  split at hg
  · rename_i e; exact Nat.le_trans (Nat.le_of_ble_eq_true e) hl
  · split at hg
    · rename_i k; cases hc; exact Nat.le_of_ble_eq_true hg
    · rename_i sz
      split at hg
      · cases hg
      · rename_i s
        split at hg
        · rename_i cs wr op hb
          obtain ⟨x', arr, e, fr, h1, h2, h3, h4, h5, h6, h7⟩ := H.cells hb
          rw [hm] at h1; cases h1
          have hle : o + n * (s + 1) ≤ cs.length := Nat.le_of_ble_eq_true hg
          have hc' : x.base + o + c * (s + 1) = x.lim := hc
          have : n * (s + 1) ≤ c * (s + 1) := by omega
          exact Nat.le_of_mul_le_mul_right this (Nat.succ_pos s)
        · cases hg

theorem sliceBound_ok {P : Program} (w : World) (k : IntKind) (n y : Nat) (code : BoundsCode) (h : n ≤ y) : (Instr.sliceBound (.int k (n : Int)) y code).run P w = .ok n w := by
  have : (0 : Int) ≤ n ∧ (n : Int) ≤ y := ⟨by omega, by omega⟩
  simp [Instr.sliceBound, asIntOf, h]

def ORelV (m : Mp) : Option AV → Option Value → Prop
  | none, none => True
  | some v, some v' => VRel m v v'
  | _, _ => False
theorem natOr_rel {m : Mp} {x : Option AV} {x' : Option Value} {d n : Nat} (hx : ORelV m x x') (h : natOr x d = some n) :
    (x' = none ∧ n = d) ∨ ∃ k, x' = some (.int k (n : Int)) := by
  cases x with
  | none =>
    cases x' with
    | none => cases h; exact .inl ⟨rfl, rfl⟩
    | some _ => exact hx.elim
  | some v =>
    cases x' with
    | none => exact hx.elim
    | some v' => obtain ⟨k, rfl⟩ := natOf_rel hx h; exact .inr ⟨k, rfl⟩
/-- The three bounds of a slice expression. -/
theorem bounds_ok {P : Program} (w : World) (isS : Bool) (len cap l hh mm : Nat) (lo hi mx : Option Value)
    (h1 : (lo = none ∧ l = 0) ∨ ∃ k, lo = some (.int k (l : Int))) (h2 : (hi = none ∧ hh = len ∧ mx = none) ∨ ∃ k, hi = some (.int k (hh : Int)))
    (h3 : (mx = none ∧ mm = cap) ∨ ∃ k, mx = some (.int k (mm : Int))) (a : l ≤ hh) (b : hh ≤ mm) (c : mm ≤ cap) :
    (Instr.sliceBounds isS len cap lo hi mx).run P w = .ok (l, hh, mm) w := by
  unfold Instr.sliceBounds
  rcases h3 with ⟨rfl, rfl⟩ | ⟨k3, rfl⟩
  · rcases h2 with ⟨rfl, rfl, _⟩ | ⟨k2, rfl⟩
    · rcases h1 with ⟨rfl, rfl⟩ | ⟨k1, rfl⟩
      · simp
      · simp [sliceBound_ok w k1 l hh _ a]
    · rcases h1 with ⟨rfl, rfl⟩ | ⟨k1, rfl⟩
      · simp [sliceBound_ok w k2 hh mm _ b]
      · simp [sliceBound_ok w k2 hh mm _ b, sliceBound_ok w k1 l hh _ a]
  · rcases h2 with ⟨_, _, e⟩ | ⟨k2, rfl⟩
    · cases e
    · rcases h1 with ⟨rfl, rfl⟩ | ⟨k1, rfl⟩
      · simp [sliceBound_ok w k3 mm cap _ c, sliceBound_ok w k2 hh mm _ b]
      · simp [sliceBound_ok w k3 mm cap _ c, sliceBound_ok w k2 hh mm _ b, sliceBound_ok w k1 l hh _ a]
end
end Go.Ev
