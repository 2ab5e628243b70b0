/-
  An evaluator of runs and its soundness, part E. No condition of its own.
-/
import Derived.Test.YtjandicpdddlaaaGreatDoorEvD
namespace Go.Ev
noncomputable section

/-! ### Operators -/
def aarith (op : BinOp) (k : IntKind) (a b : Int) : Option AV :=
  match op with
  | .add => some (.int k (wrapA k (Int.add a b)))
  | .sub => some (.int k (wrapA k (Int.sub a b)))
  | .mul => some (.int k (wrapA k (Int.mul a b)))
  | .quo => match eqI b (.ofNat 0) with | true => none | false => some (.int k (wrapA k (Int.tdiv a b)))
  | .rem => match eqI b (.ofNat 0) with | true => none | false => some (.int k (Int.tmod a b))
  | .eql => some (.bool (eqI a b))
  | .neq => some (.bool (notB (eqI a b)))
  | .lss => some (.bool (ltI a b))
  | .gtr => some (.bool (ltI b a))
  | .leq => some (.bool (notB (ltI b a)))
  | .geq => some (.bool (notB (ltI a b)))
  | .and => some (.int k (k.wrap (BitVec.toNat (BitVec.ofInt k.bits a &&& BitVec.ofInt k.bits b))))
  | .or => some (.int k (k.wrap (BitVec.toNat (BitVec.ofInt k.bits a ||| BitVec.ofInt k.bits b))))
  | .xor => some (.int k (k.wrap (BitVec.toNat (BitVec.ofInt k.bits a ^^^ BitVec.ofInt k.bits b))))
  | _ => none
def ashift (op : BinOp) (k : IntKind) (a : Int) (b : Int) : Option AV :=
  match ltI b (.ofNat 0) with
  | true => none
  | false => match op with
    | .shl => some (.int k (k.wrap (a * 2 ^ (min b.toNat k.bits))))
    | .shr => some (.int k (a.fdiv (2 ^ (min b.toNat k.bits))))
    | _ => none
def lessL : List Nat → List Nat → Bool
  | _, [] => false
  | [], _ :: _ => true
  | a :: x, b :: y => match Nat.blt a b with | true => true | false => match Nat.beq a b with | true => lessL x y | false => false
def astrop (op : BinOp) (a b : List Nat) : Option AV :=
  match op with
  | .add => match Nat.ble (Nat.add a.length b.length) 9223372036854775807 with | true => some (.str (a ++ b)) | false => none
  | .eql => some (.bool (eqL a b))
  | .neq => some (.bool (notB (eqL a b)))
  | .lss => some (.bool (lessL a b))
  | .geq => some (.bool (notB (lessL a b)))
  | _ => none
def isEq : BinOp → Option Bool
  | .eql => some true
  | .neq => some false
  | _ => none
def isK : Operand → Bool
  | .const _ => true
  | _ => false
/-- May two such values be held against one another by == or !=? (What 'eqGuard' lets through.) -/
def aguard (P : Program) (t : TypeId) (x y : Operand) (a b : AV) : Bool :=
  match a with
  | .nilIface => match b with | .nilIface => (match isK x with | true => true | false => isK y) | _ => true
  | .agg _ => match b with | .agg _ => notB (P.eqGuardType P.depth t) | _ => true
  | _ => true
def aeqOp (P : Program) (op : BinOp) (t : TypeId) (xo yo : Operand) (x y : AV) : Option AV :=
  match isEq op with
  | some e => match aguard P t xo yo x y with
    | true => match aeqIn P 10000 t x y with
      | some r => some (.bool (match e with | true => r | false => notB r))
      | none => none
    | false => none
  | none => none
def abin (P : Program) (op : BinOp) (t : TypeId) (xo yo : Operand) (x y : AV) : Option AV :=
  match x with
  | .int k a => match y with
    | .int k' b => match op with
      | .shl => ashift op k a b
      | .shr => ashift op k a b
      | _ => match Nat.beq (kIx k) (kIx k') with | true => aarith op k a b | false => none
    | _ => none
  | .str a => match y with
    | .str b => astrop op a b
    | _ => none
  | _ => aeqOp P op t xo yo x y

theorem aarith_sound {P : Program} {m : Mp} {op : BinOp} {k : IntKind} {a b : Int} {V : AV} (h : aarith op k a b = some V) (h1 : op ≠ .shl) (h2 : op ≠ .shr) (t : TypeId) :
    Pu P m (binOp op t (.int k a) (.int k b)) V := by
  intro w
  have e0 : ∀ c : Int, eqI c (.ofNat 0) = (c == 0) := fun c => eqI_eq c 0
  cases op <;> simp only [aarith, e0] at h <;> first
    | exact absurd rfl h1
    | exact absurd rfl h2
    | (cases h; done)
    | (cases h; refine ⟨_, by simp [binOp, Op.intArith, Op.intCmp, Op.intBits]; rfl, ?_⟩; (try rw [wrapA_eq]); (try rw [eqI_eq]); (try rw [ltI_eq]); (try rw [notB_eq]);
       (first | exact .int _ _ | exact .bool _ | (simp only [← decide_not, Int.not_lt]; exact .bool _)))
    | (split at h
       · cases h
       · rename_i hb
         cases h
         have hb' : b ≠ 0 := by simpa using hb
         exact ⟨_, by simp [binOp, Op.intDiv, hb']; rfl, by (try rw [wrapA_eq]); exact .int _ _⟩)
theorem ashift_sound {P : Program} {m : Mp} {op : BinOp} {k k' : IntKind} {a b : Int} {V : AV} (h : ashift op k a b = some V) (t : TypeId) :
    Pu P m (binOp op t (.int k a) (.int k' b)) V := by
  intro w
  unfold ashift at h
  split at h
  · cases h
  · rename_i hb
    have hb' : ¬ b < 0 := by
      have := ltI_eq b (.ofNat 0)
      rw [hb] at this
      have := of_decide_eq_false this.symm
      exact this
    split at h <;> cases h
    · exact ⟨_, by simp [binOp, Op.shift, hb'], .int _ _⟩
    · exact ⟨_, by simp [binOp, Op.shift, hb'], .int _ _⟩
theorem lessL_eq : ∀ (a b : List UInt8), lessL (a.map UInt8.toNat) (b.map UInt8.toNat) = Op.bytesLess a b
  | [], [] => rfl
  | _ :: _, [] => rfl
  | [], _ :: _ => rfl
  | a :: x, b :: y => by
    simp only [List.map_cons, lessL, Op.bytesLess, nat_blt, nat_beq, lessL_eq x y]
    by_cases h : a.toNat < b.toNat
    · simp [h, UInt8.lt_iff_toNat_lt]
    · have h' : ¬ a < b := by simpa [UInt8.lt_iff_toNat_lt] using h
      by_cases e : a.toNat = b.toNat
      · have : a = b := UInt8.toNat_inj.1 e
        simp [this]
      · have : a ≠ b := fun hh => e (by rw [hh])
        simp [h, h', e, this]
theorem lessL_bytes (a b : ByteArray) : lessL (bytesOf a) (bytesOf b) = Op.bytesLess a.toList b.toList := by
  rw [ByteArray.toList_eq, ByteArray.toList_eq]; exact lessL_eq _ _
theorem astrop_sound {P : Program} {m : Mp} {op : BinOp} {a b : ByteArray} {V : AV} (h : astrop op (bytesOf a) (bytesOf b) = some V) (t : TypeId) :
    Pu P m (binOp op t (.string a) (.string b)) V := by
  intro w
  cases op <;> simp only [astrop] at h <;> first
    | (cases h; done)
    | (cases h; refine ⟨_, by simp [binOp, Op.stringOp]; rfl, ?_⟩; (try rw [← bytesOf_beq]); (try rw [lessL_bytes]); (try rw [notB_eq]); exact .bool _; done)
    | skip
  split at h
  · rename_i hl
    cases h
    have hle : (bytesOf a).length + (bytesOf b).length ≤ 9223372036854775807 := Nat.le_of_ble_eq_true hl
    rw [bytesOf_length, bytesOf_length] at hle
    have hn : ¬ (((a.size + b.size : Nat) : Int) > IntKind.i64.max) := by
      have : IntKind.i64.max = 9223372036854775807 := by rfl
      rw [this]; omega
    refine ⟨.string (a ++ b), ?_, .str (bytesOf_append a b)⟩
    simp only [binOp, Op.stringOp, if_neg hn]
    rfl
  · cases h

theorem guard_skip {P : Program} {op : BinOp} {t : TypeId} {xo yo : Operand} {a b : Value} (w : World) (h1 : ∀ (_ : a = .nilIface) (_ : b = .nilIface), False) (h2 : ∀ p q, a = .agg p → b = .agg q → False) :
    (eqGuard op t xo yo a b).run P w = .ok () w := by
  cases op <;> (try rfl) <;> (unfold eqGuard; simp only [Bool.not_true, Bool.false_eq_true, if_false]; rfl)

theorem aguard_sound {P : Program} {m : Mp} {op : BinOp} {t : TypeId} {xo yo : Operand} {x y : AV} {x' y' : Value} (hx : VRel m x x') (hy : VRel m y y') (h : aguard P t xo yo x y = true) (w : World) :
    (eqGuard op t xo yo x' y').run P w = .ok () w := by
  have triv := fun {a b : Value} => guard_skip (P := P) (op := op) (t := t) (xo := xo) (yo := yo) (a := a) (b := b) w
  cases hx with
  | nilIface =>
    by_cases hz : y' = .nilIface
    case neg => exact triv (fun _ e => hz e) (fun _ _ e _ => by cases e)
    subst hz
    cases hy
    simp only [aguard] at h
    have hk2 : isK xo = true ∨ isK yo = true := by
      split at h
      · exact .inl (by assumption)
      · exact .inr h
    have hk3 : (isK xo || isK yo) = true := by rcases hk2 with h | h <;> simp [h]
    clear h hk2 triv
    cases xo <;> cases yo <;> first | (cases hk3; done) | (cases op <;> rfl)
  | agg hx =>
    cases hy with
    | agg hy =>
      simp only [aguard, notB_eq, Bool.not_eq_true'] at h
      exact run_eqGuard_agg w op t xo yo _ _ h
    | _ => exact triv (fun e _ => by cases e) (fun _ _ _ e => by cases e)
  | _ => exact triv (fun e _ => by cases e) (fun _ _ e _ => by cases e)

theorem aeqOp_sound {P : Program} {m : Mp} {op : BinOp} {t : TypeId} {xo yo : Operand} {x y : AV} {x' y' : Value} {V : AV} (hx : VRel m x x') (hy : VRel m y y') (h : aeqOp P op t xo yo x y = some V)
    (hb : ∀ (w : World), (op = .eql → (binOp op t x' y').run P w = ((Op.equal t x' y').run P w).andThen fun b w' => .ok (.bool b) w') ∧
      (op = .neq → (binOp op t x' y').run P w = ((Op.equal t x' y').run P w).andThen fun b w' => .ok (.bool (!b)) w')) :
    Pu P m (do eqGuard op t xo yo x' y'; binOp op t x' y') V := by
  intro w
  unfold aeqOp at h
  split at h
  · rename_i e he
    split at h
    · rename_i hg
      split at h
      · rename_i r hr
        cases h
        have hq := aeqIn_ok P m 10000 _ _ _ _ _ _ hr hx hy w
        have hq' : (Op.equal t x' y').run P w = .ok r w := hq
        simp only [Sem.run_bind, aguard_sound hx hy hg w, Result.andThen_ok]
        cases op <;> simp only [isEq] at he <;> (try (cases he; done))
        · cases he
          rw [(hb w).1 rfl, hq']
          exact ⟨_, rfl, .bool _⟩
        · cases he
          rw [(hb w).2 rfl, hq']
          exact ⟨_, rfl, by rw [notB_eq]; exact .bool _⟩
      · cases h
    · cases h
  · cases h

def numStr : Value → Bool
  | .int _ _ | .string _ | .float _ _ | .complex _ _ _ => true
  | _ => false
theorem binOp_eql {t : TypeId} {a b : Value} (h : numStr a = false) : binOp .eql t a b = (do pure (.bool (← Op.equal t a b))) := by
  cases a <;> first | (cases h; done) | rfl
theorem binOp_neq {t : TypeId} {a b : Value} (h : numStr a = false) : binOp .neq t a b = (do pure (.bool (!(← Op.equal t a b)))) := by
  cases a <;> first | (cases h; done) | rfl
def numStrA : AV → Bool
  | .int _ _ | .str _ => true
  | _ => false
theorem numStr_rel {m : Mp} {x : AV} {x' : Value} (h : VRel m x x') (hn : numStrA x = false) : numStr x' = false := by
  cases h <;> first | rfl | (cases hn; done)
theorem abin_sound {P : Program} {m : Mp} {op : BinOp} {t : TypeId} {xo yo : Operand} {x y : AV} {x' y' : Value} {V : AV} (hx : VRel m x x') (hy : VRel m y y') (h : abin P op t xo yo x y = some V) :
    Pu P m (do eqGuard op t xo yo x' y'; binOp op t x' y') V := by
  have strip : ∀ {a b : Value}, (∀ (_ : a = .nilIface) (_ : b = .nilIface), False) → (∀ p q, a = .agg p → b = .agg q → False) → Pu P m (binOp op t a b) V → Pu P m (do eqGuard op t xo yo a b; binOp op t a b) V := by
    intro a b n1 n2 hp w
    obtain ⟨v, e, r⟩ := hp w
    exact ⟨v, by simp only [Sem.run_bind, guard_skip w n1 n2, Result.andThen_ok]; exact e, r⟩
  by_cases hn : numStrA x = true
  · cases hx with
    | int k a =>
      cases hy with
      | int k' b =>
        refine strip (fun e _ => by cases e) (fun _ _ e _ => by cases e) ?_
        simp only [abin] at h
        split at h
        · exact ashift_sound h t
        · exact ashift_sound h t
        · rename_i n1 n2
          split at h
          · rename_i hk
            have hk' := kIx_inj hk
            subst hk'
            exact aarith_sound h (fun e => n1 e) (fun e => n2 e) t
          · cases h
      | _ => cases h
    | str hs =>
      cases hy with
      | str hs' =>
        subst hs; subst hs'
        refine strip (fun e _ => by cases e) (fun _ _ e _ => by cases e) ?_
        exact astrop_sound h t
      | _ => cases h
    | _ => cases hn
  · have hn' : numStrA x = false := by simpa using hn
    have h' : aeqOp P op t xo yo x y = some V := by
      cases x <;> first | exact h | (cases hn'; done)
    have hv := numStr_rel hx hn'
    refine aeqOp_sound hx hy h' (fun w => ⟨fun e => ?_, fun e => ?_⟩)
    · subst e; rw [binOp_eql hv]; simp
    · subst e; rw [binOp_neq hv]; simp
end
end Go.Ev
