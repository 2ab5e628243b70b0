/-
  An evaluator of runs and its soundness, part K. No condition of its own.
-/
import Derived.Test.YtjandicpdddlaaaGreatDoorEvJ
namespace Go.Ev
noncomputable section

/-! ### make, len, cap, min, max, copy -/
def amakeSlice (P : Program) (h : Hp) (t : TypeId) (l c : AV) : Option (AV × Hp) :=
  match P.underlying t with
  | some (.slice e) => match P.info? e with
    | some ie => match natOf l, natOf c with
      | some l, some c => match Nat.ble l c, Nat.ble c 281474976710656, Nat.ble (Nat.mul ie.bytes c) 281474976710656 with
        | true, true, true => match Nat.mul c ie.size with
          | 0 => some (.slice h.next 0 l (.ex c), h.alloc (.cells [] true false))
          | _ + 1 => match zeroA P e with
            | some z => match Nat.ble 1 z.cells.length with
              | true => some (.slice h.next 0 l (.ex c), h.alloc (.cells (azeros z.cells (Nat.mul c ie.size)) true false))
              | false => none
            | none => none
        | _, _, _ => none
      | _, _ => none
    | none => none
  | _ => none
theorem amakeSlice_sound {P : Program} {m : Mp} {h h' : Hp} {w : World} (H : HRel m h w) {t : TypeId} {l c : AV} {l' c' : Value} {V : AV} (hl : VRel m l l') (hc : VRel m c c')
    (he : amakeSlice P h t l c = some (V, h')) : Does P m h w (Instr.makeSlice t l' c') V h' := by
  unfold amakeSlice at he
  split at he
  · rename_i e ht
    split at he
    · rename_i ie hie
      split at he
      · rename_i ln cn hln hcn
        obtain ⟨k1, rfl⟩ := natOf_rel hl hln
        obtain ⟨k2, rfl⟩ := natOf_rel hc hcn
        split at he
        · rename_i a1 a2 a3
          have a1' := ble_le a1
          have a2' := ble_le a2
          have a3' : ie.bytes * cn ≤ 281474976710656 := ble_le a3
          have w1 := wrap_small ln (by omega)
          have w2 := wrap_small cn a2'
          have e48 : (2 : Int) ^ 48 = 281474976710656 := by rfl
          have t1 : ¬ ((ie.bytes : Int) * (cn : Int) > 281474976710656) := by
            have : ((ie.bytes * cn : Nat) : Int) ≤ ((281474976710656 : Nat) : Int) := Int.ofNat_le.2 a3'
            rw [Int.natCast_mul] at this
            omega
          have t2 : ¬ ((cn : Int) < 0) := by omega
          have t3 : ¬ ((ln : Int) < 0) := by omega
          have t4 : ¬ ((ln : Int) > (cn : Int)) := by omega
          have main : ∀ (arr : Array Value) (cs : List AV), LRel m cs arr.toList →
              (Instr.makeSlice t (.int k1 (ln : Int)) (.int k2 (cn : Int))).run P w = ((newRow e arr).run P w).andThen (fun a w' => .ok (.slice (some a) ln cn) w') →
              Does P m h w (Instr.makeSlice t (.int k1 (ln : Int)) (.int k2 (cn : Int))) (.slice h.next 0 ln (.ex cn)) (h.alloc (.cells cs true false)) := by
            intro arr cs hcs hrun
            obtain ⟨w', m', r1, r2, r3, r4⟩ := newRow_sound (P := P) H e hcs false
            have hv : VRel m' (.slice h.next 0 ln (.ex cn)) (.slice (some ⟨w.heap.size, 0, none⟩) ln cn) := .slice (x := ⟨w.heap.size, 0, arr.size⟩) r4 rfl a1'
            refine ⟨_, w', m', ?_, r2, r3, hv⟩
            rw [hrun, r1]; rfl
          split at he
          · rename_i h0
            cases he
            have h0' : cn * ie.size = 0 := h0
            refine main #[] [] .nil ?_
            simp only [Instr.makeSlice, Sem.run_bind, run_und w ht, Result.andThen_ok, asInt, asIntOf, Sem.run_pure, run_info w hie, w1, w2, e48, t1, t2, t3, t4, Int.toNat_natCast]
            have e0 : ∀ (f : Nat → Value), (Array.range 0).map f = #[] := fun f => by apply Array.ext'; simp
            simp only [run_size w hie, run_askRoom, Result.andThen_ok, h0', if_true, e0, if_false, false_or, or_self, decide_false, Bool.false_or, Bool.or_self, Bool.or_false, Bool.false_eq_true, Sem.run_bind, Sem.run_pure]
          · rename_i q h0
            split at he
            · rename_i z hz
              split at he
              · rename_i hz1
                cases he
                have h0' : ¬ (cn * ie.size = 0) := by
                  have : Nat.mul cn ie.size = cn * ie.size := rfl
                  omega
                obtain ⟨zv, rz, hzv⟩ := zeroA_sound (m := m) hz w
                refine main ((Array.range (cn * ie.size)).map (zv.cells[· % zv.cells.size]!)) _ (azeros_rel hzv.cells (cn * ie.size) (ble_le hz1)) ?_
                simp only [Instr.makeSlice, Sem.run_bind, run_und w ht, Result.andThen_ok, asInt, asIntOf, Sem.run_pure, run_info w hie, w1, w2, e48, t1, t2, t3, t4, Int.toNat_natCast]
                simp [run_size w hie, h0', rz]
              · cases he
            · cases he
        · cases he
      · cases he
    · cases he
  · cases he

def alen (P : Program) (h : Hp) (t : TypeId) (x : AV) : Option AV :=
  match P.underlying t with
  | some .string => match x with | .str l => some (.int .i64 (.ofNat l.length)) | _ => none
  | some (.array n _) => some (.int .i64 (.ofNat n))
  | some (.slice _) => match x with
    | .slice _ _ n _ => some (.int .i64 (.ofNat n))
    | .nilSlice => some (.int .i64 (.ofNat 0))
    | .empty => some (.int .i64 (.ofNat 0))
    | .lst n _ => some (.int .i64 (.ofNat n))
    | _ => none
  | some (.map _ _) => match x with
    | .nilMap => some (.int .i64 (.ofNat 0))
    | .map b => match h.get b with
      | some (.map es _) => some (.int .i64 (.ofNat es.length))
      | _ => none
    | _ => none
  | _ => none
theorem ERel.length {m : Mp} : ∀ {l : List (AV × AV × Nat)} {l' : List MapEntry}, ERel m l l' → l'.length = l.length
  | _, _, .nil => rfl
  | _, _, .cons _ _ _ t => by simp [ERel.length t]
theorem HRel.map {m : Mp} {h : Hp} {w : World} (H : HRel m h w) {b : Nat} {es : List (AV × AV × Nat)} {clock : Nat} (hb : h.get b = some (.map es clock)) :
    ∃ x es', m b = some x ∧ w.heap[x.c]? = some (.map es' clock) ∧ ERel m es es'.toList := by
  obtain ⟨x, c, h1, h2, h3⟩ := H.obj _ _ hb
  cases c <;> first | exact h3.elim | (obtain ⟨r1, r2⟩ := h3; subst r2; exact ⟨x, _, h1, h2, r1⟩)
theorem run_getObj_map {P : Program} {w : World} {c : Nat} {es : Array MapEntry} {clock : Nat} (h : w.heap[c]? = some (.map es clock)) : (getObj c).run P w = .ok (.map es clock) w := by
  simp [getObj, Sem.run, h]
theorem alen_sound {P : Program} {m : Mp} {h : Hp} {w : World} (H : HRel m h w) {ats : Array TypeId} {ty t : TypeId} {args : Array Value} {x : AV} {x' : Value} {V : AV}
    (h0 : ats[0]? = some t) (h1 : args[0]? = some x') (hx : VRel m x x') (he : alen P h t x = some V) : ∃ v, (Builtin.len_ ats ty args).run P w = .ok v w ∧ VRel m V v := by
  unfold alen at he
  split at he
  · rename_i ht
    split at he
    · cases he
      cases hx with
      | str hs => rename_i sb; subst hs; exact ⟨.int .i64 (sb.size : Int), by simp [Builtin.len_, h0, h1, run_und w ht, goInt], by rw [bytesOf_length]; exact .int _ _⟩
    · cases he
  · rename_i n e ht
    cases he
    refine ⟨_, ?_, .int _ _⟩
    simp only [Builtin.len_, h0, h1, Sem.run_bind, run_und w ht, Result.andThen_ok]
    cases x' <;> rfl
  · rename_i e ht
    split at he
    · cases he; cases hx; exact ⟨_, by simp [Builtin.len_, h0, h1, run_und w ht, goInt], .int _ _⟩
    · cases he; cases hx; exact ⟨_, by simp [Builtin.len_, h0, h1, run_und w ht, goInt], .int _ _⟩
    · cases he; cases hx; exact ⟨_, by simp [Builtin.len_, h0, h1, run_und w ht, goInt], .int _ _⟩
    · cases he
      cases hx with
      | lst hK hb hn hr => exact ⟨_, by simp [Builtin.len_, h0, h1, run_und w ht, goInt], .int _ _⟩
      | lst0 a c => cases a <;> exact ⟨_, by simp [Builtin.len_, h0, h1, run_und w ht, goInt], .int _ _⟩
    · cases he
  · rename_i k e ht
    split at he
    · cases he; cases hx; exact ⟨_, by simp [Builtin.len_, h0, h1, run_und w ht, goInt], .int _ _⟩
    · split at he
      · rename_i es clock hb
        cases he
        cases hx with
        | map hm =>
          obtain ⟨y, es', g1, g2, g3⟩ := H.map hb
          rw [hm] at g1; cases g1
          have hl := g3.length
          simp only [Array.length_toList] at hl
          refine ⟨_, ?_, by rw [← hl]; exact .int _ _⟩
          simp [Builtin.len_, h0, h1, run_und w ht, goInt, run_getObj_map g2]
      · cases he
    · cases he
  · cases he

def acap (P : Program) (t : TypeId) (x : AV) : Option AV :=
  match P.underlying t with
  | some (.slice _) => match x with
    | .slice _ _ _ (.ex k) => some (.int .i64 (.ofNat k))
    | .nilSlice => some (.int .i64 (.ofNat 0))
    | _ => none
  | _ => none
theorem acap_sound {P : Program} {m : Mp} {w : World} {ats : Array TypeId} {ty t : TypeId} {args : Array Value} {x : AV} {x' : Value} {V : AV}
    (h0 : ats[0]? = some t) (h1 : args[0]? = some x') (hx : VRel m x x') (he : acap P t x = some V) : ∃ v, (Builtin.cap_ ats ty args).run P w = .ok v w ∧ VRel m V v := by
  unfold acap at he
  split at he
  · rename_i e ht
    split at he
    · cases he
      cases hx with
      | slice hm hc hl => cases hc; exact ⟨_, by simp [Builtin.cap_, h0, h1, run_und w ht, goInt], .int _ _⟩
    · cases he; cases hx; exact ⟨_, by simp [Builtin.cap_, h0, h1, run_und w ht, goInt], .int _ _⟩
    · cases he
  · cases he

def amm2 (mx : Bool) (x y : AV) : Option AV :=
  match x with
  | .int k a => match y with
    | .int _ b => some (.int k (match mx with | true => (match ltI a b with | true => b | false => a) | false => (match ltI b a with | true => b | false => a)))
    | _ => none
  | _ => none
def amm (mx : Bool) (l : List AV) : Option AV :=
  match l with
  | [] => none
  | x :: rest => rest.foldlM (amm2 mx) x
theorem amax2_sound {P : Program} {m : Mp} {x y : AV} {x' y' : Value} {V : AV} (hx : VRel m x x') (hy : VRel m y y') (h : amm2 true x y = some V) : Pu P m (Builtin.max2 x' y') V := by
  intro w
  unfold amm2 at h
  split at h
  · rename_i k a
    split at h
    · rename_i k' b
      cases h
      cases hx with
      | int => cases hy with
        | int =>
          refine ⟨.int k (if b > a then b else a), rfl, ?_⟩
          have e1 : (match ltI a b with | true => b | false => a) = (if b > a then b else a) := by
            rw [ltI_eq]; by_cases e : a < b <;> simp [e]
          simp only [e1]; exact .int _ _
    · cases h
  · cases h
theorem amin2_sound {P : Program} {m : Mp} {x y : AV} {x' y' : Value} {V : AV} (hx : VRel m x x') (hy : VRel m y y') (h : amm2 false x y = some V) : Pu P m (Builtin.min2 x' y') V := by
  intro w
  unfold amm2 at h
  split at h
  · rename_i k a
    split at h
    · rename_i k' b
      cases h
      cases hx with
      | int => cases hy with
        | int =>
          refine ⟨.int k (if b < a then b else a), rfl, ?_⟩
          have e1 : (match ltI b a with | true => b | false => a) = (if b < a then b else a) := by
            rw [ltI_eq]; by_cases e : b < a <;> simp [e]
          simp only [e1]; exact .int _ _
    · cases h
  · cases h
theorem amm_fold {P : Program} {m : Mp} (f : Value → Value → Sem Value) (mx : Bool) (hf : ∀ {x y : AV} {x' y' : Value} {V : AV}, VRel m x x' → VRel m y y' → amm2 mx x y = some V → Pu P m (f x' y') V) :
    ∀ (rest : List AV) (rest' : List Value) (x : AV) (x' : Value) (V : AV), LRel m rest rest' → VRel m x x' → rest.foldlM (amm2 mx) x = some V → Pu P m (rest'.foldlM f x') V
  | [], _, x, x', V, .nil, hx, h => fun w => by
    simp only [List.foldlM_nil] at h
    cases h
    exact ⟨x', rfl, hx⟩
  | y :: rest, _, x, x', V, .cons hy t, hx, h => fun w => by
    simp only [List.foldlM_cons] at h
    cases e : amm2 mx x y with
    | none => rw [e] at h; cases h
    | some z =>
      rw [e] at h
      obtain ⟨z', r1, r2⟩ := hf hx hy e w
      obtain ⟨v, r3, r4⟩ := amm_fold f mx hf rest _ z z' V t r2 h w
      exact ⟨v, by simp only [List.foldlM_cons, Sem.run_bind, r1, Result.andThen_ok]; exact r3, r4⟩
theorem amax_sound {P : Program} {m : Mp} {ats : Array TypeId} {ty : TypeId} {l : List AV} {args : Array Value} {V : AV} (hl : LRel m l args.toList) (h : amm true l = some V) :
    Pu P m (Builtin.max_ ats ty args) V := by
  unfold amm at h
  unfold Builtin.max_
  split at h
  · cases h
  · rename_i x rest
    revert hl
    generalize args.toList = al
    intro hl
    cases hl with
    | cons hx t => exact amm_fold _ true (fun a b c => amax2_sound a b c) _ _ _ _ _ t hx h
theorem amin_sound {P : Program} {m : Mp} {ats : Array TypeId} {ty : TypeId} {l : List AV} {args : Array Value} {V : AV} (hl : LRel m l args.toList) (h : amm false l = some V) :
    Pu P m (Builtin.min_ ats ty args) V := by
  unfold amm at h
  unfold Builtin.min_
  split at h
  · cases h
  · rename_i x rest
    revert hl
    generalize args.toList = al
    intro hl
    cases hl with
    | cons hx t => exact amm_fold _ false (fun a b c => amin2_sound a b c) _ _ _ _ _ t hx h

def acopy (P : Program) (h : Hp) (t : TypeId) (d s : AV) : Option (AV × Hp) :=
  match P.underlying t with
  | some (.slice e) => match P.info? e with
    | some ie => match alenV d, alenV s with
      | some dl, some sl => match acells h ie.size (Nat.min sl dl) s with
        | some cs => match d with
          | .slice b o _ _ => match h.get b with
            | some (.cells l true op) => match Nat.ble (Nat.add o cs.length) l.length, cs.all AV.one with
              | true, true => some (.int .i64 (.ofNat (Nat.min sl dl)), h.set b (.cells (spliceL l o cs) true op))
              | _, _ => none
            | _ => none
          | .nilSlice => match cs with | [] => some (.int .i64 (.ofNat (Nat.min sl dl)), h) | _ => none
          | .empty => match cs with | [] => some (.int .i64 (.ofNat (Nat.min sl dl)), h) | _ => none
          | _ => none
        | none => none
      | _, _ => none
    | none => none
  | _ => none
theorem acopy_sound {P : Program} {m : Mp} {h h' : Hp} {w : World} (H : HRel m h w) {ats : Array TypeId} {ty t : TypeId} {args : Array Value} {d s : AV} {d' s' : Value} {V : AV}
    (h0 : ats[0]? = some t) (h1 : args[0]? = some d') (h2 : args[1]? = some s') (hd : VRel m d d') (hs : VRel m s s') (he : acopy P h t d s = some (V, h')) :
    Does P m h w (Builtin.copy_ ats ty args) V h' := by
  unfold acopy at he
  split at he
  · rename_i e ht
    split at he
    · rename_i ie hie
      split at he
      · rename_i dl sl hdl hsl
        split at he
        · rename_i cs hcs
          obtain ⟨arr, r1, _, r3⟩ := acells_sound (P := P) H hs hcs
          have hlen := alenV_sound (P := P) hs hsl w
          split at he
          · rename_i b o n cap
            cases hdl
            split at he
            · rename_i l op hb
              split at he
              · rename_i a1 a2
                cases he
                cases hd with
                | slice hm hc hl =>
                  obtain ⟨w', q1, q2, q3⟩ := H.splice (P := P) (o := o) hb hm r3 (ble_le a1) a2
                  refine ⟨_, w', m, ?_, q2, q3, .int _ _⟩
                  simp only [Builtin.copy_, h0, h1, h2, Sem.run_bind, run_und w ht, Result.andThen_ok, hlen, run_size w hie, r1, q1, Sem.run_pure]; rfl
              · cases he
            · cases he
          · cases hdl
            split at he
            · cases he
              cases hd
              refine ⟨goInt (Nat.min sl 0), w, m, ?_, H, Ext.refl _ _ _, .int _ _⟩
              simp only [Builtin.copy_, h0, h1, h2, Sem.run_bind, run_und w ht, Result.andThen_ok, hlen, run_size w hie, r1, Sem.run_pure]
            · cases he
          · cases hdl
            split at he
            · cases he
              cases hd
              refine ⟨goInt (Nat.min sl 0), w, m, ?_, H, Ext.refl _ _ _, .int _ _⟩
              have hnil : arr.toList = [] := by have := r3.length; simpa using this
              simp only [Builtin.copy_, h0, h1, h2, Sem.run_bind, run_und w ht, Result.andThen_ok, hlen, run_size w hie, r1, hnil, storeCells, Sem.run_pure]
            · cases he
          · cases he
        · cases he
      · cases he
    · cases he
  · cases he
end
end Go.Ev
