/-
  An evaluator of runs and its soundness, part X. No condition of its own.
-/
import Derived.Test.YtjandicpdddlaaaGreatDoorEvW
namespace Go.Ev
noncomputable section

/-! ### What comes before what in a region that draws its order -/
def bit (mk j : Nat) : Bool := Nat.beq (Nat.land 1 (Nat.shiftRight mk j)) 1
theorem bit_eq (mk j : Nat) : bit mk j = mk.testBit j := by
  unfold bit Nat.testBit
  show Nat.beq (1 &&& (mk >>> j)) 1 = _
  have : 1 &&& (mk >>> j) = (mk >>> j) % 2 := by rw [Nat.and_comm]; exact Nat.and_one_is_mod _
  rw [this]
  rcases Nat.mod_two_eq_zero_or_one (mk >>> j) with h | h <;> rw [h] <;> rfl
def edgeMask (done : List Nat) : List Edge → Option Nat
  | [] => some 0
  | e :: l => match Region.binds .any e with
    | true => match done[e.on]? with
      | some mk => match edgeMask done l with
        | some r => some (Nat.lor (Nat.lor mk (Nat.shiftLeft 1 e.on)) r)
        | none => none
      | none => none
    | false => edgeMask done l
def masksOf : List Oper → List Nat → Option (List Nat)
  | [], done => some done
  | o :: r, done => match edgeMask done o.after.toList with
    | some mk => masksOf r (done ++ [mk])
    | none => none
theorem testBit_one (k j : Nat) : (1 <<< k).testBit j = decide (k = j) := by
  rw [Nat.one_shiftLeft, Nat.testBit_two_pow]
theorem edgeMask_spec {done : List Nat} : ∀ {l : List Edge} {mk : Nat}, edgeMask done l = some mk →
    (∀ e ∈ l, Region.binds .any e = true → ∃ mke, done[e.on]? = some mke ∧ mk.testBit e.on = true ∧ ∀ k, mke.testBit k = true → mk.testBit k = true) ∧
    (∀ j, mk.testBit j = true → ∃ e ∈ l, Region.binds .any e = true ∧ ∃ mke, done[e.on]? = some mke ∧ (j = e.on ∨ mke.testBit j = true))
  | [], mk, h => by
    cases h
    refine ⟨fun e he => ?_, fun j hj => ?_⟩
    · cases he
    · rw [Nat.zero_testBit] at hj; cases hj
  | e :: l, mk, h => by
    simp only [edgeMask] at h
    split at h
    · rename_i hb
      split at h
      · rename_i mke hd
        split at h
        · rename_i r hr
          cases h
          obtain ⟨i1, i2⟩ := edgeMask_spec hr
          have ht : ∀ j, (Nat.lor (Nat.lor mke (Nat.shiftLeft 1 e.on)) r).testBit j = (mke.testBit j || decide (e.on = j) || r.testBit j) := by
            intro j
            show ((mke ||| (1 <<< e.on)) ||| r).testBit j = _
            rw [Nat.testBit_or, Nat.testBit_or, testBit_one]
          refine ⟨fun e' he' hb' => ?_, fun j hj => ?_⟩
          · rcases List.mem_cons.1 he' with rfl | he'
            · exact ⟨mke, hd, by rw [ht]; simp, fun k hk => by rw [ht, hk]; simp⟩
            · obtain ⟨m1, q1, q2, q3⟩ := i1 e' he' hb'
              exact ⟨m1, q1, by rw [ht, q2]; simp, fun k hk => by rw [ht, q3 k hk]; simp⟩
          · rw [ht] at hj
            simp only [Bool.or_eq_true, decide_eq_true_eq] at hj
            rcases hj with (hj | hj) | hj
            · exact ⟨e, List.mem_cons_self .., hb, mke, hd, .inr hj⟩
            · exact ⟨e, List.mem_cons_self .., hb, mke, hd, .inl hj.symm⟩
            · obtain ⟨e', q1, q2⟩ := i2 j hj
              exact ⟨e', List.mem_cons_of_mem _ q1, q2⟩
        · cases h
      · cases h
    · rename_i hb
      obtain ⟨i1, i2⟩ := edgeMask_spec h
      refine ⟨fun e' he' hb' => ?_, fun j hj => ?_⟩
      · rcases List.mem_cons.1 he' with rfl | he'
        · rw [hb] at hb'; cases hb'
        · exact i1 e' he' hb'
      · obtain ⟨e', q1, q2⟩ := i2 j hj
        exact ⟨e', List.mem_cons_of_mem _ q1, q2⟩

def Binds (o : Oper) (L : Nat → Bool) : Prop := ∀ e ∈ o.after.toList, Region.binds .any e = true → L e.on = true
def Down (ops : Array Oper) (L : Nat → Bool) : Prop := ∀ i o, ops[i]? = some o → L i = true → Binds o L
structure Good (ops : Array Oper) (ms : List Nat) : Prop where
  len : ms.length ≤ ops.size
  bef : ∀ (i : Nat) (o : Oper) (mk : Nat), ops[i]? = some o → ms[i]? = some mk → ∀ j, mk.testBit j = true → j < i ∧ ∀ L, Down ops L → Binds o L → L j = true
  edge : ∀ (i : Nat) (o : Oper) (mk : Nat), ops[i]? = some o → ms[i]? = some mk → ∀ e ∈ o.after.toList, Region.binds .any e = true → e.on < i
  trans : ∀ (i : Nat) (mi : Nat) (j mj : Nat), ms[i]? = some mi → mi.testBit j = true → ms[j]? = some mj → ∀ k, mj.testBit k = true → mi.testBit k = true

theorem Good.step {ops : Array Oper} {done : List Nat} (g : Good ops done) {o : Oper} (ho : ops[done.length]? = some o) {mk : Nat} (hm : edgeMask done o.after.toList = some mk) : Good ops (done ++ [mk]) := by
  obtain ⟨s1, s2⟩ := edgeMask_spec hm
  have hlt : ∀ {j mj : Nat}, done[j]? = some mj → j < done.length := fun h => by
    obtain ⟨h1, _⟩ := List.getElem?_eq_some_iff.1 h; exact h1
  have hsz : done.length < ops.size := by
    obtain ⟨h1, _⟩ := Array.getElem?_eq_some_iff.1 ho; exact h1
  have cases' : ∀ {i mi : Nat}, (done ++ [mk])[i]? = some mi → (done[i]? = some mi) ∨ (i = done.length ∧ mi = mk) := by
    intro i mi h
    by_cases hi : i < done.length
    · rw [List.getElem?_append_left hi] at h; exact .inl h
    · rw [List.getElem?_append_right (by omega)] at h
      have h2 : i - done.length = 0 := by
        cases hk : i - done.length with
        | zero => rfl
        | succ k => rw [hk] at h; simp at h
      rw [h2] at h
      simp at h
      exact .inr ⟨by omega, h.symm⟩
  refine ⟨by simp; omega, ?_, ?_, ?_⟩
  · intro i o' mi ho' hi j hj
    rcases cases' hi with h | ⟨rfl, rfl⟩
    · exact g.bef i o' mi ho' h j hj
    · rw [ho] at ho'; cases ho'
      obtain ⟨e, q1, q2, mke, q3, q4⟩ := s2 j hj
      have hel := hlt q3
      obtain ⟨oe, hoe⟩ : ∃ oe, ops[e.on]? = some oe := ⟨ops[e.on]'(by omega), Array.getElem?_eq_getElem (by omega)⟩
      rcases q4 with rfl | q4
      · exact ⟨hel, fun L _ hb => hb e q1 q2⟩
      · obtain ⟨r1, r2⟩ := g.bef _ _ _ hoe q3 j q4
        exact ⟨by omega, fun L hd hb => r2 L hd (hd _ _ hoe (hb e q1 q2))⟩
  · intro i o' mi ho' hi e he hb
    rcases cases' hi with h | ⟨rfl, rfl⟩
    · exact g.edge i o' mi ho' h e he hb
    · rw [ho] at ho'; cases ho'
      obtain ⟨mke, q1, _⟩ := s1 e he hb
      exact hlt q1
  · intro i mi j mj hi hj hmj k hk
    rcases cases' hi with h | ⟨rfl, rfl⟩
    · obtain ⟨o', ho'⟩ : ∃ o', ops[i]? = some o' := by
        have := hlt h
        exact ⟨ops[i]'(by omega), Array.getElem?_eq_getElem (by omega)⟩
      have hji := (g.bef i o' mi ho' h j hj).1
      have hil := hlt h
      rw [List.getElem?_append_left (by omega)] at hmj
      exact g.trans i mi j mj h hj hmj k hk
    · obtain ⟨e, q1, q2, mke, q3, q4⟩ := s2 j hj
      obtain ⟨mke', p1, p2, p3⟩ := s1 e q1 q2
      rw [q3] at p1; cases p1
      rcases q4 with rfl | q4
      · rw [List.getElem?_append_left (hlt q3), q3] at hmj; cases hmj
        exact p3 k hk
      · have hel := hlt q3
        obtain ⟨oe, hoe⟩ : ∃ oe, ops[e.on]? = some oe := ⟨ops[e.on]'(by omega), Array.getElem?_eq_getElem (by omega)⟩
        have hjl := (g.bef _ _ _ hoe q3 j q4).1
        rw [List.getElem?_append_left (by omega)] at hmj
        exact p3 k (g.trans _ _ _ _ q3 q4 hmj k hk)
theorem masksOf_spec {ops : Array Oper} : ∀ (l : List Oper) (done ms : List Nat), ops.toList.drop done.length = l → Good ops done → masksOf l done = some ms → Good ops ms ∧ ms.length = done.length + l.length
  | [], done, ms, _, g, h => by cases h; exact ⟨g, rfl⟩
  | o :: r, done, ms, hd, g, h => by
    simp only [masksOf] at h
    split at h
    · rename_i mk hm
      have ho : ops[done.length]? = some o := by
        have : (ops.toList.drop done.length)[0]? = some o := by rw [hd]; rfl
        simpa [List.getElem?_drop] using this
      have hd' : ops.toList.drop (done ++ [mk]).length = r := by
        have : (ops.toList.drop done.length).drop 1 = r := by rw [hd]; rfl
        rw [List.drop_drop] at this
        simpa using this
      obtain ⟨r1, r2⟩ := masksOf_spec r (done ++ [mk]) ms hd' (g.step ho hm) h
      refine ⟨r1, ?_⟩
      simp at r2 ⊢
      omega
    · cases h

/-! ### Which pairs may stand in either order -/
def free : Cl → Cl → Bool
  | .pure, _ => true
  | .read, _ => true
  | .new, c => (match c with | .big => false | _ => true)
  | .store, c => (match c with | .big => false | _ => true)
  | .big, c => (match c with | .big => false | .store => false | _ => true)
structure SI where
  i : Nat
  o : Oper
  msk : Nat
  cl : Cl
  lk : List Tmp
def mkSI (P : Program) (ops : Array Oper) : List Oper → List Nat → Nat → List SI
  | o :: l, mk :: k, i => ⟨i, o, mk, cls P o.op, o.looksAt ops⟩ :: mkSI P ops l k (Nat.succ i)
  | _, _, _ => []
def dstFree : Option Tmp → Option Tmp → Bool
  | some a, some b => notB (Nat.beq a b)
  | _, _ => true
def notIn : Option Tmp → List Tmp → Bool
  | none, _ => true
  | some d, l => notB (l.any fun x => Nat.beq d x)
def pairOk (x y : SI) : Bool :=
  match bit y.msk x.i with
  | true => dstFree x.o.dst y.o.dst
  | false => andB (dstFree x.o.dst y.o.dst) (andB (notIn x.o.dst y.lk) (andB (notIn y.o.dst x.lk) (free x.cl y.cl)))
def allPairs : List SI → Bool
  | [] => true
  | x :: l => andB (l.all (pairOk x)) (allPairs l)
theorem allPairs_get : ∀ {l : List SI}, allPairs l = true → ∀ {i j : Nat} {x y : SI}, i < j → l[i]? = some x → l[j]? = some y → pairOk x y = true
  | [], _, i, j, x, y, _, h, _ => by simp at h
  | z :: l, h, i, j, x, y, hij, hi, hj => by
    obtain ⟨h1, h2⟩ := andB_true (show andB (l.all (pairOk z)) (allPairs l) = true from h)
    cases i with
    | zero =>
      simp at hi; subst hi
      cases j with
      | zero => omega
      | succ j =>
        simp at hj
        exact List.all_eq_true.1 h1 y (List.mem_of_getElem? hj)
    | succ i =>
      cases j with
      | zero => omega
      | succ j =>
        simp at hi hj
        exact allPairs_get h2 (by omega) hi hj
theorem mkSI_get {P : Program} {ops : Array Oper} : ∀ (l : List Oper) (k : List Nat) (b i : Nat) (o : Oper) (mk : Nat), l[i]? = some o → k[i]? = some mk → (mkSI P ops l k b)[i]? = some ⟨b + i, o, mk, cls P o.op, o.looksAt ops⟩
  | [], _, _, _, _, _, h, _ => by simp at h
  | _ :: _, [], _, _, _, _, _, h => by simp at h
  | o' :: l, mk' :: k, b, i, o, mk, h1, h2 => by
    cases i with
    | zero => simp at h1 h2; subst h1; subst h2; rfl
    | succ i =>
      simp at h1 h2
      have := mkSI_get (P := P) (ops := ops) l k (b + 1) i o mk h1 h2
      simp only [mkSI, List.getElem?_cons_succ]
      rw [this]
      congr 2
      omega
def PairP (P : Program) (ops : Array Oper) (oi oj : Oper) (b : Bool) : Prop :=
  (∀ d d', oi.dst = some d → oj.dst = some d' → d ≠ d') ∧
    (b = false → (∀ d, oi.dst = some d → d ∉ oj.looksAt ops) ∧ (∀ d, oj.dst = some d → d ∉ oi.looksAt ops) ∧ free (cls P oi.op) (cls P oj.op) = true)
theorem dstFree_spec {a b : Option Tmp} (h : dstFree a b = true) : ∀ d d', a = some d → b = some d' → d ≠ d' := by
  rintro d d' rfl rfl he
  subst he
  simp only [dstFree, notB_eq, Nat.beq_refl] at h
  cases h
theorem notIn_spec {a : Option Tmp} {l : List Tmp} (h : notIn a l = true) : ∀ d, a = some d → d ∉ l := by
  rintro d rfl hm
  simp only [notIn, notB_eq, Bool.not_eq_true'] at h
  have := List.any_eq_false.1 h d hm
  simp at this
theorem pairOk_spec {P : Program} {ops : Array Oper} {i j mi mj : Nat} {oi oj : Oper} (h : pairOk ⟨i, oi, mi, cls P oi.op, oi.looksAt ops⟩ ⟨j, oj, mj, cls P oj.op, oj.looksAt ops⟩ = true) : PairP P ops oi oj (mj.testBit i) := by
  unfold pairOk at h
  simp only [bit_eq] at h
  cases hb : mj.testBit i with
  | true =>
    rw [hb] at h
    exact ⟨dstFree_spec h, fun hh => by cases hh⟩
  | false =>
    rw [hb] at h
    obtain ⟨h1, h⟩ := andB_true h
    obtain ⟨h2, h⟩ := andB_true h
    obtain ⟨h3, h4⟩ := andB_true h
    exact ⟨dstFree_spec h1, fun _ => ⟨notIn_spec h2, notIn_spec h3, h4⟩⟩
def statOk (P : Program) (ops : Array Oper) : Option (List Nat) :=
  match masksOf ops.toList [] with
  | some ms => match allPairs (mkSI P ops ops.toList ms 0) with
    | true => some ms
    | false => none
  | none => none
structure Stat (P : Program) (ops : Array Oper) (ms : List Nat) : Prop where
  len : ms.length = ops.size
  good : Good ops ms
  pair : ∀ {i j : Nat} {oi oj : Oper} {mi mj : Nat}, i < j → ops[i]? = some oi → ops[j]? = some oj → ms[i]? = some mi → ms[j]? = some mj → PairP P ops oi oj (mj.testBit i)
theorem statOk_spec {P : Program} {ops : Array Oper} {ms : List Nat} (h : statOk P ops = some ms) : Stat P ops ms := by
  unfold statOk at h
  split at h
  · rename_i ms' hm
    split at h
    · rename_i hp
      cases h
      have g0 : Good ops [] := ⟨Nat.zero_le _, fun _ _ _ _ h => by simp at h, fun _ _ _ _ h => by simp at h, fun _ _ _ _ h => by simp at h⟩
      obtain ⟨g, hl⟩ := masksOf_spec ops.toList [] ms rfl g0 hm
      refine ⟨by simpa using hl, g, ?_⟩
      intro i j oi oj mi mj hij h1 h2 h3 h4
      have e1 := mkSI_get (P := P) (ops := ops) ops.toList ms 0 i oi mi (by simpa using h1) h3
      have e2 := mkSI_get (P := P) (ops := ops) ops.toList ms 0 j oj mj (by simpa using h2) h4
      have := allPairs_get hp hij e1 e2
      simp only [Nat.zero_add] at this
      exact pairOk_spec this
    · cases h
  · cases h
end
end Go.Ev
