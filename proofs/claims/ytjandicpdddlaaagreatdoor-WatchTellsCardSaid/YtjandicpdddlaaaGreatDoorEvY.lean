/-
  An evaluator of runs and its soundness, part Y. No condition of its own.
-/
import Derived.Test.YtjandicpdddlaaaGreatDoorEvX
namespace Go.Ev
noncomputable section

/-! ### A region in the order of the text, with all that is needed to see that the order does not matter -/
structure It where
  o : Oper
  msk : Nat
  c : Cl
  T : Tm
  H : Hp
  v : AV
  H' : Hp
  u : Option (Nat × AObj)
  wt : Bool
def step1 (P : Program) (e : Ev) (ops : Array Oper) (df : List ADef) (base i : Nat) (o : Oper) (c : Cl) (T : Tm) (H : Hp) : Option (Bool × AV × Hp × Option (Nat × AObj)) :=
  match wantedA ops T o.guard with
  | false => some (false, .tuple [], H, none)
  | true => match c with
    | .new => (match anew P T H.ng (Nat.add base i) o.op with
      | some (V, ob) => some (true, V, H.set (Nat.add base i) ob, some (Nat.add base i, ob))
      | none => none)
    | .store => (match astoreU P T H o.op with
      | some (b, ob) => some (true, .tuple [], H.set b ob, some (b, ob))
      | none => none)
    | _ => (match opRun P e ⟨T, df⟩ H o.op with
      | some (v, H') => some (true, v, H', none)
      | none => none)
def ph1 (P : Program) (e : Ev) (ops : Array Oper) (df : List ADef) (base : Nat) : List SI → Tm → Hp → Option (List It × Tm × Hp)
  | [], T, H => some ([], T, H)
  | s :: l, T, H => match step1 P e ops df base s.i s.o s.cl T H with
    | some (wt, v, H', u) => match putA T s.o.dst v with
      | some T' => match ph1 P e ops df base l T' H' with
        | some (its, Te, He) => some (⟨s.o, s.msk, s.cl, T, H, v, H', u, wt⟩ :: its, Te, He)
        | none => none
      | none => none
    | none => none
def sel (L : Nat → Bool) (c j : Nat) : Bool := andB (L j) (Nat.ble c j)
def join (L : Nat → Bool) (c : Nat) : List It → Nat → Hp → Hp
  | [], _, B => B
  | it :: l, j, B => match it.u with
    | some (b, ob) => match sel L c j with
      | true => join L c l (Nat.succ j) (B.set b ob)
      | false => join L c l (Nat.succ j) B
    | none => join L c l (Nat.succ j) B
def bigs : List It → Nat → List (Nat × Hp)
  | [], _ => []
  | it :: l, k => match it.c with
    | .big => (Nat.succ k, it.H') :: bigs l (Nat.succ k)
    | _ => bigs l (Nat.succ k)
def orB : Bool → Bool → Bool
  | true, _ => true
  | false, b => b
def allowed (c i mi : Nat) : List SI → Bool
  | [] => true
  | s :: l => match s.cl with
    | .big => andB (andB (orB (notB (bit mi s.i)) (Nat.blt s.i c)) (orB (notB (Nat.blt s.i c)) (notB (bit s.msk i)))) (allowed c i mi l)
    | _ => allowed c i mi l
/-- Less what is stored in no order with this reader. -/
def cut (i mi : Nat) : List It → Nat → Hp → Hp
  | [], _, X => X
  | y :: l, j, X => match y.c with
    | .store => (match y.u with
      | some (b, _) => (match orB (bit mi j) (bit y.msk i) with
        | true => cut i mi l (Nat.succ j) X
        | false => cut i mi l (Nat.succ j) (X.kill b))
      | none => cut i mi l (Nat.succ j) X)
    | _ => cut i mi l (Nat.succ j) X
def okRead (P : Program) (e : Ev) (df : List ADef) (its : List It) (st : List (Nat × Hp)) (sis : List SI) : List It → Nat → Bool
  | [], _ => true
  | it :: l, i => match it.c with
    | .read => (match it.wt with
      | true => andB (st.all fun x => match allowed x.1 i it.msk sis with
          | false => true
          | true => match opRun P e ⟨it.T, df⟩ (cut i it.msk its 0 (join (bit it.msk) x.1 its 0 x.2)) it.o.op with
            | some (v, _) => AV.same v it.v
            | none => false) (okRead P e df its st sis l (Nat.succ i))
      | false => okRead P e df its st sis l (Nat.succ i))
    | _ => okRead P e df its st sis l (Nat.succ i)
def isNew : Cl → Bool
  | .new => true
  | _ => false
def okPair (b i : Nat) (y : It) : Bool :=
  match y.u with
  | some (b', _) => (match Nat.beq b b' with
    | true => andB (bit y.msk i) (notB (isNew y.c))
    | false => true)
  | none => true
def okPairs : List It → Nat → Bool
  | [], _ => true
  | x :: l, i => match x.u with
    | some (b, _) => andB (l.all (okPair b i)) (okPairs l (Nat.succ i))
    | none => okPairs l (Nat.succ i)
def okNew (base : Nat) (st : List (Nat × Hp)) : List It → Nat → Bool
  | [], _ => true
  | it :: l, j => match it.c with
    | .new => andB (st.all fun x => match Nat.ble x.1 j with
        | true => (match x.2.get (Nat.add base j) with | none => true | some _ => false)
        | false => true) (okNew base st l (Nat.succ j))
    | _ => okNew base st l (Nat.succ j)
def dynOk (P : Program) (e : Ev) (df : List ADef) (base : Nat) (sis : List SI) (h1 : Hp) (its : List It) : Bool :=
  andB (its.all fun it => Nat.beq it.H'.ng h1.ng) (andB (okPairs its 0) (andB (okNew base ((0, h1) :: bigs its 0) its 0) (okRead P e df its ((0, h1) :: bigs its 0) sis its 0)))
def plan (P : Program) (ops : Array Oper) : Option (List Nat × List SI) :=
  match statOk P ops with
  | some ms => some (ms, mkSI P ops ops.toList ms 0)
  | none => none
def drawRun (P : Program) (e : Ev) (ops : Array Oper) (fr : AFr) (h : Hp) : Option (AEx × AFr × Hp) :=
  match plan P ops with
  | some (_, sis) => match ph1 P e ops fr.df h.next sis fr.T (h.bump ops.size) with
    | some (its, Te, He) => match dynOk P e fr.df h.next sis (h.bump ops.size) its with
      | true => some (.normal, ⟨Te, fr.df⟩, He)
      | false => none
    | none => none
  | none => none

/-! ### What the run wrote down, by number -/
def Tat (its : List It) (Te : Tm) (i : Nat) : Tm := match its[i]? with | some it => it.T | none => Te
def Hat (its : List It) (He : Hp) (i : Nat) : Hp := match its[i]? with | some it => it.H | none => He
theorem ph1_spec {P : Program} {e : Ev} {ops : Array Oper} {df : List ADef} {base : Nat} : ∀ {sis : List SI} {T : Tm} {H : Hp} {its : List It} {Te : Tm} {He : Hp}, ph1 P e ops df base sis T H = some (its, Te, He) →
    its.length = sis.length ∧ Tat its Te 0 = T ∧ Hat its He 0 = H ∧ ∀ (i : Nat) (it : It), its[i]? = some it → ∃ s : SI, sis[i]? = some s ∧ it.o = s.o ∧ it.msk = s.msk ∧ it.c = s.cl ∧
      step1 P e ops df base s.i it.o it.c it.T it.H = some (it.wt, it.v, it.H', it.u) ∧ putA it.T it.o.dst it.v = some (Tat its Te (i + 1)) ∧ it.H' = Hat its He (i + 1)
  | [], T, H, its, Te, He, h => by cases h; exact ⟨rfl, rfl, rfl, fun i it hi => by simp at hi⟩
  | s :: l, T, H, its, Te, He, h => by
    simp only [ph1] at h
    split at h
    · rename_i wt v H' u hs
      split at h
      · rename_i T' hT
        split at h
        · rename_i its' Te' He' hp
          cases h
          obtain ⟨r1, r2, r3, r4⟩ := ph1_spec hp
          refine ⟨by simp [r1], rfl, rfl, fun i it hi => ?_⟩
          cases i with
          | zero =>
            simp at hi; subst hi
            refine ⟨s, rfl, rfl, rfl, rfl, hs, ?_, ?_⟩
            · rw [hT, ← r2]; rfl
            · show H' = _
              rw [← r3]; rfl
          | succ i =>
            simp at hi
            obtain ⟨s', q1, q2, q3, q4, q5, q6, q7⟩ := r4 i it hi
            exact ⟨s', by simpa using q1, q2, q3, q4, q5, by rw [q6]; rfl, by rw [q7]; rfl⟩
        · cases h
      · cases h
    · cases h

/-! ### Joining -/
theorem join_next (L : Nat → Bool) (c : Nat) : ∀ (its : List It) (j : Nat) (B : Hp), (join L c its j B).next = B.next ∧ (join L c its j B).ng = B.ng
  | [], _, _ => ⟨rfl, rfl⟩
  | it :: l, j, B => by
    simp only [join]
    split
    · split
      · exact join_next L c l _ _
      · exact join_next L c l _ _
    · exact join_next L c l _ _
theorem cut_next (i mi : Nat) : ∀ (its : List It) (j : Nat) (X : Hp), (cut i mi its j X).next = X.next ∧ (cut i mi its j X).ng = X.ng
  | [], _, _ => ⟨rfl, rfl⟩
  | y :: l, j, X => by
    simp only [cut]
    split
    · split
      · split
        · exact cut_next i mi l _ _
        · exact cut_next i mi l _ _
      · exact cut_next i mi l _ _
    · exact cut_next i mi l _ _
theorem cut_get {i mi b : Nat} {o : AObj} : ∀ {its : List It} {j : Nat} {X : Hp}, (cut i mi its j X).get b = some o →
    X.get b = some o ∧ ∀ (k : Nat) (y : It) (ob : AObj), its[k]? = some y → y.c = .store → y.u = some (b, ob) → mi.testBit (j + k) = true ∨ y.msk.testBit i = true
  | [], _, _, h => ⟨h, fun k y ob hk => by simp at hk⟩
  | y :: l, j, X, h => by
    have step : ∀ {X' : Hp}, (cut i mi l (Nat.succ j) X').get b = some o → X'.get b = some o ∧ ∀ (k : Nat) (y : It) (ob : AObj), l[k]? = some y → y.c = .store → y.u = some (b, ob) → mi.testBit (j + (k + 1)) = true ∨ y.msk.testBit i = true := by
      intro X' hX
      obtain ⟨h1, h2⟩ := cut_get hX
      refine ⟨h1, fun k y ob g1 g2 g3 => ?_⟩
      have := h2 k y ob g1 g2 g3
      rwa [show Nat.succ j + k = j + (k + 1) by omega] at this
    have all : ∀ {X' : Hp}, (cut i mi l (Nat.succ j) X').get b = some o → (X'.get b = some o → X.get b = some o ∧ ∀ ob, y.c = .store → y.u = some (b, ob) → mi.testBit j = true ∨ y.msk.testBit i = true) →
        X.get b = some o ∧ ∀ (k : Nat) (z : It) (ob : AObj), (y :: l)[k]? = some z → z.c = .store → z.u = some (b, ob) → mi.testBit (j + k) = true ∨ z.msk.testBit i = true := by
      intro X' hX hy
      obtain ⟨h1, h2⟩ := step hX
      obtain ⟨h3, h4⟩ := hy h1
      refine ⟨h3, fun k z ob g1 g2 g3 => ?_⟩
      cases k with
      | zero => simp at g1; subst g1; exact h4 ob g2 g3
      | succ k => exact h2 k z ob (by simpa using g1) g2 g3
    simp only [cut] at h
    split at h
    · split at h
      · rename_i b1 ob1 hu
        split at h
        · rename_i hor
          refine all h (fun h3 => ⟨h3, fun ob _ _ => ?_⟩)
          rw [bit_eq, bit_eq] at hor
          cases hb : mi.testBit j with
          | true => exact .inl rfl
          | false => rw [hb] at hor; exact .inr hor
        · refine all h (fun h3 => ?_)
          rw [Hp.get_kill] at h3
          split at h3
          · cases h3
          · rename_i hne
            refine ⟨h3, fun ob _ hu' => ?_⟩
            rw [hu] at hu'; cases hu'
            exact absurd rfl hne
      · rename_i hu
        exact all h (fun h3 => ⟨h3, fun ob _ hu' => by rw [hu] at hu'; cases hu'⟩)
    · rename_i hns
      exact all h (fun h3 => ⟨h3, fun ob hs _ => absurd hs hns⟩)
theorem join_cmp {L L' : Nat → Bool} {c c' b : Nat} : ∀ {its : List It} {j : Nat} {B B' : Hp}, (∀ k it ob, its[k]? = some it → it.u = some (b, ob) → sel L c (j + k) = sel L' c' (j + k)) → B.get b = B'.get b →
    (join L c its j B).get b = (join L' c' its j B').get b
  | [], _, _, _, _, h => h
  | it :: l, j, B, B', hs, h => by
    have hs' : ∀ k it ob, l[k]? = some it → it.u = some (b, ob) → sel L c (Nat.succ j + k) = sel L' c' (Nat.succ j + k) := by
      intro k it' ob h1 h2
      have := hs (k + 1) it' ob (by simpa using h1) h2
      rwa [show j + (k + 1) = Nat.succ j + k by omega] at this
    simp only [join]
    cases hu : it.u with
    | none => exact join_cmp hs' h
    | some x =>
      obtain ⟨b1, ob⟩ := x
      simp only
      by_cases e : b1 = b
      · subst e
        have h0 := hs 0 it ob rfl hu
        simp only [Nat.add_zero] at h0
        rw [h0]
        split
        · exact join_cmp hs' (by simp [Hp.get_set])
        · exact join_cmp hs' h
      · have hne : ∀ X : Hp, (X.set b1 ob).get b = X.get b := fun X => by rw [Hp.get_set, if_neg (Ne.symm e)]
        split <;> split
        · exact join_cmp hs' (by rw [hne, hne]; exact h)
        · exact join_cmp hs' (by rw [hne]; exact h)
        · exact join_cmp hs' (by rw [hne]; exact h)
        · exact join_cmp hs' h
theorem join_none {L : Nat → Bool} {c b : Nat} : ∀ {its : List It} {j : Nat} {B : Hp}, (∀ k it ob, its[k]? = some it → it.u = some (b, ob) → sel L c (j + k) = false) → (join L c its j B).get b = B.get b
  | [], _, _, _ => rfl
  | it :: l, j, B, hs => by
    have hs' : ∀ k it ob, l[k]? = some it → it.u = some (b, ob) → sel L c (Nat.succ j + k) = false := by
      intro k it' ob h1 h2
      have := hs (k + 1) it' ob (by simpa using h1) h2
      rwa [show j + (k + 1) = Nat.succ j + k by omega] at this
    simp only [join]
    cases hu : it.u with
    | none => exact join_none hs'
    | some x =>
      obtain ⟨b1, ob⟩ := x
      simp only
      split
      · rename_i hsel
        rw [join_none hs', Hp.get_set]
        split
        · rename_i e
          subst e
          have h0 := hs 0 it ob rfl hu
          simp only [Nat.add_zero] at h0
          rw [h0] at hsel; cases hsel
        · rfl
      · exact join_none hs'
/-- From a chosen one on. -/
theorem join_from {L L' : Nat → Bool} {c c' b : Nat} : ∀ {its : List It} {j : Nat} {B B' : Hp} {k : Nat} {it : It} {ob : AObj}, its[k]? = some it → it.u = some (b, ob) → sel L c (j + k) = true → sel L' c' (j + k) = true →
    (∀ k' it' ob', k < k' → its[k']? = some it' → it'.u = some (b, ob') → sel L c (j + k') = sel L' c' (j + k')) → (join L c its j B).get b = (join L' c' its j B').get b
  | [], _, _, _, _, _, _, h, _, _, _, _ => by simp at h
  | x :: l, j, B, B', 0, it, ob, h, hu, h1, h2, hs => by
    simp at h; subst h
    simp only [Nat.add_zero] at h1 h2
    simp only [join, hu, h1, h2]
    refine join_cmp ?_ (by simp [Hp.get_set])
    intro k it' ob' g1 g2
    have := hs (k + 1) it' ob' (by omega) (by simpa using g1) g2
    rwa [show j + (k + 1) = Nat.succ j + k by omega] at this
  | x :: l, j, B, B', k + 1, it, ob, h, hu, h1, h2, hs => by
    have h' : l[k]? = some it := by simpa using h
    have h1' : sel L c (Nat.succ j + k) = true := by rw [← h1]; congr 1; omega
    have h2' : sel L' c' (Nat.succ j + k) = true := by rw [← h2]; congr 1; omega
    have hs' : ∀ k' it' ob', k < k' → l[k']? = some it' → it'.u = some (b, ob') → sel L c (Nat.succ j + k') = sel L' c' (Nat.succ j + k') := by
      intro k' it' ob' g0 g1 g2
      have := hs (k' + 1) it' ob' (by omega) (by simpa using g1) g2
      rwa [show j + (k' + 1) = Nat.succ j + k' by omega] at this
    simp only [join]
    split
    · split <;> split <;> exact join_from h' hu h1' h2' hs'
    · exact join_from h' hu h1' h2' hs'
theorem join_last {L : Nat → Bool} {c b : Nat} : ∀ {its : List It} {j : Nat} {B : Hp} {k : Nat} {it : It} {ob : AObj}, its[k]? = some it → it.u = some (b, ob) → sel L c (j + k) = true →
    (∀ k' it' ob', k < k' → its[k']? = some it' → it'.u = some (b, ob') → sel L c (j + k') = false) → (join L c its j B).get b = some ob
  | [], _, _, _, _, _, h, _, _, _ => by simp at h
  | x :: l, j, B, 0, it, ob, h, hu, h1, hs => by
    simp at h; subst h
    simp only [Nat.add_zero] at h1
    simp only [join, hu, h1]
    rw [join_none ?_, Hp.get_set, if_pos rfl]
    intro k it' ob' g1 g2
    have := hs (k + 1) it' ob' (by omega) (by simpa using g1) g2
    rwa [show j + (k + 1) = Nat.succ j + k by omega] at this
  | x :: l, j, B, k + 1, it, ob, h, hu, h1, hs => by
    have h' : l[k]? = some it := by simpa using h
    have h1' : sel L c (Nat.succ j + k) = true := by rw [← h1]; congr 1; omega
    have hs' : ∀ k' it' ob', k < k' → l[k']? = some it' → it'.u = some (b, ob') → sel L c (Nat.succ j + k') = false := by
      intro k' it' ob' g0 g1 g2
      have := hs (k' + 1) it' ob' (by omega) (by simpa using g1) g2
      rwa [show j + (k' + 1) = Nat.succ j + k' by omega] at this
    simp only [join]
    split
    · split <;> exact join_last h' hu h1' hs'
    · exact join_last h' hu h1' hs'
def plus (L : Nat → Bool) (i : Nat) : Nat → Bool := fun k => if k = i then true else L k
theorem join_add {L : Nat → Bool} {c : Nat} {its : List It} {B : Hp} {i : Nat} {it : It} {b : Nat} {ob : AObj} (hi : its[i]? = some it) (hu : it.u = some (b, ob)) (hc : c ≤ i)
    (hl : ∀ k it' ob', i < k → its[k]? = some it' → it'.u = some (b, ob') → L k = false) (b' : Nat) :
    (join (plus L i) c its 0 B).get b' = if b' = b then some ob else (join L c its 0 B).get b' := by
  by_cases e : b' = b
  · subst e
    rw [if_pos rfl]
    refine join_last hi hu ?_ ?_
    · simp [sel, plus, andB, Nat.ble_eq, hc]
    · intro k it' ob' g0 g1 g2
      have := hl k it' ob' g0 g1 g2
      simp [sel, plus, show k ≠ i by omega, this, andB]
  · rw [if_neg e]
    refine join_cmp ?_ rfl
    intro k it' ob' g1 g2
    by_cases hk : k = i
    · subst hk
      rw [hi] at g1; cases g1
      rw [hu] at g2; cases g2
      exact absurd rfl e
    · simp [sel, plus, hk]
theorem join_plus_none {L : Nat → Bool} {c : Nat} {its : List It} {B : Hp} {i : Nat} (hi : ∀ it, its[i]? = some it → it.u = none) (b : Nat) : (join (plus L i) c its 0 B).get b = (join L c its 0 B).get b := by
  refine join_cmp ?_ rfl
  intro k it ob g1 g2
  by_cases hk : k = i
  · subst hk
    rw [hi it g1] at g2; cases g2
  · simp [sel, plus, hk]
end
end Go.Ev
