/-
  An evaluator of runs and its soundness, part Z. No condition of its own.
-/
import Derived.Test.YtjandicpdddlaaaGreatDoorEvY
namespace Go.Ev
noncomputable section

def StageAt (its : List It) (h1 : Hp) (c : Nat) (B : Hp) : Prop := (c = 0 ∧ B = h1) ∨ ∃ k it, its[k]? = some it ∧ it.c = .big ∧ c = k + 1 ∧ B = it.H'
theorem bigs_mem {c : Nat} {B : Hp} : ∀ {its : List It} {j : Nat}, (∃ k it, its[k]? = some it ∧ it.c = .big ∧ c = j + k + 1 ∧ B = it.H') → (c, B) ∈ bigs its j
  | [], _, ⟨k, it, h, _⟩ => by simp at h
  | x :: l, j, ⟨k, it, h, h2, h3, h4⟩ => by
    simp only [bigs]
    cases k with
    | zero =>
      simp at h; subst h
      rw [h2]
      simp only
      rw [h3, h4]
      exact List.mem_cons_self ..
    | succ k =>
      have ih : (c, B) ∈ bigs l (Nat.succ j) := bigs_mem ⟨k, it, by simpa using h, h2, by omega, h4⟩
      split
      · exact List.mem_cons_of_mem _ ih
      · exact ih
theorem stage_mem {its : List It} {h1 : Hp} {c : Nat} {B : Hp} (h : StageAt its h1 c B) : (c, B) ∈ (0, h1) :: bigs its 0 := by
  rcases h with ⟨rfl, rfl⟩ | ⟨k, it, q1, q2, q3, q4⟩
  · exact List.mem_cons_self ..
  · exact List.mem_cons_of_mem _ (bigs_mem ⟨k, it, q1, q2, by omega, q4⟩)
theorem stage_uniq {its : List It} {h1 : Hp} {c c' : Nat} {B B' : Hp} (h : StageAt its h1 c B) (h' : StageAt its h1 c' B') (hb : ∀ k it, its[k]? = some it → it.c = .big → (k < c ↔ k < c')) : c = c' ∧ B = B' := by
  rcases h with ⟨rfl, rfl⟩ | ⟨k, it, q1, q2, rfl, rfl⟩ <;> rcases h' with ⟨rfl, rfl⟩ | ⟨k', it', p1, p2, rfl, rfl⟩
  · exact ⟨rfl, rfl⟩
  · have := (hb k' it' p1 p2).2 (by omega); omega
  · have := (hb k it q1 q2).1 (by omega); omega
  · have a1 := (hb k it q1 q2).1 (by omega)
    have a2 := (hb k' it' p1 p2).2 (by omega)
    have : k = k' := by omega
    subst this
    rw [q1] at p1; cases p1
    exact ⟨rfl, rfl⟩

structure Drawn (P : Program) (e : Ev) (ops : Array Oper) (df : List ADef) (base : Nat) (ms : List Nat) (sis : List SI) (h1 : Hp) (its : List It) (Te : Tm) (He : Hp) : Prop where
  st : Stat P ops ms
  len : its.length = ops.size
  it : ∀ (i : Nat) (x : It), its[i]? = some x → ops[i]? = some x.o ∧ ms[i]? = some x.msk ∧ x.c = cls P x.o.op ∧ step1 P e ops df base i x.o x.c x.T x.H = some (x.wt, x.v, x.H', x.u) ∧
    putA x.T x.o.dst x.v = some (Tat its Te (i + 1)) ∧ x.H' = Hat its He (i + 1)
  hsis : sis = mkSI P ops ops.toList ms 0
  ng : ∀ (i : Nat) (x : It), its[i]? = some x → x.H'.ng = h1.ng
  pairs : ∀ (i j : Nat) (x y : It) (b : Nat) (ob ob' : AObj), i < j → its[i]? = some x → its[j]? = some y → x.u = some (b, ob) → y.u = some (b, ob') → y.msk.testBit i = true ∧ isNew y.c = false
  news : ∀ (j : Nat) (x : It) (c : Nat) (B : Hp), its[j]? = some x → x.c = .new → StageAt its h1 c B → c ≤ j → B.get (base + j) = none
  reads : ∀ (i : Nat) (x : It) (c : Nat) (B : Hp), its[i]? = some x → x.c = .read → x.wt = true → StageAt its h1 c B → allowed c i x.msk sis = true →
    ∃ g', opRun P e ⟨x.T, df⟩ (cut i x.msk its 0 (join (bit x.msk) c its 0 B)) x.o.op = some (x.v, g')

theorem okPairs_spec : ∀ {its : List It} {s : Nat}, okPairs its s = true → ∀ (i j : Nat) (x y : It) (b : Nat) (ob ob' : AObj), i < j → its[i]? = some x → its[j]? = some y → x.u = some (b, ob) → y.u = some (b, ob') →
    y.msk.testBit (s + i) = true ∧ isNew y.c = false
  | [], _, _, i, j, x, y, b, ob, ob', _, h, _, _, _ => by simp at h
  | z :: l, s, h, i, j, x, y, b, ob, ob', hij, hi, hj, hx, hy => by
    simp only [okPairs] at h
    cases i with
    | zero =>
      simp at hi; subst hi
      rw [hx] at h
      simp only at h
      obtain ⟨h1, _⟩ := andB_true h
      obtain ⟨j', rfl⟩ : ∃ j', j = j' + 1 := ⟨j - 1, by omega⟩
      have := List.all_eq_true.1 h1 y (List.mem_of_getElem? (by simpa using hj))
      simp only [okPair, hy, Nat.beq_refl] at this
      obtain ⟨a1, a2⟩ := andB_true this
      rw [bit_eq] at a1
      rw [notB_eq] at a2
      exact ⟨by simpa using a1, by simpa using a2⟩
    | succ i =>
      obtain ⟨j', rfl⟩ : ∃ j', j = j' + 1 := ⟨j - 1, by omega⟩
      have hl : okPairs l (Nat.succ s) = true := by
        split at h
        · exact (andB_true h).2
        · exact h
      have := okPairs_spec hl i j' x y b ob ob' (by omega) (by simpa using hi) (by simpa using hj) hx hy
      rwa [show Nat.succ s + i = s + (i + 1) by omega] at this
theorem okNew_spec {base : Nat} {st : List (Nat × Hp)} : ∀ {its : List It} {s : Nat}, okNew base st its s = true → ∀ (j : Nat) (x : It), its[j]? = some x → x.c = .new → ∀ c B, (c, B) ∈ st → c ≤ s + j → B.get (base + (s + j)) = none
  | [], _, _, j, x, h, _, _, _, _, _ => by simp at h
  | z :: l, s, h, j, x, hj, hx, c, B, hm, hc => by
    simp only [okNew] at h
    cases j with
    | zero =>
      simp at hj; subst hj
      rw [hx] at h
      simp only at h
      obtain ⟨h1, _⟩ := andB_true h
      have := List.all_eq_true.1 h1 (c, B) hm
      have hcs : Nat.ble c s = true := by rw [Nat.ble_eq]; omega
      simp only [hcs] at this
      simp only [Nat.add_zero]
      cases hb : B.get (base + s) with
      | none => rfl
      | some o =>
        have e : B.get (Nat.add base s) = some o := hb
        rw [e] at this; cases this
    | succ j =>
      have hl : okNew base st l (Nat.succ s) = true := by
        split at h
        · exact (andB_true h).2
        · exact h
      have := okNew_spec hl j x (by simpa using hj) hx c B hm (by omega)
      rwa [show Nat.succ s + j = s + (j + 1) by omega] at this
theorem okRead_spec {P : Program} {e : Ev} {df : List ADef} {its : List It} {st : List (Nat × Hp)} {sis : List SI} : ∀ {l : List It} {s : Nat}, okRead P e df its st sis l s = true → ∀ (i : Nat) (x : It), l[i]? = some x → x.c = .read → x.wt = true →
    ∀ c B, (c, B) ∈ st → allowed c (s + i) x.msk sis = true → ∃ g', opRun P e ⟨x.T, df⟩ (cut (s + i) x.msk its 0 (join (bit x.msk) c its 0 B)) x.o.op = some (x.v, g')
  | [], _, _, i, x, h, _, _, _, _, _, _ => by simp at h
  | z :: l, s, h, i, x, hi, hx, hw, c, B, hm, ha => by
    simp only [okRead] at h
    cases i with
    | zero =>
      simp at hi; subst hi
      rw [hx] at h
      simp only [hw] at h
      obtain ⟨h1, _⟩ := andB_true h
      have := List.all_eq_true.1 h1 (c, B) hm
      simp only [Nat.add_zero] at ha
      simp only [ha] at this
      split at this
      · rename_i v g' hr
        have hv := AV.same_eq this
        subst hv
        exact ⟨g', hr⟩
      · cases this
    | succ i =>
      have hl : okRead P e df its st sis l (Nat.succ s) = true := by
        split at h
        · split at h
          · exact (andB_true h).2
          · exact h
        · exact h
      have := okRead_spec hl i x (by simpa using hi) hx hw c B hm (by rwa [show Nat.succ s + i = s + (i + 1) by omega])
      rwa [show Nat.succ s + i = s + (i + 1) by omega] at this
theorem mkSI_inv {P : Program} {ops : Array Oper} : ∀ {l : List Oper} {k : List Nat} {b i : Nat} {s : SI}, (mkSI P ops l k b)[i]? = some s → l[i]? = some s.o ∧ k[i]? = some s.msk ∧ s.cl = cls P s.o.op ∧ s.i = b + i
  | [], _, _, _, _, h => by simp [mkSI] at h
  | _ :: _, [], _, _, _, h => by simp [mkSI] at h
  | o :: l, mk :: k, b, 0, s, h => by simp [mkSI] at h; subst h; exact ⟨rfl, rfl, rfl, rfl⟩
  | o :: l, mk :: k, b, i + 1, s, h => by
    simp only [mkSI, List.getElem?_cons_succ] at h
    obtain ⟨h1, h2, h3, h4⟩ := mkSI_inv h
    exact ⟨by simpa using h1, by simpa using h2, h3, by rw [h4]; omega⟩
theorem mkSI_length {P : Program} {ops : Array Oper} : ∀ {l : List Oper} {k : List Nat} {b : Nat}, l.length = k.length → (mkSI P ops l k b).length = l.length
  | [], _, _, _ => by simp [mkSI]
  | _ :: _, [], _, h => by simp at h
  | o :: l, mk :: k, b, h => by simp at h; simp [mkSI, mkSI_length h]

theorem drawRun_drawn {P : Program} {e : Ev} {ops : Array Oper} {fr fr' : AFr} {h h' : Hp} {ex : AEx} (he : drawRun P e ops fr h = some (ex, fr', h')) :
    ∃ ms sis its Te, Drawn P e ops fr.df h.next ms sis ⟨h.t, h.next + ops.size, h.ng⟩ its Te h' ∧ ex = .normal ∧ fr' = ⟨Te, fr.df⟩ ∧ Tat its Te 0 = fr.T ∧ Hat its h' 0 = ⟨h.t, h.next + ops.size, h.ng⟩ := by
  unfold drawRun at he
  split at he
  · rename_i ms sis hp
    split at he
    · rename_i its Te He h1
      split at he
      · rename_i hd
        cases he
        unfold plan at hp
        split at hp
        · rename_i ms' hst
          cases hp
          have st := statOk_spec hst
          obtain ⟨r1, r2, r3, r4⟩ := ph1_spec h1
          have hd' : dynOk P e fr.df h.next (mkSI P ops ops.toList ms 0) ⟨h.t, h.next + ops.size, h.ng⟩ its = true := hd
          unfold dynOk at hd'
          obtain ⟨d1, hd'⟩ := andB_true hd'
          obtain ⟨d2, hd'⟩ := andB_true hd'
          obtain ⟨d3, d4⟩ := andB_true hd'
          refine ⟨ms, _, its, Te, ⟨st, ?_, ?_, rfl, ?_, ?_, ?_, ?_⟩, rfl, rfl, r2, r3⟩
          · rw [r1, mkSI_length (by rw [st.len]; simp)]; simp
          · intro i x hx
            obtain ⟨s, q1, q2, q3, q4, q5, q6, q7⟩ := r4 i x hx
            obtain ⟨p1, p2, p3, p4⟩ := mkSI_inv q1
            rw [p4, Nat.zero_add] at q5
            exact ⟨by rw [q2]; simpa using p1, by rw [q3]; exact p2, by rw [q4, p3, q2], q5, q6, q7⟩
          · intro i x hx
            exact beq_of (List.all_eq_true.1 d1 x (List.mem_of_getElem? hx))
          · intro i j x y b ob ob' hij hx hy hu hu'
            have := okPairs_spec d2 i j x y b ob ob' hij hx hy hu hu'
            rwa [Nat.zero_add] at this
          · intro j x c B hx hc hs hle
            have := okNew_spec d3 j x hx hc c B (stage_mem hs) (by omega)
            rwa [Nat.zero_add] at this
          · intro i x c B hx hc hw hs ha
            have := okRead_spec d4 i x hx hc hw c B (stage_mem hs) (by rwa [Nat.zero_add])
            rwa [Nat.zero_add] at this
        · cases hp
      · cases he
    · cases he
  · cases he
end
end Go.Ev
