/-
  An evaluator of runs and its soundness, part AD. No condition of its own.
-/
import Derived.Test.YtjandicpdddlaaaGreatDoorEvAC
namespace Go.Ev
noncomputable section

section
variable {P : Program} {e : Ev} {ops : Array Oper} {df : List ADef} {base : Nat} {ms : List Nat} {sis : List SI} {h1 : Hp} {its : List It} {Te : Tm} {He : Hp}
variable {D : Drawn P e ops df base ms sis h1 its Te He} {T0 : Tm} {m0 m : Mp} {h0 : Hp} {w0 w : World} {T : Tm} {c : Nat} {B : Hp} {L : Nat → Bool} {a : Act} {i : Nat} {x : It}

theorem selT {L : Nat → Bool} {c k : Nat} (h1 : L k = true) (h2 : c ≤ k) : sel L c k = true := by
  have : Nat.ble c k = true := by rw [Nat.ble_eq]; exact h2
  simp [sel, h1, this, andB]
theorem selF {L : Nat → Bool} {c k : Nat} (h1 : L k = false) : sel L c k = false := by simp [sel, h1, andB]
theorem sel_true {L : Nat → Bool} {c k : Nat} (h : sel L c k = true) : L k = true ∧ c ≤ k := by
  obtain ⟨g1, g2⟩ := andB_true h
  rw [Nat.ble_eq] at g2
  exact ⟨g1, g2⟩
theorem sel_eq {L L' : Nat → Bool} {c k : Nat} (h : L k = L' k) : sel L c k = sel L' c k := by simp [sel, h]

/-- What is listed already though it comes later than a great one. -/
def Over (its : List It) (L : Nat → Bool) (i b : Nat) : Prop := ∃ (k : Nat) (y : It) (ob : AObj), i < k ∧ its[k]? = some y ∧ y.u = some (b, ob) ∧ L k = true
theorem over_new (A : AtL D L i x) (hx : x.c = .big) {b : Nat} (h : Over its L i b) : ∃ (k : Nat) (y : It) (ob : AObj), i < k ∧ its[k]? = some y ∧ y.u = some (b, ob) ∧ L k = true ∧ y.c = .new ∧ b = base + k := by
  obtain ⟨k, y, ob, h1, h2, h3, h4⟩ := h
  rcases D.ucls h2 h3 with ⟨q1, q2⟩ | q
  · exact ⟨k, y, ob, h1, h2, h3, h4, q1, q2⟩
  · have := A.post h2 (D.ord h1 A.hi h2 (by rw [hx, q]; rfl))
    rw [this] at h4; cases h4
theorem over_none (A : AtL D L i x) (hx : x.c = .big) (X : TextAt its h1 i x.H c B) {b : Nat} (h : Over its L i b) : x.H.get b = none := by
  obtain ⟨k, y, ob, h1, h2, h3, h4, h5, h6⟩ := over_new A hx h
  rw [X.get b, join_none]
  · rw [h6]; exact D.news k y c B h2 h5 X.stage (by have := X.le; omega)
  · intro k' y' ob' g1 g2
    rw [Nat.zero_add]
    by_cases hk : k' < i
    · have := (D.pairs k' k y' y b ob' ob (by omega) g1 h2 g2 h3).2
      rw [h5] at this; cases this
    · exact selF (decide_eq_false hk)
theorem over_join (A : AtL D L i x) (hx : x.c = .big) (hc : c ≤ i) {b : Nat} (h : Over its L i b) (H2 : Hp) : (join (plus L i) (i + 1) its 0 H2).get b = (join L c its 0 B).get b := by
  obtain ⟨k, y, ob, h1, h2, h3, h4, _⟩ := over_new A hx h
  refine join_from h2 h3 ?_ ?_ ?_
  · rw [Nat.zero_add]; exact selT (by simp [plus, h4]) (by omega)
  · rw [Nat.zero_add]; exact selT h4 (by omega)
  · intro k' y' ob' g0 g1 g2
    rw [Nat.zero_add]
    have hne : k' ≠ i := by omega
    cases hL : L k' with
    | true => rw [selT (by simp [plus, hL]) (by omega), selT hL (by omega)]
    | false => rw [selF (by simp [plus, hL, hne]), selF hL]
theorem not_over {b : Nat} (h : ¬ Over its L i b) (H2 : Hp) : (join (plus L i) (i + 1) its 0 H2).get b = H2.get b := by
  refine join_none ?_
  intro k y ob g1 g2
  rw [Nat.zero_add]
  cases hs : sel (plus L i) (i + 1) k with
  | false => rfl
  | true =>
    obtain ⟨q1, q2⟩ := sel_true hs
    have hne : k ≠ i := by omega
    exact absurd ⟨k, y, ob, by omega, g1, g2, by simpa [plus, hne] using q1⟩ h
theorem not_over_text (A : AtL D L i x) (hx : x.c = .big) (X : TextAt its h1 i x.H c B) {b : Nat} (h : ¬ Over its L i b) : x.H.get b = (join L c its 0 B).get b := by
  rw [X.get b]
  refine join_cmp ?_ rfl
  intro k y ob g1 g2
  rw [Nat.zero_add]
  refine sel_eq ?_
  rcases Nat.lt_trichotomy k i with hk | hk | hk
  · have hf : free y.c x.c = false := by
      rcases D.ucls g1 g2 with ⟨q, _⟩ | q <;> rw [q, hx] <;> rfl
    rw [A.pre (D.ord hk g1 A.hi hf)]
    exact decide_eq_true hk
  · subst hk
    rw [A.hi] at g1; cases g1
    rw [D.bigu A.hi hx] at g2; cases g2
  · rw [decide_eq_false (by omega)]
    cases hL : L k with
    | false => rfl
    | true => exact absurd ⟨k, y, ob, hk, g1, g2, hL⟩ h

variable {lo : Option Nat} {n : Nat} {K : Act → World → Prop} {Q : Exit → Act → World → Prop}

theorem fresh_plus (A : AtL D L i x) (I : InvAt D T0 m0 h0 w0 m T c B L a w) {m' : Mp} (h : ∀ b, b < base + ops.size → m b = none → m' b = none) (j : Nat) (y : It) (hj : its[j]? = some y) (hy : y.c = .new) (hL : plus L i j = false) :
    m' (base + j) = none := by
  have hne : j ≠ i := fun hh => by subst hh; simp [plus] at hL
  refine h _ ?_ (I.fresh j y hj hy (by simpa [plus, hne] using hL))
  obtain ⟨g, _⟩ := List.getElem?_eq_some_iff.1 hj
  rw [D.len] at g
  omega

theorem draw_step (hec : SoundCode P e.code) (hcc : SoundCall P e.call) (A : AtL D L i x) (I : InvAt D T0 m0 h0 w0 m T c B L a w) (H0 : HRel m0 h0 w0) (hb0 : h0.next = base)
    (hx : TSpec its (fun k => decide (k < i)) T0 x.T) {ci : Nat} {Bi : Hp} (X : TextAt its h1 i x.H ci Bi)
    (hK : ∀ a' w', (∃ m1 T1 c1 B1, InvAt D T0 m0 h0 w0 m1 T1 c1 B1 (plus L i) a' w') → K a' w') : wpOpIn (Wd lo) n P ops Q i K a w := by
  obtain ⟨a1, a2, a3, a4, a5, a6⟩ := D.it i x A.hi
  obtain ⟨e1, e2⟩ := A.tmps I.ts hx
  have hng : B.ng = h1.ng := D.stage_ng I.stage
  have hjn := join_next L c its 0 B
  unfold wpOpIn
  simp only [a1]
  rw [wantedA_sound I.tm ops x.o, e1]
  have hfr : FrRel m ⟨T, df⟩ a := ⟨I.tm, I.df⟩
  rcases step1_cases a4 with ⟨q1, q2, q3, q4, q5⟩ | ⟨q1, q2, q⟩
  · -- not wanted
    rw [q2]
    simp only [Bool.false_eq_true, if_false]
    refine ⟨fun _ _ => trivial, hK _ _ ?_⟩
    have hv : VRel m x.v undef := by rw [q3]; exact .tuple .nil
    by_cases hc : x.c = .big
    · obtain ⟨rfl, rfl⟩ := A.stageEq I X (.inr hc)
      have hs : (join L c its 0 B).same (join (plus L i) (i + 1) its 0 x.H') := by
        refine ⟨fun b => ?_, ?_, ?_⟩
        · by_cases ho : Over its L i b
          · exact (over_join A hc X.le ho _).symm
          · rw [not_over ho, q4, not_over_text A hc X ho]
        · rw [hjn.1, (join_next _ _ _ _ _).1, q4, X.next]
        · rw [hjn.2, (join_next _ _ _ _ _).2, D.ng i x A.hi, hng]
      refine fin A I hx (.inr ⟨i, x, A.hi, hc, rfl, rfl⟩) ?_ (Mp.le_refl m) hv (I.H.congr hs) (I.E.congr hs) ?_ (fresh_plus A I (fun _ _ h => h))
      · intro k y hk hy
        by_cases hki : k = i
        · subst hki; simp [plus]
        · simp only [plus, hki, if_false]
          rw [I.bigs k y hk hy, ← X.bigs k y hk hy]
          omega
      · rw [q4, X.next]; exact I.room
    · have hs := same_plus_none (i := i) (its := its) (L := L) (c := c) (B := B) (fun it hit => by rw [A.hi] at hit; cases hit; exact q5)
      exact fin A I hx I.stage (A.bigs' I hc) (Mp.le_refl m) hv (I.H.congr hs) (I.E.congr hs) I.room (fresh_plus A I (fun _ _ h => h))
  · rw [q2]
    simp only [if_true]
    have still : ∀ {v}, opRun P e ⟨T, df⟩ (join L c its 0 B) x.o.op = some (v, join L c its 0 B) → v = x.v → x.u = none → x.c ≠ .big → x.o.wpIn (Wd lo) n P a w K Q := by
      intro v hr hv hu hc
      subst hv
      refine opRun_sound hec hcc hr I.H hfr (fun m1 w1 nv t1 t2 t3 => hK _ _ ?_)
      have hs := same_plus_none (i := i) (its := its) (L := L) (c := c) (B := B) (fun it hit => by rw [A.hi] at hit; cases hit; exact hu)
      exact fin A I hx I.stage (A.bigs' I hc) t1.sub t3 (t2.congr hs) ((I.E.trans t1).congr hs) I.room
        (fresh_plus A I (fun b hb h => t1.old b (by rw [hjn.1]; exact Nat.lt_of_lt_of_le hb I.room) h))
    rcases q with ⟨hc, ob, r1, r2, r3⟩ | ⟨hc, b, ob, r1, r2, r3, r4⟩ | ⟨n1, n2, r1, r2⟩
    · -- a new object
      have hle := A.cle I (by rw [hc]; rfl) (by rw [hc]; intro hh; cases hh)
      have hilt : i < ops.size := by
        obtain ⟨g, _⟩ := List.getElem?_eq_some_iff.1 A.hi
        rw [D.len] at g; exact g
      have r1' : anew P T (join L c its 0 B).ng (base + i) x.o.op = some (x.v, ob) := by
        rw [anew_congr (e2 _), hjn.2, hng, ← X.ng]; exact r1
      obtain ⟨nv, cc, lim, s1, s2, s3⟩ := anew_sound I.H I.tm r1'
      have hnd : ∀ c', x.o.op ≠ .defer c' := by
        intro c' hh
        rw [hh] at r1
        cases r1
      refine ⟨fun _ _ => trivial, ?_⟩
      rw [Oper.semAt_eq _ _ _ hnd, s1, Oper.uponIn_value]
      refine hK _ _ ?_
      have hid := I.fresh i x A.hi hc A.un
      have hlt : base + i < (join L c its 0 B).next := by rw [hjn.1]; have := I.room; omega
      have hs := same_plus_add (L := L) (c := c) (B := B) A.hi r3 hle (A.later r3)
      refine fin A I hx I.stage (A.bigs' I (by rw [hc]; intro hh; cases hh)) (Mp.le_ext _ hid) s3 ((I.H.allocAt hid hlt s2).congr hs) ((I.E.allocAt I.H H0 hid (by rw [hb0]; omega) rfl).congr hs) I.room ?_
      intro j y hj hy hL
      have hne : j ≠ i := fun hh => by subst hh; simp [plus] at hL
      rw [Mp.ext_other _ _ (by omega)]
      exact I.fresh j y hj hy (by simpa [plus, hne] using hL)
    · -- a store
      obtain ⟨rfl, rfl⟩ := A.stageEq I X (.inl hc)
      have hget : (join L c its 0 B).get b = x.H.get b := by
        rw [X.get b]
        refine join_cmp ?_ rfl
        intro k y ob' g1 g2
        rw [Nat.zero_add]
        refine sel_eq ?_
        rcases Nat.lt_trichotomy k i with hk | hk | hk
        · rw [A.pre (D.pairs k i y x b ob' ob hk g1 A.hi g2 r4).1]
          exact (decide_eq_true hk).symm
        · subst hk; rw [A.un]; simp
        · rw [A.later r4 k y ob' hk g1 g2]
          exact (decide_eq_false (by omega)).symm
      have r1' : astoreU P T (join L c its 0 B) x.o.op = some (b, ob) :=
        astoreU_congr (fun y hy => (e2 _ y hy).symm) (by rw [hjn.2, hng, X.ng]) r1 hget
      refine opRun_sound hec hcc (astoreU_run r1') I.H hfr (fun m1 w1 nv t1 t2 t3 => hK _ _ ?_)
      have hs := same_plus_add (L := L) (c := c) (B := B) A.hi r4 X.le (A.later r4)
      exact fin A I hx I.stage (A.bigs' I (by rw [hc]; intro hh; cases hh)) t1.sub (by rw [r2]; exact t3) (t2.congr hs) ((I.E.trans t1).congr hs) I.room
        (fresh_plus A I (fun b hb h => t1.old b (by rw [hjn.1]; exact Nat.lt_of_lt_of_le hb I.room) h))
    · cases hc : x.c with
      | new => exact absurd hc n1
      | store => exact absurd hc n2
      | pure =>
        obtain ⟨s1, s2⟩ := pure_any (by rw [← a3]; exact hc) r1
        have := s2 (join L c its 0 B) (by rw [hjn.2, hng, X.ng])
        rw [opRun_congr (T := x.T) (T' := T) (df' := df) (fun y hy => (e2 _ y hy).symm)] at this
        exact still this rfl r2 (by rw [hc]; intro hh; cases hh)
      | read =>
        have hall : allowed c i x.msk sis = true := by
          have gen : ∀ (l : List SI), (∀ s ∈ l, s ∈ sis) → allowed c i x.msk l = true := by
            intro l
            induction l with
            | nil => intro _; rfl
            | cons s l ih =>
              intro hl
              have ih' := ih (fun s hs => hl s (List.mem_cons_of_mem _ hs))
              simp only [allowed]
              split
              · rename_i hbig
                rw [ih']
                obtain ⟨k, hk⟩ := List.getElem?_of_mem (hl s (List.mem_cons_self ..))
                rw [D.hsis] at hk
                obtain ⟨p1, p2, p3, p4⟩ := mkSI_inv hk
                rw [Nat.zero_add] at p4
                have hklt : k < its.length := by
                  rw [D.len]
                  obtain ⟨g, _⟩ := List.getElem?_eq_some_iff.1 p1
                  simpa using g
                obtain ⟨y, hy⟩ : ∃ y, its[k]? = some y := ⟨its[k], List.getElem?_eq_getElem hklt⟩
                obtain ⟨b1, b2, b3, _⟩ := D.it k y hy
                have ho : y.o = s.o := by
                  have p1' : ops[k]? = some s.o := by simpa using p1
                  rw [p1'] at b1; exact (Option.some.inj b1).symm
                have hm : y.msk = s.msk := by rw [p2] at b2; exact (Option.some.inj b2).symm
                have hyc : y.c = .big := by rw [b3, ho, ← p3, hbig]
                have hbk := I.bigs k y hy hyc
                rw [p4, bit_eq, bit_eq]
                have g1 : orB (notB (x.msk.testBit k)) (Nat.blt k c) = true := by
                  cases hbit : x.msk.testBit k with
                  | false => rfl
                  | true =>
                    have : k < c := hbk.1 (A.pre hbit)
                    simp only [notB, orB]
                    simp only [Nat.blt, Nat.ble_eq]
                    omega
                have g2 : orB (notB (Nat.blt k c)) (notB (s.msk.testBit i)) = true := by
                  cases hbl : Nat.blt k c with
                  | false => rfl
                  | true =>
                    have hkc : k < c := by
                      simp only [Nat.blt, Nat.ble_eq] at hbl
                      omega
                    cases hbit : s.msk.testBit i with
                    | false => rfl
                    | true =>
                      have := A.post hy (by rw [hm]; exact hbit)
                      rw [hbk.2 hkc] at this; cases this
                rw [g1, g2]
                rfl
              · exact ih'
          exact gen sis (fun _ h => h)
        obtain ⟨g', hg'⟩ := D.reads i x c B A.hi hc q1 I.stage hall
        have hjb := join_next (bit x.msk) c its 0 B
        have hjc := cut_next i x.msk its 0 (join (bit x.msk) c its 0 B)
        obtain ⟨s1, s2⟩ := read_mono (by rw [← a3]; exact hc) hg'
        have := s2 (join L c its 0 B) (by rw [hjn.2, hjc.2, hjb.2]) ?_
        · rw [opRun_congr (T := x.T) (T' := T) (df' := df) (fun y hy => (e2 _ y hy).symm)] at this
          exact still this rfl r2 (by rw [hc]; intro hh; cases hh)
        · intro b o hb0'
          obtain ⟨hb, hcut⟩ := cut_get hb0'
          by_cases hall2 : ∀ (k : Nat) (y : It) (ob : AObj), its[k]? = some y → y.u = some (b, ob) → sel (bit x.msk) c k = sel L c k
          · rw [← hb]
            refine (join_cmp ?_ rfl).symm
            intro k y ob g1 g2
            rw [Nat.zero_add]
            exact hall2 k y ob g1 g2
          · exfalso
            obtain ⟨k, hall2⟩ := Classical.not_forall.1 hall2
            obtain ⟨y, hall2⟩ := Classical.not_forall.1 hall2
            obtain ⟨ob, hall2⟩ := Classical.not_forall.1 hall2
            obtain ⟨g1, hall2⟩ := Classical.not_imp.1 hall2
            obtain ⟨g2, hne⟩ := Classical.not_imp.1 hall2
            have hck : c ≤ k := by
              rcases Nat.lt_or_ge k c with h | h
              · exfalso
                apply hne
                have : Nat.ble c k = false := by
                  cases hh : Nat.ble c k with
                  | false => rfl
                  | true => rw [Nat.ble_eq] at hh; omega
                simp only [sel, this]
                cases bit x.msk k <;> cases L k <;> rfl
              · exact h
            have hbk : x.msk.testBit k = false := by
              cases hh : x.msk.testBit k with
              | false => rfl
              | true => exact absurd (sel_eq (by rw [bit_eq, hh, A.pre hh])) hne
            have hLk : L k = true := by
              cases hh : L k with
              | true => rfl
              | false => exact absurd (sel_eq (by rw [bit_eq, hbk, hh])) hne
            rcases D.ucls g1 g2 with ⟨p1, p2⟩ | p
            · have hno : (join (bit x.msk) c its 0 B).get b = B.get b := by
                refine join_none ?_
                intro j z ob' f1 f2
                rw [Nat.zero_add]
                refine selF ?_
                rw [bit_eq]
                rcases Nat.lt_trichotomy j k with h | h | h
                · have := (D.pairs j k z y b ob' ob h f1 g1 f2 g2).2
                  rw [p1] at this; cases this
                · subst h; exact hbk
                · have hp := (D.pairs k j y z b ob ob' h g1 f1 g2 f2).1
                  cases hh : x.msk.testBit j with
                  | false => rfl
                  | true =>
                    obtain ⟨_, b2, _⟩ := D.it j z f1
                    have := D.st.good.trans i x.msk j z.msk a2 hh b2 k hp
                    rw [hbk] at this; cases this
              rw [hno, p2, D.news k y c B g1 p1 I.stage hck] at hb
              cases hb
            · have := hcut k y ob g1 p g2
              rw [Nat.zero_add] at this
              rcases this with h | h
              · rw [hbk] at h; cases h
              · have := A.post g1 h
                rw [hLk] at this; cases this
      | big =>
        obtain ⟨rfl, rfl⟩ := A.stageEq I X (.inr hc)
        have hsub : ∀ b o, x.H.get b = some o → (join L c its 0 B).get b = some o := by
          intro b o hb
          by_cases ho : Over its L i b
          · rw [over_none A hc X ho] at hb; cases hb
          · rw [← not_over_text A hc X ho]; exact hb
        have hn1 : x.H.next = (join L c its 0 B).next := by rw [hjn.1, X.next]
        have hg1 : x.H.ng = (join L c its 0 B).ng := by rw [hjn.2, hng, X.ng]
        have hH := I.H.less hsub hn1 hg1
        rw [opRun_congr (T := x.T) (T' := T) (df' := df) (fun y hy => (e2 _ y hy).symm)] at r1
        refine opRun_sound hec hcc r1 hH hfr (fun m1 w1 nv t1 t2 t3 => hK _ _ ?_)
        have hj2 := join_next (plus L i) (i + 1) its 0 x.H'
        obtain ⟨f1, f2⟩ := frame I.H I.E H0 t1 t2 hn1 hg1 hj2.1 hj2.2 (Over its L i) (fun b hb => not_over_text A hc X hb)
          (fun b hb => ⟨over_join A hc X.le hb _, over_none A hc X hb, by
            obtain ⟨k, _, _, _, _, _, _, _, hbk⟩ := over_new A hc hb
            rw [hb0]; omega⟩) (fun b hb => not_over hb _)
        refine fin A I hx (.inr ⟨i, x, A.hi, hc, rfl, rfl⟩) ?_ t1.sub t3 f1 f2 ?_ (fresh_plus A I (fun b hb h => t1.old b (by rw [X.next]; exact Nat.lt_of_lt_of_le hb I.room) h))
        · intro k y hk hy
          by_cases hki : k = i
          · subst hki; simp [plus]
          · simp only [plus, hki, if_false]
            rw [I.bigs k y hk hy, ← X.bigs k y hk hy]
            omega
        · exact Nat.le_trans I.room (by rw [← X.next]; exact t1.nxt)
end
end
end Go.Ev
