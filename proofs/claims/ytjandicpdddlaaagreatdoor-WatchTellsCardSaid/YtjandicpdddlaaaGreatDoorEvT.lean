/-
  An evaluator of runs and its soundness, part T. No condition of its own.
-/
import Derived.Test.YtjandicpdddlaaaGreatDoorEvR
import Derived.OrdersIn
namespace Go.Ev
noncomputable section

/-! ### A new block under a name that was laid by -/
theorem HRel.allocAt {m : Mp} {h : Hp} {w : World} (H : HRel m h w) {o : AObj} {lim : Nat} {c : Obj} {id : Nat} (hid : m id = none) (hlt : id < h.next) (ho : ORel m o ⟨w.heap.size, 0, lim⟩ c) :
    HRel (m.ext id ⟨w.heap.size, 0, lim⟩) (h.set id o) (w.alloc c) := by
  have hle := Mp.le_ext (m := m) (b := id) ⟨w.heap.size, 0, lim⟩ hid
  have hold : ∀ k, k < w.heap.size → (w.alloc c).heap[k]? = w.heap[k]? := fun k hk => by
    show (w.heap.push c)[k]? = _
    rw [Array.getElem?_push, if_neg (by omega)]
  refine ⟨?_, ?_, ?_, ?_, ?_, ?_⟩
  · intro b x hb
    show b < h.next
    by_cases e : b = id
    · omega
    · rw [Mp.ext_other _ _ e] at hb; exact H.dom _ _ hb
  · intro b x hb
    simp only [World.size_alloc]
    by_cases e : b = id
    · subst e; rw [Mp.ext_same] at hb; cases hb; simp
    · rw [Mp.ext_other _ _ e] at hb; have := H.bnd _ _ hb; omega
  · intro b o' hb
    rw [Hp.get_set] at hb
    by_cases e : b = id
    · subst e
      simp only [if_true, Option.some.injEq] at hb; subst hb
      exact ⟨_, c, Mp.ext_same _ _ _, by show (w.heap.push c)[w.heap.size]? = _; simp, ho.mono hle⟩
    · simp only [e, if_false] at hb
      obtain ⟨x, c', h1, h2, h3⟩ := H.obj _ _ hb
      exact ⟨x, c', hle _ _ h1, by rw [hold _ (H.bnd _ _ h1)]; exact h2, h3.mono hle⟩
  · intro b b' o1 o2 x x' hb hb' hx hx' hc
    rw [Hp.get_set] at hb hb'
    by_cases e : b = id <;> by_cases e' : b' = id
    · rw [e, e']
    · subst e
      rw [Mp.ext_same] at hx; rw [Mp.ext_other _ _ e'] at hx'; cases hx
      have := H.bnd _ _ hx'; simp only at hc; omega
    · subst e'
      rw [Mp.ext_same] at hx'; rw [Mp.ext_other _ _ e] at hx; cases hx'
      have := H.bnd _ _ hx; simp only at hc; omega
    · rw [Mp.ext_other _ _ e] at hx; rw [Mp.ext_other _ _ e'] at hx'
      simp only [e, e', if_false] at hb hb'
      exact H.inj _ _ _ _ _ _ hb hb' hx hx' hc
  · intro g hg
    obtain ⟨l, e⟩ := H.glob g hg
    exact ⟨l, hle _ _ e⟩
  · intro c1 a hk
    have hlt := H.frzLt (c := c1) (a := a) hk
    obtain ⟨⟨e, fr, h1⟩, h2⟩ := H.frz c1 a hk
    refine ⟨⟨e, fr, by rw [hold _ hlt]; exact h1⟩, fun b o1 x g1 g2 g3 => ?_⟩
    rw [Hp.get_set] at g1
    by_cases e : b = id
    · subst e; rw [Mp.ext_same] at g2; cases g2; simp at g3; omega
    · rw [if_neg e] at g1; rw [Mp.ext_other _ _ e] at g2; exact h2 b o1 x g1 g2 g3

/-- The same, behind what went before. -/
theorem Ext.allocAt {m0 m : Mp} {h0 h : Hp} {w0 w : World} (E : Ext m0 h0 w0 m h w) (H : HRel m h w) (H0 : HRel m0 h0 w0) {o : AObj} {x : Blk} {c : Obj} {id : Nat} (hid : m id = none) (hge : h0.next ≤ id) (hx : x.c = w.heap.size) :
    Ext m0 h0 w0 (m.ext id x) (h.set id o) (w.alloc c) := by
  have hle := Mp.le_ext (m := m) (b := id) x hid
  have hold : ∀ k, k < w.heap.size → (w.alloc c).heap[k]? = w.heap[k]? := fun k hk => by
    show (w.heap.push c)[k]? = _
    rw [Array.getElem?_push, if_neg (by omega)]
  refine ⟨Mp.le_trans E.sub hle, E.nxt, E.ng, E.os, E.tape, E.output, ?_, ?_, ?_, ?_, ?_, E.kq⟩
  · have := E.size; simp only [World.size_alloc]; omega
  · intro k hk hn
    rw [hold k (Nat.lt_of_lt_of_le hk E.size)]
    exact E.kept k hk hn
  · intro b o1 x1 hb hm hc
    rw [Hp.get_set] at hb
    by_cases e : b = id
    · subst e; rw [Mp.ext_same] at hm; cases hm; have := E.size; omega
    · rw [if_neg e] at hb; rw [Mp.ext_other _ _ e] at hm
      exact E.img b o1 x1 hb hm hc
  · intro b o1 hb hr
    obtain ⟨h1, h2⟩ := E.ro b o1 hb hr
    obtain ⟨y, _, hy, _⟩ := H0.obj _ _ hb
    have hlt := H0.dom _ _ hy
    refine ⟨by rw [Hp.get_set, if_neg (by omega)]; exact h1, fun z hz => ?_⟩
    rw [hold _ (Nat.lt_of_lt_of_le (H0.bnd _ _ hz) E.size)]
    exact h2 z hz
  · intro k hk hm
    rw [Mp.ext_other _ _ (by omega)]
    exact E.old k hk hm

/-! ### Heaps that say the same -/
def Hp.same (h h' : Hp) : Prop := (∀ b, h.get b = h'.get b) ∧ h.next = h'.next ∧ h.ng = h'.ng
theorem HRel.congr {m : Mp} {h h' : Hp} {w : World} (H : HRel m h w) (s : h.same h') : HRel m h' w :=
  ⟨fun b x hb => s.2.1 ▸ H.dom b x hb, H.bnd, fun b o hb => H.obj b o (by rw [s.1]; exact hb),
    fun b b' o o' x x' h1 h2 => H.inj b b' o o' x x' (by rw [s.1]; exact h1) (by rw [s.1]; exact h2), fun g hg => H.glob g (by rw [s.2.2]; exact hg), fun c a hk => ⟨(H.frz c a hk).1, fun b o x hb => (H.frz c a hk).2 b o x (by rw [s.1]; exact hb)⟩⟩
theorem Ext.congr {m0 m : Mp} {h0 h h' : Hp} {w0 w : World} (E : Ext m0 h0 w0 m h w) (s : h.same h') : Ext m0 h0 w0 m h' w :=
  ⟨E.sub, s.2.1 ▸ E.nxt, s.2.2 ▸ E.ng, E.os, E.tape, E.output, E.size, E.kept, fun b o x hb => E.img b o x (by rw [s.1]; exact hb), fun b o hb hr => by
    obtain ⟨h1, h2⟩ := E.ro b o hb hr
    exact ⟨by rw [← s.1]; exact h1, h2⟩, E.old, E.kq⟩
/-- A heap that says less. -/
theorem HRel.less {m : Mp} {h h' : Hp} {w : World} (H : HRel m h w) (hs : ∀ b o, h'.get b = some o → h.get b = some o) (hn : h'.next = h.next) (hg : h'.ng = h.ng) : HRel m h' w :=
  ⟨fun b x hb => by rw [hn]; exact H.dom b x hb, H.bnd, fun b o hb => H.obj b o (hs _ _ hb),
    fun b b' o o' x x' h1 h2 => H.inj b b' o o' x x' (hs _ _ h1) (hs _ _ h2), fun g hh => H.glob g (by rw [← hg]; exact hh), fun c a hk => ⟨(H.frz c a hk).1, fun b o x hb => (H.frz c a hk).2 b o x (hs _ _ hb)⟩⟩

/-- What ran on less leaves the rest as it was. 'X' names the rest. -/
theorem frame {m0 m m' : Mp} {h0 h H1 H2 h' : Hp} {w0 w w' : World} (H : HRel m h w) (E0 : Ext m0 h0 w0 m h w) (H0 : HRel m0 h0 w0)
    (hE : Ext m H1 w m' H2 w') (hr : HRel m' H2 w') (hn : H1.next = h.next) (hg : H1.ng = h.ng) (hn' : h'.next = H2.next) (hg' : h'.ng = H2.ng) (X : Nat → Prop) (hZ : ∀ b, ¬ X b → H1.get b = h.get b)
    (hX : ∀ b, X b → h'.get b = h.get b ∧ H1.get b = none ∧ h0.next ≤ b) (hY : ∀ b, ¬ X b → h'.get b = H2.get b) : HRel m' h' w' ∧ Ext m0 h0 w0 m' h' w' := by
  have hs : ∀ b o, H1.get b = some o → h.get b = some o := fun b o hb => by
    by_cases g : X b
    · rw [(hX _ g).2.1] at hb; cases hb
    · rw [← hZ _ g]; exact hb
  have keep : ∀ b o, X b → h.get b = some o → ∀ x, m b = some x → w'.heap[x.c]? = w.heap[x.c]? ∧ x.c < w.heap.size := by
    intro b o hb ho x hx
    refine ⟨hE.kept _ (H.bnd _ _ hx) ?_, H.bnd _ _ hx⟩
    intro b1 o1 x1 h1 h2 he
    have := H.inj _ _ _ _ _ _ (hs _ _ h1) ho h2 hx he
    subst this
    rw [(hX _ hb).2.1] at h1
    cases h1
  have far : ∀ b o, X b → h.get b = some o → ∀ x, m b = some x → ∀ b2 o2 x2, H2.get b2 = some o2 → m' b2 = some x2 → x2.c ≠ x.c := by
    intro b o hb ho x hx b2 o2 x2 h1 h2 he
    obtain ⟨b3, o3, x3, g1, g2, g3⟩ := hE.img _ _ _ h1 h2 (by rw [he]; exact H.bnd _ _ hx)
    have := H.inj _ _ _ _ _ _ (hs _ _ g1) ho g2 hx (g3.trans he)
    subst this
    rw [(hX _ hb).2.1] at g1
    cases g1
  refine ⟨⟨?_, hr.bnd, ?_, ?_, ?_, ?_⟩, ?_⟩
  · intro b x hb; rw [hn']; exact hr.dom b x hb
  · intro b o hb
    by_cases hx : X b
    · rw [(hX _ hx).1] at hb
      obtain ⟨x, c, h1, h2, h3⟩ := H.obj _ _ hb
      exact ⟨x, c, hE.sub _ _ h1, by rw [(keep _ _ hx hb _ h1).1]; exact h2, h3.mono hE.sub⟩
    · rw [hY _ hx] at hb; exact hr.obj _ _ hb
  · intro b1 b2 o1 o2 x1 x2 h1 h2 e1 e2 hc
    by_cases g1 : X b1 <;> by_cases g2 : X b2
    · rw [(hX _ g1).1] at h1; rw [(hX _ g2).1] at h2
      obtain ⟨y1, _, f1, _⟩ := H.obj _ _ h1
      obtain ⟨y2, _, f2, _⟩ := H.obj _ _ h2
      have a1 := hE.sub _ _ f1; have a2 := hE.sub _ _ f2
      rw [e1] at a1; cases a1; rw [e2] at a2; cases a2
      exact H.inj _ _ _ _ _ _ h1 h2 f1 f2 hc
    · rw [(hX _ g1).1] at h1; rw [hY _ g2] at h2
      obtain ⟨y1, _, f1, _⟩ := H.obj _ _ h1
      have a1 := hE.sub _ _ f1
      rw [e1] at a1; cases a1
      exact absurd hc.symm (far _ _ g1 h1 _ f1 _ _ _ h2 e2)
    · rw [hY _ g1] at h1; rw [(hX _ g2).1] at h2
      obtain ⟨y2, _, f2, _⟩ := H.obj _ _ h2
      have a2 := hE.sub _ _ f2
      rw [e2] at a2; cases a2
      exact absurd hc (far _ _ g2 h2 _ f2 _ _ _ h1 e1)
    · rw [hY _ g1] at h1; rw [hY _ g2] at h2
      exact hr.inj _ _ _ _ _ _ h1 h2 e1 e2 hc
  · intro g hh; rw [hg'] at hh; exact hr.glob g hh
  · intro c a hk
    refine ⟨(hr.frz c a hk).1, fun b o x hb hm hc => ?_⟩
    by_cases hx : X b
    · rw [(hX _ hx).1] at hb
      obtain ⟨y, _, f, _⟩ := H.obj _ _ hb
      have e := hE.sub _ _ f
      rw [hm] at e; cases e
      obtain ⟨_, hlt⟩ := keep _ _ hx hb _ f
      have : m.K c = some a := by rw [← hE.kq]; exact hk
      exact (H.frz c a this).2 _ _ _ hb f hc
    · rw [hY _ hx] at hb; exact (hr.frz c a hk).2 _ _ _ hb hm hc
  · refine ⟨Mp.le_trans E0.sub hE.sub, ?_, ?_, hE.os.trans E0.os, hE.tape.trans E0.tape, hE.output.trans E0.output, Nat.le_trans E0.size hE.size, ?_, ?_, ?_, ?_, ?_⟩
    · rw [hn']; exact Nat.le_trans E0.nxt (by rw [← hn]; exact hE.nxt)
    · rw [hg', hE.ng, hg, E0.ng]
    · intro c hc hno
      rw [hE.kept c (Nat.lt_of_lt_of_le hc E0.size) ?_, E0.kept c hc hno]
      intro b o x hb hm he
      obtain ⟨b', o', x', q1, q2, q3⟩ := E0.img b o x (hs _ _ hb) hm (by rw [he]; exact hc)
      exact hno _ _ _ q1 q2 (q3.trans he)
    · intro b o x hb hm hc
      by_cases g : X b
      · rw [(hX _ g).1] at hb
        obtain ⟨y, _, f, _⟩ := H.obj _ _ hb
        have a := hE.sub _ _ f
        rw [hm] at a; cases a
        exact E0.img _ _ _ hb f hc
      · rw [hY _ g] at hb
        obtain ⟨b', o', x', q1, q2, q3⟩ := hE.img _ _ _ hb hm (Nat.lt_of_lt_of_le hc E0.size)
        obtain ⟨b2, o2, x2, r1, r2, r3⟩ := E0.img _ _ _ (hs _ _ q1) q2 (by rw [q3]; exact hc)
        exact ⟨b2, o2, x2, r1, r2, r3.trans q3⟩
    · intro b o hb hro
      obtain ⟨q1, q2⟩ := E0.ro _ _ hb hro
      obtain ⟨y, _, hy, _⟩ := H0.obj _ _ hb
      have hlt := H0.dom _ _ hy
      have hnx : ¬ X b := fun hx => by have := (hX _ hx).2.2; omega
      obtain ⟨r1, r2⟩ := hE.ro _ _ (by rw [hZ _ hnx]; exact q1) hro
      exact ⟨by rw [hY _ hnx]; exact r1, fun x hx => (r2 x (E0.sub _ _ hx)).trans (q2 x hx)⟩
    · intro b hb hm
      exact hE.old _ (by rw [hn]; exact Nat.lt_of_lt_of_le hb E0.nxt) (E0.old _ hb hm)
    · rw [hE.kq, E0.kq]
end
end Go.Ev
