/-
  An evaluator of runs and its soundness, part B. No condition of its own.
-/
import Derived.Test.YtjandicpdddlaaaGreatDoorEvA
namespace Go.Ev

/-! ### Temporaries, objects, heaps -/
structure Tm where
  t : Tr AV
  sz : Nat

noncomputable def Tm.get (T : Tm) (i : Nat) : AV := Option.rec (motive := fun _ => AV) (.tuple []) (fun v => v) (T.t.get i)
noncomputable def Tm.put (T : Tm) (i : Nat) (v : AV) : Tm := Tm.rec (motive := fun _ => Tm) (fun t n => ⟨t.set v i, n⟩) T
theorem Tm.get_put (T : Tm) (i k : Nat) (v : AV) : (T.put i v).get k = if k = i then v else T.get k := by
  unfold Tm.get Tm.put
  simp only [Tr.get_set]
  by_cases h : k = i <;> simp [h]

structure TmRel (m : Mp) (T : Tm) (a : Array Value) : Prop where
  size : a.size = T.sz
  get : ∀ i, VRel m (T.get i) (a.getD i undef)

theorem TmRel.mono {m m' : Mp} (hm : m.le m') {T : Tm} {a : Array Value} (h : TmRel m T a) : TmRel m' T a := ⟨h.size, fun i => (h.get i).mono hm⟩
theorem TmRel.put {m : Mp} {T : Tm} {a : Array Value} (h : TmRel m T a) {i : Nat} (hi : i < T.sz) {v : AV} {v' : Value} (hv : VRel m v v') :
    TmRel m (T.put i v) (a.setIfInBounds i v') := by
  refine ⟨by simp [Tm.put, h.size], fun k => ?_⟩
  rw [Tm.get_put]
  by_cases e : k = i
  · subst e
    simp only [if_true]
    have : k < a.size := by rw [h.size]; exact hi
    simpa [Array.getD_eq_getD_getElem?, Array.getElem?_setIfInBounds, this] using hv
  · simp only [e, if_false]
    have := h.get k
    simpa [Array.getD_eq_getD_getElem?, Array.getElem?_setIfInBounds, Ne.symm e] using this

inductive AObj where
  | cells (cs : List AV) (wr op : Bool)
  | map (es : List (AV × AV × Nat)) (clock : Nat)
  | loop (st : LoopState) (pend : Option Code) (T : Tm) (params : Array Tmp) (asg body : Code) (df : Nat)
  | dfr (live : Bool)

def AObj.ro : AObj → Bool
  | .cells _ wr _ => !wr
  | _ => false

structure Hp where
  t : Tr AObj
  next : Nat
  ng : Nat

noncomputable def Hp.get (h : Hp) (b : Nat) : Option AObj := h.t.get b
noncomputable def Hp.set (h : Hp) (b : Nat) (o : AObj) : Hp := Hp.rec (motive := fun _ => Hp) (fun t n g => ⟨t.set o b, n, g⟩) h
noncomputable def Hp.kill (h : Hp) (b : Nat) : Hp := Hp.rec (motive := fun _ => Hp) (fun t n g => ⟨t.erase b, n, g⟩) h
noncomputable def Hp.alloc (h : Hp) (o : AObj) : Hp := Hp.rec (motive := fun _ => Hp) (fun t n g => ⟨t.set o n, Nat.succ n, g⟩) h
noncomputable def Hp.bump (h : Hp) (k : Nat) : Hp := Hp.rec (motive := fun _ => Hp) (fun t n g => ⟨t, Nat.add n k, g⟩) h
theorem Hp.bump_eq (h : Hp) (k : Nat) : h.bump k = ⟨h.t, h.next + k, h.ng⟩ := rfl
theorem Hp.get_set (h : Hp) (b k : Nat) (o : AObj) : (h.set b o).get k = if k = b then some o else h.get k := Tr.get_set _ _ _ _
theorem Hp.get_kill (h : Hp) (b k : Nat) : (h.kill b).get k = if k = b then none else h.get k := Tr.get_erase _ _ _
theorem Hp.get_alloc (h : Hp) (k : Nat) (o : AObj) : (h.alloc o).get k = if k = h.next then some o else h.get k := Tr.get_set _ _ _ _

inductive ERel (m : Mp) : List (AV × AV × Nat) → List MapEntry → Prop
  | nil : ERel m [] []
  | cons {k v : AV} {n : Nat} {e : MapEntry} {l : List (AV × AV × Nat)} {l' : List MapEntry} (hk : VRel m k e.key) (hv : VRel m v e.val) (hn : e.born = n) (t : ERel m l l') :
      ERel m ((k, v, n) :: l) (e :: l')
theorem ERel.mono {m m' : Mp} (hm : m.le m') : ∀ {l : List (AV × AV × Nat)} {l' : List MapEntry}, ERel m l l' → ERel m' l l'
  | _, _, .nil => .nil
  | _, _, .cons hk hv hn t => .cons (hk.mono hm) (hv.mono hm) hn (ERel.mono hm t)

def ORel (m : Mp) : AObj → Blk → Obj → Prop
  | .cells cs wr op, x, .cells arr _ fr => arr.size = x.lim ∧ x.base + cs.length ≤ x.lim ∧ (op = false → x.base + cs.length = x.lim) ∧
      LRel m cs ((arr.toList.drop x.base).take cs.length) ∧ (wr = true → ∀ i, x.base ≤ i → i < x.lim → ¬ (fr.1 ≤ i ∧ i < fr.2))
  | .map es clock, _, .map es' clock' => ERel m es es'.toList ∧ clock' = clock
  | .loop st pend T params asg body df, _, .loop l => l.state = st ∧ l.pending = pend ∧ TmRel m T l.tmps ∧ l.params = params ∧ l.assign = asg ∧ l.body = body ∧
      ∃ y, m df = some y ∧ y.c = l.defers
  | .dfr live, _, .deferred ds => ds = if live then some [] else none
  | _, _, _ => False

theorem ORel.mono {m m' : Mp} (hm : m.le m') {o : AObj} {x : Blk} {c : Obj} (h : ORel m o x c) : ORel m' o x c := by
  cases o with
  | cells cs wr op => cases c <;> first | exact h.elim | exact ⟨h.1, h.2.1, h.2.2.1, h.2.2.2.1.mono hm, h.2.2.2.2⟩
  | map es clock => cases c <;> first | exact h.elim | exact ⟨h.1.mono hm, h.2⟩
  | loop st pend T params asg body df =>
    cases c <;> first | exact h.elim | (obtain ⟨h1, h2, h3, h4, h5, h6, y, hy, he⟩ := h; exact ⟨h1, h2, h3.mono hm, h4, h5, h6, y, hm _ _ hy, he⟩)
  | dfr live => cases c <;> first | exact h.elim | exact h

structure HRel (m : Mp) (h : Hp) (w : World) : Prop where
  dom : ∀ b x, m b = some x → b < h.next
  bnd : ∀ b x, m b = some x → x.c < w.heap.size
  obj : ∀ b o, h.get b = some o → ∃ x c, m b = some x ∧ w.heap[x.c]? = some c ∧ ORel m o x c
  inj : ∀ b b' o o' x x', h.get b = some o → h.get b' = some o' → m b = some x → m b' = some x' → x.c = x'.c → b = b'
  glob : ∀ g, g < h.ng → ∃ lim, m g = some ⟨g, 0, lim⟩
  frz : ∀ c a, m.K c = some a → (∃ e fr, w.heap[c]? = some (.cells a e fr)) ∧ ∀ b o x, h.get b = some o → m b = some x → x.c = c → o.ro = true

structure Ext (m : Mp) (h : Hp) (w : World) (m' : Mp) (h' : Hp) (w' : World) : Prop where
  sub : m.le m'
  nxt : h.next ≤ h'.next
  ng : h'.ng = h.ng
  os : w'.os = w.os
  tape : w'.tape = w.tape
  output : w'.output = w.output
  size : w.heap.size ≤ w'.heap.size
  kept : ∀ c, c < w.heap.size → (∀ b o x, h.get b = some o → m b = some x → x.c ≠ c) → w'.heap[c]? = w.heap[c]?
  img : ∀ b o x, h'.get b = some o → m' b = some x → x.c < w.heap.size → ∃ b' o' x', h.get b' = some o' ∧ m b' = some x' ∧ x'.c = x.c
  ro : ∀ b o, h.get b = some o → o.ro = true → h'.get b = some o ∧ ∀ x, m b = some x → w'.heap[x.c]? = w.heap[x.c]?
  old : ∀ b, b < h.next → m b = none → m' b = none
  kq : m'.K = m.K

theorem Ext.refl (m : Mp) (h : Hp) (w : World) : Ext m h w m h w :=
  ⟨Mp.le_refl m, Nat.le_refl _, rfl, rfl, rfl, rfl, Nat.le_refl _, fun _ _ _ => rfl, fun b o x hb hm _ => ⟨b, o, x, hb, hm, rfl⟩, fun _ _ hb _ => ⟨hb, fun _ _ => rfl⟩, fun _ _ h => h, rfl⟩

theorem Ext.trans {m m1 m2 : Mp} {h h1 h2 : Hp} {w w1 w2 : World} (a : Ext m h w m1 h1 w1) (b : Ext m1 h1 w1 m2 h2 w2) : Ext m h w m2 h2 w2 where
  sub := Mp.le_trans a.sub b.sub
  nxt := Nat.le_trans a.nxt b.nxt
  ng := b.ng.trans a.ng
  os := b.os.trans a.os
  tape := b.tape.trans a.tape
  output := b.output.trans a.output
  size := Nat.le_trans a.size b.size
  kept := fun c hc hn => by
    rw [b.kept c (Nat.lt_of_lt_of_le hc a.size) ?_, a.kept c hc hn]
    intro k o x hk hm e
    obtain ⟨b', o', x', h1', h2', h3'⟩ := a.img k o x hk hm (e ▸ hc)
    exact hn b' o' x' h1' h2' (h3'.trans e)
  img := fun k o x hk hm hx => by
    obtain ⟨b', o', x', h1', h2', h3'⟩ := b.img k o x hk hm (Nat.lt_of_lt_of_le hx a.size)
    obtain ⟨b2, o2, x2, e1, e2, e3⟩ := a.img b' o' x' h1' h2' (h3' ▸ hx)
    exact ⟨b2, o2, x2, e1, e2, e3.trans h3'⟩
  ro := fun k o hk hr => by
    obtain ⟨h1', e1⟩ := a.ro k o hk hr
    obtain ⟨h2', e2⟩ := b.ro k o h1' hr
    exact ⟨h2', fun x hx => (e2 x (a.sub _ _ hx)).trans (e1 x hx)⟩
  old := fun k hb hm => b.old _ (Nat.lt_of_lt_of_le hb a.nxt) (a.old _ hb hm)
  kq := b.kq.trans a.kq

theorem HRel.drew {m : Mp} {h : Hp} {w : World} (H : HRel m h w) : HRel m h w.drew := ⟨H.dom, H.bnd, H.obj, H.inj, H.glob, H.frz⟩
theorem Ext.drew (m : Mp) (h : Hp) (w : World) : Ext m h w m h w.drew :=
  ⟨Mp.le_refl m, Nat.le_refl _, rfl, rfl, rfl, rfl, Nat.le_refl _, fun _ _ _ => rfl, fun b o x hb hm _ => ⟨b, o, x, hb, hm, rfl⟩, fun _ _ hb _ => ⟨hb, fun _ _ => rfl⟩, fun _ _ h => h, rfl⟩

def Mp.ext (m : Mp) (b : Nat) (x : Blk) : Mp := ⟨fun k => if k = b then some x else m k, m.K⟩
theorem Mp.ext_same (m : Mp) (b : Nat) (x : Blk) : (m.ext b x) b = some x := by simp [Mp.ext]
theorem Mp.ext_other (m : Mp) {b k : Nat} (x : Blk) (h : k ≠ b) : (m.ext b x) k = m k := by simp [Mp.ext, h]
theorem Mp.le_ext {m : Mp} {b : Nat} (x : Blk) (h : m b = none) : m.le (m.ext b x) := ⟨fun k y e => by
  rw [Mp.ext_other _ _ (fun e' => by rw [e', h] at e; cases e)]; exact e, fun _ _ h => h⟩
theorem HRel.frzLt {m : Mp} {h : Hp} {w : World} (H : HRel m h w) {c : Nat} {a : Array Value} (hk : m.K c = some a) : c < w.heap.size := by
  obtain ⟨⟨e, fr, h1⟩, _⟩ := H.frz c a hk
  exact (Array.getElem?_eq_some_iff.1 h1).1
theorem HRel.fresh {m : Mp} {h : Hp} {w : World} (H : HRel m h w) : m h.next = none := by
  cases e : m h.next with
  | none => rfl
  | some x => exact absurd (H.dom _ _ e) (Nat.lt_irrefl _)

/-- A new block. -/
theorem HRel.alloc {m : Mp} {h : Hp} {w : World} (H : HRel m h w) {o' : AObj} {lim : Nat} {c : Obj} (ho : ORel m o' ⟨w.heap.size, 0, lim⟩ c) :
    HRel (m.ext h.next ⟨w.heap.size, 0, lim⟩) (h.alloc o') (w.alloc c) ∧ Ext m h w (m.ext h.next ⟨w.heap.size, 0, lim⟩) (h.alloc o') (w.alloc c) := by
  have hle := Mp.le_ext (m := m) (b := h.next) ⟨w.heap.size, 0, lim⟩ H.fresh
  have hold : ∀ k, k < w.heap.size → (w.alloc c).heap[k]? = w.heap[k]? := fun k hk => by
    show (w.heap.push c)[k]? = _
    rw [Array.getElem?_push, if_neg (by omega)]
  have hfrz : ∀ c1 a, (m.ext h.next ⟨w.heap.size, 0, lim⟩).K c1 = some a → (∃ e fr, (w.alloc c).heap[c1]? = some (.cells a e fr)) ∧ ∀ b o x, (h.alloc o').get b = some o → (m.ext h.next ⟨w.heap.size, 0, lim⟩) b = some x → x.c = c1 → o.ro = true := by
    intro c1 a hk
    have hlt := H.frzLt (c := c1) (a := a) hk
    obtain ⟨⟨e, fr, h1⟩, h2⟩ := H.frz c1 a hk
    refine ⟨⟨e, fr, by rw [hold _ hlt]; exact h1⟩, fun b o x g1 g2 g3 => ?_⟩
    rw [Hp.get_alloc] at g1
    by_cases e : b = h.next
    · subst e; rw [Mp.ext_same] at g2; cases g2; simp at g3; omega
    · rw [if_neg e] at g1; rw [Mp.ext_other _ _ e] at g2; exact h2 b o x g1 g2 g3
  refine ⟨⟨?_, ?_, ?_, ?_, ?_, hfrz⟩, ⟨hle, ?_, rfl, rfl, rfl, rfl, ?_, ?_, ?_, ?_, fun k hk hm => by rw [Mp.ext_other _ _ (Nat.ne_of_lt hk)]; exact hm, rfl⟩⟩
  · intro b x hb
    show b < h.next + 1
    by_cases e : b = h.next
    · omega
    · rw [Mp.ext_other _ _ e] at hb; have := H.dom _ _ hb; omega
  · intro b x hb
    simp only [World.size_alloc]
    by_cases e : b = h.next
    · subst e; rw [Mp.ext_same] at hb; cases hb; simp
    · rw [Mp.ext_other _ _ e] at hb; have := H.bnd _ _ hb; omega
  · intro b o1 hb
    rw [Hp.get_alloc] at hb
    by_cases e : b = h.next
    · subst e
      simp only [if_true, Option.some.injEq] at hb; subst hb
      exact ⟨_, c, Mp.ext_same _ _ _, by show (w.heap.push c)[w.heap.size]? = _; simp, ho.mono hle⟩
    · simp only [e, if_false] at hb
      obtain ⟨x, c', h1, h2, h3⟩ := H.obj _ _ hb
      exact ⟨x, c', hle _ _ h1, by rw [hold _ (H.bnd _ _ h1)]; exact h2, h3.mono hle⟩
  · intro b b' o1 o2 x x' hb hb' hx hx' hc
    rw [Hp.get_alloc] at hb hb'
    by_cases e : b = h.next <;> by_cases e' : b' = h.next
    · rw [e, e']
    · subst e
      rw [Mp.ext_same] at hx; rw [Mp.ext_other _ _ e'] at hx'; cases hx
      have := H.bnd _ _ hx'; simp only at hc; omega
    · subst e'
      rw [Mp.ext_same] at hx'; rw [Mp.ext_other _ _ e] at hx; cases hx'
      have := H.bnd _ _ hx; simp only at hc; omega
    · rw [Mp.ext_other _ _ e] at hx; rw [Mp.ext_other _ _ e'] at hx'
      simp only [e, e', if_false] at hb hb'
      exact H.inj _ _ _ _ _ _ hb hb' hx hx' hc
  · intro g hg
    obtain ⟨l, e⟩ := H.glob g hg
    exact ⟨l, hle _ _ e⟩
  · show h.next ≤ h.next + 1; omega
  · simp
  · intro k hk _; exact hold k hk
  · intro b o1 x hb hx hc
    by_cases e : b = h.next
    · subst e; rw [Mp.ext_same] at hx; cases hx; simp at hc
    · rw [Mp.ext_other _ _ e] at hx
      rw [Hp.get_alloc, if_neg e] at hb
      exact ⟨b, o1, x, hb, hx, rfl⟩
  · intro b o1 hb _
    obtain ⟨x, _, hx, _⟩ := H.obj _ _ hb
    refine ⟨by rw [Hp.get_alloc, if_neg (by have := H.dom _ _ hx; omega)]; exact hb, fun y hy => hold _ (H.bnd _ _ hy)⟩

def setBlk (w : World) (c : Nat) (o : Obj) : World := { w with heap := w.heap.setIfInBounds c o }

/-- An object is changed in its place. -/
theorem HRel.setBlk {m : Mp} {h : Hp} {w : World} (H : HRel m h w) {b : Nat} {o o' : AObj} {x : Blk} {c : Obj} (hb : h.get b = some o) (hro : o.ro = false)
    (hx : m b = some x) (ho : ORel m o' x c) : HRel m (h.set b o') (setBlk w x.c c) ∧ Ext m h w m (h.set b o') (setBlk w x.c c) := by
  have hother : ∀ k, k ≠ x.c → (Go.Ev.setBlk w x.c c).heap[k]? = w.heap[k]? := fun k hk => by
    show (w.heap.setIfInBounds x.c c)[k]? = _
    rw [Array.getElem?_setIfInBounds, if_neg (Ne.symm hk)]
  have hfrz : ∀ c1 a, m.K c1 = some a → (∃ e fr, (Go.Ev.setBlk w x.c c).heap[c1]? = some (.cells a e fr)) ∧ ∀ b1 o1 x1, (h.set b o').get b1 = some o1 → m b1 = some x1 → x1.c = c1 → o1.ro = true := by
    intro c1 a hk
    obtain ⟨⟨e, fr, h1⟩, h2⟩ := H.frz c1 a hk
    have hne : c1 ≠ x.c := fun e => by
      have := h2 b o x hb hx e.symm
      rw [hro] at this; cases this
    refine ⟨⟨e, fr, by rw [hother _ hne]; exact h1⟩, fun b1 o1 x1 g1 g2 g3 => ?_⟩
    rw [Hp.get_set] at g1
    by_cases e : b1 = b
    · subst e; rw [hx] at g2; cases g2; exact absurd g3.symm hne
    · rw [if_neg e] at g1; exact h2 _ _ _ g1 g2 g3
  refine ⟨⟨H.dom, ?_, ?_, ?_, H.glob, hfrz⟩, ⟨Mp.le_refl m, Nat.le_refl _, rfl, rfl, rfl, rfl, ?_, ?_, ?_, ?_, fun _ _ h => h, rfl⟩⟩
  · intro b x hb; simp only [Go.Ev.setBlk, Array.size_setIfInBounds]; exact H.bnd _ _ hb
  · intro k o1 hk
    rw [Hp.get_set] at hk
    by_cases e : k = b
    · subst e
      simp only [if_true, Option.some.injEq] at hk; subst hk
      exact ⟨x, c, hx, by simp [Go.Ev.setBlk, H.bnd _ _ hx], ho⟩
    · simp only [e, if_false] at hk
      obtain ⟨x1, c1, h1, h2, h3⟩ := H.obj _ _ hk
      refine ⟨x1, c1, h1, ?_, h3⟩
      rw [hother _ (fun e' => e (H.inj _ _ _ _ _ _ hk hb h1 hx e'))]; exact h2
  · intro b1 b2 o1 o2 x1 x2 h1 h2 e1 e2 hc
    have g1 : ∃ o, h.get b1 = some o := by
      rw [Hp.get_set] at h1
      by_cases e : b1 = b
      · exact ⟨o, e ▸ hb⟩
      · rw [if_neg e] at h1; exact ⟨_, h1⟩
    have g2 : ∃ o, h.get b2 = some o := by
      rw [Hp.get_set] at h2
      by_cases e : b2 = b
      · exact ⟨o, e ▸ hb⟩
      · rw [if_neg e] at h2; exact ⟨_, h2⟩
    obtain ⟨_, g1⟩ := g1
    obtain ⟨_, g2⟩ := g2
    exact H.inj _ _ _ _ _ _ g1 g2 e1 e2 hc
  · simp [Go.Ev.setBlk]
  · intro k hk hn
    exact hother k (fun e => hn b o x hb hx e.symm)
  · intro b1 o1 x1 h1 e1 _
    rw [Hp.get_set] at h1
    by_cases e : b1 = b
    · exact ⟨b, o, x, hb, hx, by rw [e, hx] at e1; cases e1; rfl⟩
    · rw [if_neg e] at h1; exact ⟨b1, o1, x1, h1, e1, rfl⟩
  · intro k o1 hk hr
    have hne : k ≠ b := fun e => by rw [e, hb] at hk; cases hk; rw [hro] at hr; cases hr
    refine ⟨by rw [Hp.get_set, if_neg hne]; exact hk, fun y hy => hother _ (fun e' => hne (H.inj _ _ _ _ _ _ hk hb hy hx e'))⟩

/-- A block goes on under a new name: the elder name is forgotten. -/
theorem HRel.rename {m : Mp} {h : Hp} {w : World} (H : HRel m h w) {b : Nat} {o o' : AObj} {x : Blk} {base : Nat} {c : Obj} (hb : h.get b = some o) (hro : o.ro = false)
    (hx : m b = some x) (ho : ORel m o' ⟨x.c, base, x.lim⟩ c) :
    HRel (m.ext h.next ⟨x.c, base, x.lim⟩) ((h.kill b).alloc o') (Go.Ev.setBlk w x.c c) ∧ Ext m h w (m.ext h.next ⟨x.c, base, x.lim⟩) ((h.kill b).alloc o') (Go.Ev.setBlk w x.c c) := by
  have hle := Mp.le_ext (m := m) (b := h.next) ⟨x.c, base, x.lim⟩ H.fresh
  have hbn : b < h.next := H.dom _ _ hx
  have hother : ∀ k, k ≠ x.c → (Go.Ev.setBlk w x.c c).heap[k]? = w.heap[k]? := fun k hk => by
    show (w.heap.setIfInBounds x.c c)[k]? = _
    rw [Array.getElem?_setIfInBounds, if_neg (Ne.symm hk)]
  have hget : ∀ k, ((h.kill b).alloc o').get k = if k = h.next then some o' else if k = b then none else h.get k := fun k => by
    rw [Hp.get_alloc, Hp.get_kill]; rfl
  have hfrz : ∀ c1 a, (m.ext h.next ⟨x.c, base, x.lim⟩).K c1 = some a → (∃ e fr, (Go.Ev.setBlk w x.c c).heap[c1]? = some (.cells a e fr)) ∧
      ∀ b1 o1 x1, ((h.kill b).alloc o').get b1 = some o1 → (m.ext h.next ⟨x.c, base, x.lim⟩) b1 = some x1 → x1.c = c1 → o1.ro = true := by
    intro c1 a hk
    obtain ⟨⟨e, fr, h1⟩, h2⟩ := H.frz c1 a hk
    have hne : c1 ≠ x.c := fun e => by
      have := h2 b o x hb hx e.symm
      rw [hro] at this; cases this
    refine ⟨⟨e, fr, by rw [hother _ hne]; exact h1⟩, fun b1 o1 x1 g1 g2 g3 => ?_⟩
    rw [hget] at g1
    by_cases e : b1 = h.next
    · subst e; rw [Mp.ext_same] at g2; cases g2; exact absurd g3.symm hne
    · rw [if_neg e] at g1; rw [Mp.ext_other _ _ e] at g2
      by_cases e2 : b1 = b
      · rw [if_pos e2] at g1; cases g1
      · rw [if_neg e2] at g1; exact h2 _ _ _ g1 g2 g3
  refine ⟨⟨?_, ?_, ?_, ?_, ?_, hfrz⟩, ⟨hle, ?_, rfl, rfl, rfl, rfl, ?_, ?_, ?_, ?_, fun k hk hm => by rw [Mp.ext_other _ _ (Nat.ne_of_lt hk)]; exact hm, rfl⟩⟩
  · intro k y hk
    show k < h.next + 1
    by_cases e : k = h.next
    · omega
    · rw [Mp.ext_other _ _ e] at hk; have := H.dom _ _ hk; omega
  · intro k y hk
    simp only [Go.Ev.setBlk, Array.size_setIfInBounds]
    by_cases e : k = h.next
    · subst e; rw [Mp.ext_same] at hk; cases hk; exact (H.bnd b x hx : x.c < w.heap.size)
    · rw [Mp.ext_other _ _ e] at hk; exact H.bnd _ _ hk
  · intro k o1 hk
    rw [hget] at hk
    by_cases e : k = h.next
    · subst e
      simp only [if_true, Option.some.injEq] at hk; subst hk
      exact ⟨_, c, Mp.ext_same _ _ _, by simp [Go.Ev.setBlk, H.bnd _ _ hx], ho.mono hle⟩
    · by_cases e2 : k = b
      · simp [e2, show b ≠ h.next by omega] at hk
      · simp only [e, e2, if_false] at hk
        obtain ⟨x1, c1, h1, h2, h3⟩ := H.obj _ _ hk
        refine ⟨x1, c1, hle _ _ h1, ?_, h3.mono hle⟩
        rw [hother _ (fun e' => e2 (H.inj _ _ _ _ _ _ hk hb h1 hx e'))]; exact h2
  · intro b1 b2 o1 o2 x1 x2 h1 h2 e1 e2 hc
    rw [hget] at h1 h2
    by_cases f1 : b1 = h.next <;> by_cases f2 : b2 = h.next
    · rw [f1, f2]
    · exfalso
      subst f1
      rw [Mp.ext_same] at e1; cases e1
      rw [Mp.ext_other _ _ f2] at e2
      by_cases g : b2 = b
      · simp [g, show b ≠ h.next by omega] at h2
      · simp only [f2, g, if_false] at h2
        exact g (H.inj _ _ _ _ _ _ h2 hb e2 hx hc.symm)
    · exfalso
      subst f2
      rw [Mp.ext_same] at e2; cases e2
      rw [Mp.ext_other _ _ f1] at e1
      by_cases g : b1 = b
      · simp [g, show b ≠ h.next by omega] at h1
      · simp only [f1, g, if_false] at h1
        exact g (H.inj _ _ _ _ _ _ h1 hb e1 hx hc)
    · rw [Mp.ext_other _ _ f1] at e1; rw [Mp.ext_other _ _ f2] at e2
      by_cases g1 : b1 = b
      · simp [g1, show b ≠ h.next by omega] at h1
      · by_cases g2 : b2 = b
        · simp [g2, show b ≠ h.next by omega] at h2
        · simp only [f1, f2, g1, g2, if_false] at h1 h2
          exact H.inj _ _ _ _ _ _ h1 h2 e1 e2 hc
  · intro g hg
    obtain ⟨l, e⟩ := H.glob g hg
    exact ⟨l, hle _ _ e⟩
  · show h.next ≤ h.next + 1; omega
  · simp [Go.Ev.setBlk]
  · intro k hk hn
    exact hother k (fun e => hn b o x hb hx e.symm)
  · intro k o1 y hk hy hc
    rw [hget] at hk
    by_cases e : k = h.next
    · subst e; rw [Mp.ext_same] at hy; cases hy; exact ⟨b, o, x, hb, hx, rfl⟩
    · rw [Mp.ext_other _ _ e] at hy
      by_cases g : k = b
      · simp [g, show b ≠ h.next by omega] at hk
      · simp only [e, g, if_false] at hk
        exact ⟨k, o1, y, hk, hy, rfl⟩
  · intro k o1 hk hr
    have hne : k ≠ b := fun e => by rw [e, hb] at hk; cases hk; rw [hro] at hr; cases hr
    obtain ⟨y, _, hy, _⟩ := H.obj _ _ hk
    have hlt := H.dom _ _ hy
    refine ⟨by rw [hget, if_neg (by omega), if_neg hne]; exact hk, fun y hy => hother _ (fun e' => hne (H.inj _ _ _ _ _ _ hk hb hy hx e'))⟩
end Go.Ev
