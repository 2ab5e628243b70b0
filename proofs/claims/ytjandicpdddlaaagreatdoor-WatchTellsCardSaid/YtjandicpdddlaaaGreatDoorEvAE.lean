/-
  An evaluator of runs and its soundness, part AE. No condition of its own.
-/
import Derived.Test.YtjandicpdddlaaaGreatDoorEvAD
namespace Go.Ev
noncomputable section

section
variable {P : Program} {e : Ev} {ops : Array Oper} {df : List ADef} {base : Nat} {ms : List Nat} {sis : List SI} {h1 : Hp} {its : List It} {Te : Tm} {He : Hp}
variable {D : Drawn P e ops df base ms sis h1 its Te He} {T0 : Tm} {m0 m : Mp} {h0 : Hp} {w0 w : World} {T : Tm} {c : Nat} {B : Hp} {a : Act}

theorem draw_end (hH : Hat its He 0 = h1) (hT : Tat its Te 0 = T0) {L : Nat → Bool} (I : InvAt D T0 m0 h0 w0 m T c B L a w) (hall : ∀ k, k < ops.size → L k = true) : Post m0 h0 w0 .normal ⟨Te, df⟩ He .normal a w := by
  obtain ⟨t1, cn, Bn, X⟩ := text_inv D hH ops.size (Nat.le_refl _)
  have hnone : its[ops.size]? = none := List.getElem?_eq_none (by rw [D.len]; exact Nat.le_refl _)
  have eT : Tat its Te ops.size = Te := by unfold Tat; rw [hnone]
  have eH : Hat its He ops.size = He := by unfold Hat; rw [hnone]
  rw [eT, hT] at t1
  rw [eH] at X
  have hk : ∀ {k : Nat} {y : It}, its[k]? = some y → k < ops.size := fun h => by
    obtain ⟨g, _⟩ := List.getElem?_eq_some_iff.1 h
    rw [D.len] at g; exact g
  obtain ⟨rfl, rfl⟩ : c = cn ∧ B = Bn := stage_uniq I.stage X.stage (fun k y h1 h2 => by
    rw [← I.bigs k y h1 h2, ← X.bigs k y h1 h2, hall k (hk h1)]
    simp [hk h1])
  have hs : (join L c its 0 B).same He := by
    refine ⟨fun b => ?_, ?_, ?_⟩
    · rw [X.get b]
      refine join_cmp ?_ rfl
      intro k y ob g1 g2
      rw [Nat.zero_add]
      exact sel_eq (by rw [hall k (hk g1)]; exact (decide_eq_true (hk g1)).symm)
    · rw [(join_next _ _ _ _ _).1, X.next]
    · rw [(join_next _ _ _ _ _).2, X.ng, D.stage_ng I.stage]
  refine ⟨m, I.E.congr hs, I.H.congr hs, ⟨⟨?_, fun i => ?_⟩, I.df⟩, .normal⟩
  · rw [I.tm.size, I.ts.sz, t1.sz]
  · have := I.tm.get i
    rw [I.ts.agree D t1 (d := i) (fun j y h1 _ => by rw [hall j (hk h1)]; exact (decide_eq_true (hk h1)).symm)] at this
    exact this

theorem draw_all (hec : SoundCode P e.code) (hcc : SoundCall P e.call) (D : Drawn P e ops df base ms sis h1 its Te He) (hH : Hat its He 0 = h1) (hT : Tat its Te 0 = T0) (H0 : HRel m0 h0 w0) (hb0 : h0.next = base) {lo : Option Nat} {n : Nat} :
    ∀ (fuel : Nat) (listed : Array Bool) (a : Act) (w : World), listed.size = ops.size → listed.count true + fuel = ops.size →
      (∃ m T c B, InvAt D T0 m0 h0 w0 m T c B (fun k => listed.getD k false) a w) → wpAnyIn (Wd lo) n P .any ops (Post m0 h0 w0 .normal ⟨Te, df⟩ He) fuel listed a w
  | 0, listed, a, w, hs, hc, ⟨m, T, c, B, I⟩ => by
    have hall : ∀ b ∈ listed, true = b := Array.count_eq_size.1 (by omega)
    have hget : ∀ k, k < ops.size → listed[k]? = some true := fun k hk => by
      have hk' : k < listed.size := by omega
      rw [Array.getElem?_eq_getElem hk', ← hall listed[k] (Array.getElem_mem hk')]
    refine ⟨List.eq_nil_iff_forall_not_mem.2 (fun j hj => ?_), draw_end hH hT I (fun k hk => ?_)⟩
    · obtain ⟨g1, o, g2, _⟩ := mem_ready.1 hj
      obtain ⟨g3, _⟩ := Array.getElem?_eq_some_iff.1 g2
      rw [Array.getD_eq_getD_getElem?, hget j g3] at g1
      simp at g1
    · simp [Array.getD_eq_getD_getElem?, hget k hk]
  | fuel + 1, listed, a, w, hs, hc, ⟨m, T, c, B, I⟩ => by
    refine ⟨fun hr => draw_end hH hT I (fun k => ?_), fun i hi => ?_⟩
    · induction k using Nat.strongRecOn with
      | _ k ih =>
        intro hk
        cases hL : listed.getD k false with
        | true => rfl
        | false =>
          exfalso
          have hk' : k < listed.size := by omega
          have hmem : k ∈ Region.ready .any ops listed := by
            rw [mem_ready]
            refine ⟨?_, ops[k], Array.getElem?_eq_getElem hk, ?_⟩
            · rw [Array.getD_eq_getD_getElem?, Array.getElem?_eq_getElem hk'] at hL ⊢
              simpa using hL
            · intro ed he hb
              have hlt : k < its.length := by rw [D.len]; exact hk
              obtain ⟨b1, b2, _⟩ := D.it k its[k] (List.getElem?_eq_getElem hlt)
              have ho : ops[k]? = some ops[k] := Array.getElem?_eq_getElem hk
              have := D.st.good.edge k ops[k] its[k].msk ho b2 ed (by simpa using he) hb
              exact ih ed.on this (by omega)
          rw [hr] at hmem
          cases hmem
    · obtain ⟨g1, o, g2, g3⟩ := mem_ready.1 hi
      obtain ⟨hin, _⟩ := Array.getElem?_eq_some_iff.1 g2
      have hin' : i < listed.size := by omega
      have hlt : i < its.length := by rw [D.len]; exact hin
      have hit : its[i]? = some its[i] := List.getElem?_eq_getElem hlt
      obtain ⟨b1, _⟩ := D.it i its[i] hit
      have ho : its[i].o = o := by rw [g2] at b1; exact (Option.some.inj b1).symm
      have hun : listed.getD i false = false := by
        rw [Array.getD_eq_getD_getElem?, Array.getElem?_eq_getElem hin'] at g1 ⊢
        simpa using g1
      have A : AtL D (fun k => listed.getD k false) i its[i] := ⟨hit, I.down, by rw [ho]; intro ed he hb; exact g3 ed (by simpa using he) hb, hun⟩
      obtain ⟨t1, ci, Bi, X⟩ := text_inv D hH i (by omega)
      have eT : Tat its Te i = its[i].T := by unfold Tat; rw [hit]
      have eH : Hat its He i = its[i].H := by unfold Hat; rw [hit]
      rw [eT, hT] at t1
      rw [eH] at X
      refine draw_step hec hcc A I H0 hb0 t1 X (fun a' w' hI => ?_)
      have hplus : plus (fun k => listed.getD k false) i = fun k => (listed.setIfInBounds i true).getD k false := by
        funext k
        unfold plus
        by_cases hk : k = i
        · subst hk
          simp [Array.getD_eq_getD_getElem?, hin']
        · rw [if_neg hk]
          exact (getD_set_ne false (Ne.symm hk)).symm
      rw [hplus] at hI
      refine draw_all hec hcc D hH hT H0 hb0 fuel _ a' w' (by simpa using hs) ?_ hI
      have hf : listed[i] = false := by
        rw [Array.getD_eq_getD_getElem?, Array.getElem?_eq_getElem hin'] at hun
        simpa using hun
      have hset : listed.setIfInBounds i true = listed.set i true hin' := by
        unfold Array.setIfInBounds
        rw [dif_pos hin']
      rw [hset, Array.count_set hin', hf]
      simp
      omega
end

theorem drawRun_sound {P : Program} (hm : P.follows .mixedOrders = true) : SoundDraw P (drawRun P) := by
  intro e hec hcc id ops fr h ex fr' h' he m w a lo n H hfr
  obtain ⟨ms, sis, its, Te, D, rfl, rfl, hT, hH⟩ := drawRun_drawn he
  refine wpIn_region_any hm ?_
  have H1 : HRel m h { w with drawn := w.drawn + 1 } := H.drew
  have E1 : Ext m h w m h { w with drawn := w.drawn + 1 } := Ext.drew m h w
  have post : ∀ e1 a1 w1, Post m h { w with drawn := w.drawn + 1 } .normal ⟨Te, fr.df⟩ h' e1 a1 w1 → Post m h w .normal ⟨Te, fr.df⟩ h' e1 a1 w1 := fun _ _ _ hp => Post.trans E1 hp
  have hall := draw_all (T0 := fr.T) (m0 := m) (h0 := h) (w0 := w) hec hcc D hH hT H rfl (lo := lo) (n := n) ops.size (Array.replicate ops.size false) a { w with drawn := w.drawn + 1 } (by simp) (by simp [Array.count_replicate]) ?_
  · exact hall
  · have hL : (fun k => (Array.replicate ops.size false).getD k false) = fun _ => false := by
      funext k
      rw [Array.getD_eq_getD_getElem?]
      by_cases hk : k < ops.size
      · simp [hk]
      · simp [hk]
    rw [hL]
    have hj : (⟨h.t, h.next + ops.size, h.ng⟩ : Hp) = ⟨h.t, h.next + ops.size, h.ng⟩ := rfl
    have hjoin : ∀ b, (join (fun _ => false) 0 its 0 ⟨h.t, h.next + ops.size, h.ng⟩).get b = h.get b := fun b => by
      rw [join_none]
      · rfl
      · intro k it ob _ _
        rfl
    have hjn := join_next (fun _ => false) 0 its 0 ⟨h.t, h.next + ops.size, h.ng⟩
    refine ⟨m, fr.T, 0, ⟨h.t, h.next + ops.size, h.ng⟩, ?_, .inl ⟨rfl, rfl⟩, ?_, ?_, hfr.tm, hfr.df, ?_, ?_, Nat.le_refl _, ?_⟩
    · intro i o _ hh; cases hh
    · intro k x _ _
      constructor
      · intro hh; cases hh
      · intro hh; omega
    · exact ⟨rfl, (fun i x d _ _ hh => by cases hh), fun d _ => rfl⟩
    · refine ⟨fun b x hb => ?_, H1.bnd, fun b o hb => H1.obj b o (by rw [← hjoin b]; exact hb), fun b b' o o' x x' g1 g2 => H1.inj b b' o o' x x' (by rw [← hjoin b]; exact g1) (by rw [← hjoin b']; exact g2),
        fun g hg => H1.glob g (by rw [hjn.2] at hg; exact hg),
        fun c a hk => ⟨(H1.frz c a hk).1, fun b o x hb => (H1.frz c a hk).2 b o x (by rw [← hjoin b]; exact hb)⟩⟩
      rw [hjn.1]
      have := H1.dom b x hb
      show b < h.next + ops.size
      omega
    · refine ⟨E1.sub, ?_, ?_, E1.os, E1.tape, E1.output, E1.size, E1.kept, fun b o x hb => E1.img b o x (by rw [← hjoin b]; exact hb), fun b o hb hr => ?_, E1.old, E1.kq⟩
      · rw [hjn.1]; exact Nat.le_add_right _ _
      · rw [hjn.2]
      · obtain ⟨g1, g2⟩ := E1.ro b o hb hr
        exact ⟨by rw [hjoin b]; exact g1, g2⟩
    · intro j x _ _ _
      cases hmj : m (h.next + j) with
      | none => rfl
      | some x => have := H.dom _ _ hmj; omega

theorem evD_sound {P : Program} (hm : P.follows .mixedOrders = true) (n : Nat) : SoundCode P (ev P (drawRun P) n).code ∧ SoundCall P (ev P (drawRun P) n).call := ev_sound (drawRun_sound hm) n
end
end Go.Ev
