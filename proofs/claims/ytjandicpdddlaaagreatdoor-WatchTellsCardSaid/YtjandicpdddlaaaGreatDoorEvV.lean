/-
  An evaluator of runs and its soundness, part V. No condition of its own.
-/
import Derived.Test.YtjandicpdddlaaaGreatDoorEvU
namespace Go.Ev
noncomputable section

theorem capGe_mono {g h : Hp} (hs : ∀ b o, g.get b = some o → h.get b = some o) {b o : Nat} {cap : Cap} {len n : Nat} (he : capGe g b o cap len n = true) : capGe h b o cap len n = true := by
  unfold capGe at he ⊢
  cases h1 : Nat.ble n len with
  | true => rfl
  | false =>
    rw [h1] at he
    simp only at he ⊢
    cases cap with
    | ex k => exact he
    | te sz =>
      cases sz with
      | zero => cases he
      | succ s =>
        simp only at he ⊢
        cases hg : g.get b with
        | none => rw [hg] at he; cases he
        | some ob => rw [hs _ _ hg]; rw [hg] at he; exact he
theorem aload_mono {P : Program} {g h : Hp} (hs : ∀ b o, g.get b = some o → h.get b = some o) {t : TypeId} {b o : Nat} {v : AV} (he : aload P t g b o = some v) : aload P t h b o = some v := by
  unfold aload at he ⊢
  cases hg : g.get b with
  | none => rw [hg] at he; cases he
  | some ob => rw [hs _ _ hg]; rw [hg] at he; exact he
theorem alookup_mono {P : Program} {g h : Hp} (hs : ∀ b o, g.get b = some o → h.get b = some o) {t : TypeId} {x k : AV} {ok : Bool} {v : AV} (he : alookup P g t x k ok = some v) : alookup P h t x k ok = some v := by
  cases x <;> first | exact he | skip
  rename_i b
  unfold alookup at he ⊢
  cases hg : g.get b with
  | none =>
    simp only [hg] at he
    split at he <;> try (cases he; done)
    split at he <;> try (cases he; done)
    split at he <;> cases he
  | some ob => simp only [hs _ _ hg]; simp only [hg] at he; exact he
theorem alen_mono {P : Program} {g h : Hp} (hs : ∀ b o, g.get b = some o → h.get b = some o) {t : TypeId} {x : AV} {v : AV} (he : alen P g t x = some v) : alen P h t x = some v := by
  cases x <;> first | exact he | skip
  rename_i b
  unfold alen at he ⊢
  cases hg : g.get b with
  | none =>
    simp only [hg] at he
    split at he <;> first | exact he | (cases he; done)
  | some ob => simp only [hs _ _ hg]; simp only [hg] at he; exact he
theorem asliceAt_mono {P : Program} {g h : Hp} (hs : ∀ b o, g.get b = some o → h.get b = some o) {t : TypeId} {x : AV} {lo hi mx : Option AV} {v : AV} (he : asliceAt P g t x lo hi mx = some v) :
    asliceAt P h t x lo hi mx = some v := by
  unfold asliceAt at he ⊢
  split at he
  case h_2 => cases he
  rename_i hok
  unfold asliceOf at he ⊢
  split at he
  · rename_i ht; exact he
  · rename_i e ht
    split at he
    · rename_i ie hie
      split at he
      · rename_i b o len cap
        split at he
        · rename_i hh hhe
          split at he
          · rename_i l hl
            split at he
            · rename_i h1
              split at he
              · split at he
                · rename_i hc
                  simp only [capGe_mono hs hc]
                  exact he
                · cases he
              · rename_i mv
                split at he
                · rename_i mm hm
                  split at he
                  · rename_i h2 hc
                    simp only [h2, capGe_mono hs hc]
                    exact he
                  · cases he
                · cases he
            · cases he
          · cases he
        · cases he
      · exact he
      · exact he
      · cases he
    · cases he
  · exact he
  · cases he

theorem read_mono {P : Program} {e : Ev} {fr : AFr} {g g1 : Hp} {o : Op} {v : AV} (hc : cls P o = .read) (he : opRun P e fr g o = some (v, g1)) :
    g1 = g ∧ ∀ h : Hp, h.ng = g.ng → (∀ b o, g.get b = some o → h.get b = some o) → opRun P e fr h o = some (v, h) := by
  cases o <;> simp only [cls] at hc <;> try (cases hc; done)
  all_goals simp only [opRun_eq, aop] at he ⊢
  case convert s d x => split at hc <;> cases hc
  case load t x =>
    split at he
    · rename_i b o hx
      obtain ⟨r1, r2⟩ := keep_some he
      refine ⟨r2, fun h hg hs => ?_⟩
      rw [hg, hx]
      simp only [aload_mono hs r1, keep]
    · cases he
  case slice t x lo hi mx =>
    split at he
    · rename_i u hx
      split at he
      · rename_i a1 a2 a3 b1 b2 b3
        obtain ⟨r1, r2⟩ := keep_some he
        refine ⟨r2, fun h hg hs => ?_⟩
        rw [hg, hx, b1, b2, b3]
        simp only [asliceAt_mono hs r1, keep]
      · cases he
    · cases he
  case lookup t x i ok =>
    split at he
    · rename_i u hx
      split at he
      · rename_i u2 hx2
        obtain ⟨r1, r2⟩ := keep_some he
        refine ⟨r2, fun h hg hs => ?_⟩
        rw [hg, hx, hx2]
        simp only [alookup_mono hs r1, keep]
      · cases he
    · cases he
  case call c =>
    split at hc
    · rename_i b hcal
      simp only [acall, hcal] at he ⊢
      split at he
      · rename_i v1 h2 hac
        cases he
        split at hac
        · rename_i args hargs
          split at hac
          · rename_i v2 h3 hb
            cases hac
            have fin : g1 = g ∧ ∀ h : Hp, (∀ b o, g.get b = some o → h.get b = some o) → abuiltin P h b c.argTypes args = some (v, h) := by
              cases b <;> simp only at hc <;> try (cases hc; done)
              all_goals simp only [abuiltin] at hb ⊢
              case cap =>
                split at hb
                · obtain ⟨r1, r2⟩ := keep_some hb
                  exact ⟨r2, fun h _ => by simp only [*, keep]⟩
                · cases hb
              case len =>
                split at hb
                · rename_i t x rest ht
                  obtain ⟨r1, r2⟩ := keep_some hb
                  exact ⟨r2, fun h hs => by simp only [ht, alen_mono hs r1, keep]⟩
                · cases hb
              case max =>
                obtain ⟨r1, r2⟩ := keep_some hb
                exact ⟨r2, fun h _ => by simp only [r1, keep]⟩
              case min =>
                obtain ⟨r1, r2⟩ := keep_some hb
                exact ⟨r2, fun h _ => by simp only [r1, keep]⟩
            refine ⟨fin.1, fun h hg hs => ?_⟩
            rw [hg, hargs]
            simp only [fin.2 h hs]
          · cases hac
        · cases hac
      · cases he
    · cases hc
end
end Go.Ev
