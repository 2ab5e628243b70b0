/-
  Walks over written-out states, part G. No condition of its own.
-/
import Derived.Test.YtjandicpdddlaaaGreatDoorVF
namespace Go.Ev
noncomputable section

/-! ### Stores -/
theorem astore_some {P : Program} {t sz : Nat} {h : Hp} {b o : Nat} {cs : List AV} {op : Bool} {V : AV} (hs : (P.info? t).map (·.size) = some sz) (hb : h.get b = some (.cells cs true op)) (h1 : Nat.beq V.cells.length sz = true) (h2 : Nat.ble (o + sz) cs.length = true) (h3 : V.cells.all AV.one = true) :
    astore P t h b o V = some (h.set b (.cells (spliceL cs o V.cells) true op)) := by
  obtain ⟨i, hi, he⟩ := Option.map_eq_some_iff.1 hs
  subst he
  have h2' : Nat.ble (Nat.add o i.size) cs.length = true := h2
  simp only [astore, hb, hi, h1, h2', h3]
theorem St.set {m : Mp} {L : Ls} {w w' : World} {N b : Nat} {o o' : AObj} (hb : hget L b = some o) (r2 : HRel m ((⟨toTr L, N, 0⟩ : Hp).set b o') w') (r3 : Ext m ⟨toTr L, N, 0⟩ w m ((⟨toTr L, N, 0⟩ : Hp).set b o') w') :
    St m (hset L b o') w' ∧ Fr m L w m (hset L b o') w' := by
  have hg : ∀ k x, hget (hset L b o') k = some x → ((⟨toTr L, N, 0⟩ : Hp).set b o').get k = some x := by
    intro k x hk
    rw [hget_hset] at hk
    rw [Hp.get_set]
    by_cases e : k = b
    · rw [if_pos e] at hk ⊢; rw [hb] at hk; simpa using hk
    · rw [if_neg e] at hk ⊢; exact (toTr_get L k).trans hk
  exact ⟨St.of_hrel r2 hg, Fr.of_ext r3 r2 (fun k => toTr_get L k) hg⟩
section
variable {P : Program} {GT : GTab} {sz : Nat} {st : List It2} {S : Sl} {L : Ls} {K : Fin} {ops : Array Oper} {rest : List Oper} {o : Oper} {d : Nat}
theorem TO.store {t n b i : Nat} {x y : Operand} {V : AV} {cs : List AV} {op : Bool} (hg : wants ops S o.guard = some true) (hop : o.op = .store t x y) (hs : (P.info? t).map (·.size) = some n) (hx : sev GT S x = some (.ptr b i)) (hy : sev GT S y = some V)
    (hb : hget L b = some (.cells cs true op)) (h1 : Nat.beq V.cells.length n = true) (h2 : Nat.ble (i + n) cs.length = true) (h3 : V.cells.all AV.one = true) (ho : o.dst = none)
    (h : TO P GT sz ops rest st S (hset L b (.cells (spliceL cs i V.cells) true op)) K) : TO P GT sz ops (o :: rest) st S L K := by
  intro m w a lo n' m0 L0 w0 hG f H s hz hdf
  simp only [wpListIn]
  rw [wants_sound s hg]
  simp only [if_true]
  have hnd : ∀ c, o.op ≠ .defer c := by rw [hop]; intro c h; cases h
  refine ⟨fun _ _ => trivial, ?_⟩
  obtain ⟨N, hN⟩ := H.hrel
  have hp := sev_sound (hG.mono f.K) s hx
  obtain ⟨blk, hm, hxe⟩ : ∃ blk, m b = some blk ∧ a.eval x = .pointer (some ⟨blk.c, blk.base + i, none⟩) := by
    generalize a.eval x = x' at hp
    cases hp with
    | ptr hm => exact ⟨_, hm, rfl⟩
  obtain ⟨w', r1, r2, r3⟩ := storeVar_sound (P := P) hN hm (sev_sound (hG.mono f.K) s hy) (astore_some hs ((toTr_get L b).trans hb) h1 h2 h3)
  obtain ⟨q1, q2⟩ := St.set hb r2 r3
  have hrun : (execOp a.eval o).run P w = .ok .skip w' := by
    unfold execOp; rw [hop]; simp [Instr.storeAt, Instr.sureAddr, hxe, r1]
  rw [Oper.semAt_eq _ _ _ hnd, hrun, Oper.uponIn_skip]
  rw [ho]
  exact h _ _ _ lo n' m0 L0 w0 hG (f.trans q2) q1 s hz hdf
end

/-- The slot that guards an operation. -/
def gslot (ops : Array Oper) (g : Option (Nat × Bool)) : Option Nat :=
  match g with
  | some (j, _) => match ops[j]? with
    | some o => o.dst
    | none => none
  | none => none
end
end Go.Ev
