/-
  Walks over written-out states, part L. No condition of its own.
-/
import Derived.Test.YtjandicpdddlaaaGreatDoorVK
import Derived.Below
import Derived.Carry
import GoSem.ClaimJoined
namespace Go.Ev
open Go.RowKit (Below)
noncomputable section

/-! ### A whole run, closed -/
/-- Does a function that is given nothing come to 'true'? -/
def comesTrue (P : Program) (f n : Nat) (cs : List AV) : Bool :=
  match (ev P (drawRun P) n).call f [] ⟨Tr.set (AObj.cells cs false true) .leaf 0, 10, 1⟩ with
  | some (.ret (.bool true), _) => true
  | _ => false
theorem PF.closed {P : Program} {GT : GTab} {f n : Nat} {cs : List AV} (hm : P.follows .mixedOrders = true) (hc : ∃ fc, callable P f = some fc) (hg : gget GT 0 = some cs) (h : comesTrue P f n cs = true) : PF P GT f [] (.bool true) := by
  refine ⟨hc, fun m w args' lo n' hG H hA => ?_⟩
  obtain ⟨arr, hK, hlen, hrel⟩ := hG 0 cs hg
  obtain ⟨⟨e, fr, hb⟩, _⟩ := H.frz 0 arr hK
  unfold comesTrue at h
  split at h
  · rename_i h' hev
    let m2 : Mp := ⟨fun b => if b = 0 then some ⟨0, 0, arr.size⟩ else none, m.K⟩
    have hm2 : ∀ b x, m2 b = some x → b = 0 ∧ x = ⟨0, 0, arr.size⟩ := by
      intro b x hx
      by_cases e : b = 0
      · subst e; simp [m2] at hx; exact ⟨rfl, hx.symm⟩
      · simp [m2, e] at hx
    have hle : m.bare.le m2 := ⟨(fun _ _ h => by cases h), fun _ _ h => h⟩
    have hget : ∀ b o, Hp.get ⟨Tr.set (AObj.cells cs false true) .leaf 0, 10, 1⟩ b = some o → b = 0 ∧ o = .cells cs false true := by
      intro b o hb
      have : (Tr.set (AObj.cells cs false true) .leaf 0).get b = some o := hb
      rw [Tr.get_set] at this
      by_cases e : b = 0
      · rw [if_pos e] at this; cases this; exact ⟨e, rfl⟩
      · rw [if_neg e, Tr.get_leaf] at this; cases this
    have HR : HRel m2 ⟨Tr.set (AObj.cells cs false true) .leaf 0, 10, 1⟩ w := by
      refine ⟨?_, ?_, ?_, ?_, ?_, ?_⟩
      · intro b x hx; obtain ⟨rfl, _⟩ := hm2 b x hx; show 0 < 10; omega
      · intro b x hx; obtain ⟨rfl, rfl⟩ := hm2 b x hx; exact (Array.getElem?_eq_some_iff.1 hb).1
      · intro b o hbo
        obtain ⟨rfl, rfl⟩ := hget b o hbo
        refine ⟨⟨0, 0, arr.size⟩, _, by simp [m2], hb, rfl, by simpa using hlen, (fun h => by cases h), ?_, (fun h => by cases h)⟩
        simpa using LRel.mono hle hrel
      · intro b b' o o' x x' h1 h2 _ _ _; rw [(hget b o h1).1, (hget b' o' h2).1]
      · intro g hg; have : g = 0 := by have : g < 1 := hg; omega
        subst this; exact ⟨arr.size, by simp [m2]⟩
      · intro c a hk
        refine ⟨(H.frz c a hk).1, fun b o x h1 _ _ => ?_⟩
        obtain ⟨_, rfl⟩ := hget b o h1; rfl
    have hargs : LRel m2 [] args'.toList := by
      have := hA.length
      have h0 : args'.toList = [] := List.eq_nil_of_length_eq_zero this
      rw [h0]; exact .nil
    refine ((evD_sound hm n).2 _ _ _ _ _ hev m2 w args' lo n' HR hargs).mono ?_
    rintro e1 w1 ⟨m1, r1, r2, r3⟩
    cases r3 with
    | ret hv =>
      cases hv
      refine ⟨_, ⟨fun _ => none, m1.K⟩, rfl, ?_, ?_, .bool true⟩
      · refine ⟨r1.sub.K, r1.os, r1.tape, r1.output, r1.size, fun c hc _ => ?_, (fun b o x h => by cases h), fun c a hk hc _ => ?_⟩
        · by_cases h0 : c = 0
          · subst h0
            exact (r1.ro 0 (.cells cs false true) (by show (Tr.set (AObj.cells cs false true) .leaf 0).get 0 = _; rw [Tr.get_set, if_pos rfl]) rfl).2 ⟨0, 0, arr.size⟩ (by simp [m2])
          · refine r1.kept c hc (fun b o x h1 h2 h3 => ?_)
            obtain ⟨rfl, rfl⟩ := hm2 b x h2
            exact h0 h3.symm
        · have : m1.K c = some a := hk
          rw [r1.kq] at this; exact this
      · exact ⟨⟨0, (fun b x h => by cases h)⟩, (fun b x h => by cases h), (fun b o h => by cases h), (fun b b' o o' x x' h => by cases h), fun c a hk => ⟨(r2.frz c a hk).1, (fun b o x h => by cases h)⟩⟩
  · cases h

/-! ### From a law's function to its row -/
theorem PF.top {P : Program} {GT : GTab} {f : FuncId} {avs : List AV} {b : Bool} {W : World} {args : Array Value} (h : PF P GT f avs (.bool b)) (hG : GOk GT (mb W)) (hA : LRel (mb W) avs args.toList) :
    Calls P f args W fun e W' => e = .returned (.bool b) ∧ Below W.heap.size W W' := by
  have := h.2 (mb W) W args none 0 hG (St.top W) hA
  have h2 : Calls P f args W (fun e w1 => ∃ r m1, e = .returned r ∧ Fr (mb W) [] W m1 [] w1 ∧ St m1 [] w1 ∧ VRel m1.bare (.bool b) r) := callsIn_wide.1 this
  refine h2.mono ?_
  rintro e W' ⟨r, m1, rfl, f, _, hv⟩
  cases hv
  exact ⟨rfl, f.os, f.tape, f.output, f.size, fun k hk => f.kept k hk (fun b o x h => by cases h)⟩
theorem trodAll_later {H : Type} {enc : TypeId × Value → H} {P : Program} {W W' : World} (hl : laidOutB P = true) (hb : Below W.heap.size W W') : ∀ {ts : List TypeId} {vs : List Value} {ds : List (DataW H)} {ps : List MemPlace},
    (∀ t ∈ ts, P.readableRec t = true ∧ t < P.types.size) → (∀ x ∈ ps, x.block < W.heap.size) → DataW.TrodAll enc P W 0 (fun _ => true) true ts vs ds ps → DataW.TrodAll enc P W' 0 (fun b => decide (b < W.heap.size)) true ts vs ds ps
  | [], [], [], ps, _, _, h => h
  | t :: ts, v :: vs, d :: ds, ps, ht, hp, h => by
    obtain ⟨p, q, h1, h2, rfl⟩ := h
    obtain ⟨r1, r2⟩ := ht t (List.mem_cons_self ..)
    exact ⟨p, q, Go.RowKit.Below.trod hl r1 r2 h1 hb (fun x hx => hp x (List.mem_append_left _ hx)), trodAll_later hl hb (fun t h => ht t (List.mem_cons_of_mem _ h)) (fun x hx => hp x (List.mem_append_right _ hx)) h2, rfl⟩
  | [], _ :: _, _, _, _, _, h => h.elim
  | [], [], _ :: _, _, _, _, h => h.elim
  | _ :: _, [], _, _, _, _, h => h.elim
  | _ :: _, _ :: _, [], _, _, _, h => h.elim

/-! ### A package-level array of texts -/
def txt (ls : List (List UInt8)) : List AV := ls.map fun l => .str (l.map UInt8.toNat)
theorem trod_str {H : Type} {enc : TypeId × Value → H} {P : Program} {W : World} {spare : Nat → Bool} {held : Bool} {n t : Nat} {cs : List Value} {l : List UInt8} {ps : List MemPlace} {m : Mp} (h : P.underlying t = some .string)
    (he : DataW.trod enc P W 0 spare held n t cs = some (.lit (.string l), ps)) : LRel m [.str (l.map UInt8.toNat)] cs := by
  cases n with
  | zero => cases he
  | succ n =>
    rw [DataW.trod.eq_def] at he
    simp only [h] at he
    split at he <;> first | (cases he; done) | skip
    all_goals (try (rename_i heq; cases heq; done))
    rename_i s heq
    split at he
    · cases he; exact .cons (.str rfl) .nil
    · cases he
theorem laid_txt {P : Program} {W : World} {name : String} {ls : List (List UInt8)} {rest : List (String × DataW Unit)} {g t e len : Nat} (hg : P.globalNamed name = some g) (hty : (P.globals[g]?).map (·.type) = some t) (ht : P.underlying t = some (.array len e)) (he : P.underlying e = some .string)
    (hce : P.cellsOf e = 1) (hct : P.cellsOf t = len) (h : laidMet P ((name, .agg (ls.map fun l => .lit (.string l))) :: rest) W) : ∃ arr, (mb W).K g = some arr ∧ (txt ls).length ≤ arr.size ∧ LRel (mb W).bare (txt ls) (arr.toList.take (txt ls).length) := by
  obtain ⟨ps, ⟨g', t', cs, fuel, p, q, hg', ht', hvar, hd, _, _⟩, _⟩ := h
  obtain rfl := Option.some.inj (hg.symm.trans hg')
  obtain rfl := Option.some.inj (hty.symm.trans ht')
  cases fuel with
  | zero => cases hd
  | succ n =>
    rw [DataW.trod.eq_def] at hd
    simp only [ht] at hd
    split at hd
    · rename_i hl
      obtain ⟨xs, hx, hxe⟩ := Option.map_eq_some_iff.1 hd
      rw [hce] at hx
      simp only [Prod.mk.injEq, DataW.agg.injEq] at hxe
      obtain ⟨hxe, _⟩ := hxe
      obtain ⟨hlen, hget⟩ := mapM_get hx
      simp only [List.length_range] at hlen
      have hll : ls.length = len := by
        have := congrArg List.length hxe
        simp at this; omega
      have hcl : cs.size = len := by rw [hct] at hl; simpa using hl
      have all : ∀ k, k ≤ len → LRel (mb W).bare (txt (ls.take k)) (cs.toList.take k) := by
        intro k
        induction k with
        | zero => intro _; simp [txt]; exact .nil
        | succ k ih =>
          intro hk
          obtain ⟨y, q1, q2⟩ := hget k k (range_get (by omega))
          have hd1 : y.1 = .lit (.string (ls[k]'(by omega))) := by
            have e1 : (xs.map (·.1))[k]? = some y.1 := by simp [q1]
            rw [hxe] at e1
            rw [List.getElem?_map, List.getElem?_eq_getElem (by omega)] at e1
            simpa using e1.symm
          have hr : LRel (mb W).bare [.str ((ls[k]'(by omega)).map UInt8.toNat)] ((cs.toList.drop (k * 1)).take 1) := by
            refine trod_str he (n := n) (ps := y.2) (W := W) (enc := fun _ => ()) (held := false) (spare := fun _ => true) ?_
            rw [q2]
            congr 1
            exact Prod.ext hd1 rfl
          rw [Nat.mul_one] at hr
          have e2 : txt (ls.take (k + 1)) = txt (ls.take k) ++ [.str ((ls[k]'(by omega)).map UInt8.toNat)] := by
            unfold txt; rw [List.take_succ_eq_append_getElem (by omega), List.map_append]; rfl
          have e3 : cs.toList.take (k + 1) = cs.toList.take k ++ (cs.toList.drop k).take 1 := by rw [List.take_add]
          rw [e2, e3]
          exact (ih (by omega)).append hr
      have hfin := all len (Nat.le_refl _)
      have hblk : ∃ ety fr, W.heap[g]? = some (.cells cs ety fr) := by
        simp only [World.var?, hg, Option.bind_some] at hvar
        split at hvar
        · rename_i c ety fr hh; cases hvar; exact ⟨ety, fr, hh⟩
        · cases hvar
      obtain ⟨ety, fr, hh⟩ := hblk
      refine ⟨cs, mb_K hh, by simp [txt]; omega, ?_⟩
      have e4 : ls.take len = ls := List.take_of_length_le (by omega)
      rw [e4] at hfin
      have e5 : (txt ls).length = len := by simp [txt]; omega
      rw [e5]
      exact hfin
    · cases hd
end
end Go.Ev
