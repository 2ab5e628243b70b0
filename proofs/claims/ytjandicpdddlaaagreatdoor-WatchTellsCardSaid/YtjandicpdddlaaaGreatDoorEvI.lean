/-
  An evaluator of runs and its soundness, part I. No condition of its own.
-/
import Derived.Test.YtjandicpdddlaaaGreatDoorEvH
namespace Go.Ev
noncomputable section

theorem HRel.kill {m : Mp} {h : Hp} {w : World} (H : HRel m h w) {b : Nat} {o : AObj} (hb : h.get b = some o) (hro : o.ro = false) :
    HRel m (h.kill b) w ∧ Ext m h w m (h.kill b) w := by
  have hget : ∀ k o', (h.kill b).get k = some o' → k ≠ b ∧ h.get k = some o' := fun k o' hk => by
    rw [Hp.get_kill] at hk
    by_cases e : k = b
    · simp [e] at hk
    · rw [if_neg e] at hk; exact ⟨e, hk⟩
  refine ⟨⟨H.dom, H.bnd, fun k o' hk => H.obj _ _ (hget _ _ hk).2, fun k k' o1 o2 x x' h1 h2 => H.inj _ _ _ _ _ _ (hget _ _ h1).2 (hget _ _ h2).2, H.glob, fun c a hk => ⟨(H.frz c a hk).1, fun b1 o1 x1 g1 => (H.frz c a hk).2 b1 o1 x1 (hget _ _ g1).2⟩⟩,
    ⟨Mp.le_refl m, Nat.le_refl _, rfl, rfl, rfl, rfl, Nat.le_refl _, fun _ _ _ => rfl, fun k o1 x h1 h2 _ => ⟨k, o1, x, (hget _ _ h1).2, h2, rfl⟩, fun k o1 h1 hr => ⟨?_, fun _ _ => rfl⟩, fun _ _ h => h, rfl⟩⟩
  rw [Hp.get_kill, if_neg (fun e => by rw [e, hb] at h1; cases h1; rw [hro] at hr; cases hr)]
  exact h1

/-! ### What is appended, what is copied -/
/-- The cells that a slice, or a string's bytes, hold, so many elements. -/
def acells (h : Hp) (sz n : Nat) (x : AV) : Option (List AV) :=
  match x with
  | .slice b o _ _ => match h.get b with
    | some (.cells cs _ _) => match Nat.ble (Nat.add o (Nat.mul n sz)) cs.length with
      | true => some ((cs.drop o).take (Nat.mul n sz))
      | false => none
    | _ => none
  | .nilSlice => some []
  | .empty => match n with | 0 => some [] | _ => none
  | .str l => some ((l.take n).map fun b => .int .u8 (.ofNat b))
  | .lst _ cs => match Nat.ble (Nat.mul n sz) cs.length with
    | true => some (cs.take (Nat.mul n sz))
    | false => none
  | _ => none
theorem acells_sound {P : Program} {m : Mp} {h : Hp} {w : World} (H : HRel m h w) {sz n : Nat} {x : AV} {x' : Value} {cs : List AV} (hx : VRel m x x') (he : acells h sz n x = some cs) :
    ∃ arr, (Builtin.firstCells sz n x').run P w = .ok arr w ∧ (Builtin.firstCells sz n x').run P w.drew = .ok arr w.drew ∧ LRel m cs arr.toList := by
  unfold acells at he
  split at he
  · rename_i b o _ _
    split at he
    · rename_i l wr op hb
      split at he
      · rename_i hle
        cases he
        cases hx with
        | @slice _ _ _ _ _ blk c hm hc hl =>
          obtain ⟨y, arr, e, fr, h1, h2, h3, h4, h5, h6, h7⟩ := H.cells hb
          rw [hm] at h1; cases h1
          have hle' : o + n * sz ≤ l.length := ble_le hle
          have h2d : w.drew.heap[blk.c]? = some (.cells arr e fr) := h2
          refine ⟨_, ?_, ?_, h6.sub hle'⟩
          · simp only [Builtin.firstCells]
            exact run_loadCells h2 _ _ (by omega)
          · simp only [Builtin.firstCells]
            exact run_loadCells h2d _ _ (by omega)
      · cases he
    · cases he
  · cases he; cases hx
    exact ⟨#[], by simp [Builtin.firstCells], by simp [Builtin.firstCells], .nil⟩
  · split at he
    · cases he; cases hx
      exact ⟨#[], by simp [Builtin.firstCells, loadCells, loadCellsFrom], by simp [Builtin.firstCells, loadCells, loadCellsFrom], .nil⟩
    · cases he
  · rename_i l
    cases he
    cases hx with
    | @str _ s _ hs =>
      subst hs
      refine ⟨(s.extract 0 n).data.map fun b => .int .u8 b.toNat, by simp [Builtin.firstCells], by simp [Builtin.firstCells], ?_⟩
      have hb := extract_bytes s 0 n
      simp only [List.drop_zero] at hb
      rw [← hb]
      unfold bytesOf
      simp only [Array.toList_map, List.map_map]
      generalize (s.extract 0 n).data.toList = k
      induction k with
      | nil => exact .nil
      | cons a k ih => exact .cons (.int _ _) ih
  · rename_i cs0
    split at he
    · rename_i hle
      cases he
      have hle' : n * sz ≤ cs0.length := ble_le hle
      cases hx with
      | @lst _ _ _ c o cap arr hK hb hn hr =>
        obtain ⟨⟨e, fr, h2⟩, _⟩ := H.frz _ _ hK
        have h2d : w.drew.heap[c]? = some (.cells arr e fr) := h2
        refine ⟨((arr.toList.drop o).take (n * sz)).toArray, ?_, ?_, ?_⟩
        · simp only [Builtin.firstCells]
          exact run_loadCells h2 _ _ (by omega)
        · simp only [Builtin.firstCells]
          exact run_loadCells h2d _ _ (by omega)
        · have := hr.take (n * sz)
          rw [List.take_take, Nat.min_eq_left hle'] at this
          exact LRel.mono m.bare_le this
      | lst0 a c =>
        have h0 : n * sz = 0 := by simpa using hle'
        cases a with
        | none => exact ⟨#[], by simp [Builtin.firstCells], by simp [Builtin.firstCells], by simp; exact .nil⟩
        | some a => exact ⟨#[], by simp [Builtin.firstCells, h0, loadCells, loadCellsFrom], by simp [Builtin.firstCells, h0, loadCells, loadCellsFrom], by simp; exact .nil⟩
    · cases he
  · cases he

def alenV (x : AV) : Option Nat :=
  match x with
  | .slice _ _ n _ => some n
  | .nilSlice => some 0
  | .empty => some 0
  | .str l => some l.length
  | .lst n _ => some n
  | _ => none
theorem alenV_sound {P : Program} {m : Mp} {x : AV} {x' : Value} {n : Nat} (hx : VRel m x x') (h : alenV x = some n) (w : World) : (Builtin.lenOf x').run P w = .ok n w := by
  cases hx <;> first | (cases h; done) | (cases h; simp [Builtin.lenOf]; done) | skip
  rename_i hs; subst hs; cases h; simp [Builtin.lenOf, bytesOf_length]

theorem growBy_le (newLen : Nat) : ∀ (r c : Nat), c ≤ newLen + (newLen + 768) / 4 → Builtin.growBy newLen r c ≤ newLen + (newLen + 768) / 4
  | 0, c, h => h
  | r + 1, c, h => by
    unfold Builtin.growBy
    split
    · exact h
    · exact growBy_le newLen r _ (by omega)
theorem nextcap_le (n c : Nat) (h : c < n) : Builtin.nextslicecap n c ≤ 2 * n + 512 := by
  unfold Builtin.nextslicecap
  split
  · omega
  · split
    · omega
    · have := growBy_le n 4 c (by omega); omega


/-- What is to be appended: how many elements, and their cells (the same in every world that differs from this one in draws alone). -/
def Src (P : Program) (e : TypeId) (sz : Nat) (xt : TypeDesc) (x : Value) (w : World) (n : Nat) (new : Array Value) : Prop :=
  (((∃ t, xt = .slice t) ∨ xt = .string) ∧ (∀ w0, (Builtin.lenOf x).run P w0 = .ok n w0) ∧ (Builtin.firstCells sz n x).run P w = .ok new w ∧ (Builtin.firstCells sz n x).run P w.drew = .ok new w.drew) ∨
  ((∃ k, xt = .int k) ∧ (∃ k, x = .int k (n : Int)) ∧ n ≤ 281474976710656 ∧ (∃ ie, P.info? e = some ie ∧ n * ie.bytes ≤ 281474976710656) ∧ 1 ≤ n * sz ∧ ∃ z : Value, (∀ w0, (zeroValue e).run P w0 = .ok z w0) ∧ new = Builtin.zeroCells z.cells n)

theorem wrap_small (n : Nat) (h : n ≤ 281474976710656) : IntKind.i64.wrap (n : Int) = n := inK_wrap (k := .i64) (n := (n : Int)) (by
  show Nat.ble n 9223372036854775807 = true
  exact Nat.ble_eq_true_of_le (by omega))
theorem small_mul (n b : Nat) (h : n * b ≤ 281474976710656) : ¬ ((n : Int) * (b : Int) > 2 ^ 48) := by
  have : ((n * b : Nat) : Int) ≤ ((281474976710656 : Nat) : Int) := Int.ofNat_le.2 h
  rw [Int.natCast_mul] at this
  have e48 : (2 : Int) ^ 48 = 281474976710656 := by rfl
  rw [e48]; omega

theorem append_in {P : Program} {w : World} {ats : Array TypeId} {ty st xtid e : TypeId} {ie : TypeInfo} {xt : TypeDesc} {args : Array Value} {base : Option Addr} {sLen sCap n : Nat} {x : Value} {new : Array Value}
    (h0 : ats[0]? = some st) (h1 : ats[1]? = some xtid) (h2 : args[0]? = some (.slice base sLen sCap)) (h3 : args[1]? = some x)
    (ht : P.underlying st = some (.slice e)) (hxt : P.underlying xtid = some xt) (hie : P.info? e = some ie) (hs : Src P e ie.size xt x w n new) (hneed : sLen + n ≤ sCap) :
    (Builtin.append_ ats ty args).run P w = (match base with
      | some a => (storeCells (a.add (sLen * ie.size)) new.toList).run P w
      | none => .ok () w).andThen fun _ w' => .ok (.slice base (sLen + n) sCap) w' := by
  rcases hs with ⟨hi, hl, hc, _⟩ | ⟨⟨k0, rfl⟩, ⟨k, rfl⟩, hn, ⟨ie', hie', hb⟩, h1n, z, hz, rfl⟩
  · have key : ∀ xt, P.underlying xtid = some xt → ((∃ t, xt = .slice t) ∨ xt = .string) → (Builtin.append_ ats ty args).run P w = (match base with
      | some a => (storeCells (a.add (sLen * ie.size)) new.toList).run P w
      | none => .ok () w).andThen fun _ w' => .ok (.slice base (sLen + n) sCap) w' := by
      rintro xt hxt (⟨t, rfl⟩ | rfl)
      all_goals
        simp only [Builtin.append_, h0, h1, h2, h3, Sem.run_bind, run_und w ht, Result.andThen_ok, run_size w hie, run_und w hxt, Sem.run_pure, Bool.false_eq_true, if_false, hl w, hneed, if_true, Bool.not_false, hc]
        cases base <;> simp
    exact key xt hxt hi
  · rw [hie] at hie'; cases hie'
    have hw := wrap_small n hn
    have c1 : ¬ ((n : Int) < 0) := by omega
    have c2 := small_mul n ie.bytes hb
    have c3 : ¬ (n * ie.size = 0) := by omega
    simp only [Builtin.append_, h0, h1, h2, h3, Sem.run_bind, run_und w ht, Result.andThen_ok, run_size w hie, run_und w hxt, Sem.run_pure, if_true, asInt, asIntOf, hw, c1, c2, if_false, run_info w hie, Int.toNat_natCast, hneed, Bool.not_true, Bool.false_eq_true, c3, hz w]
    cases base <;> simp

theorem append_out {P : Program} {w : World} {ats : Array TypeId} {ty st xtid e : TypeId} {ie : TypeInfo} {xt : TypeDesc} {args : Array Value} {base : Option Addr} {sLen sCap n : Nat} {x z : Value} {new old : Array Value}
    (h0 : ats[0]? = some st) (h1 : ats[1]? = some xtid) (h2 : args[0]? = some (.slice base sLen sCap)) (h3 : args[1]? = some x)
    (ht : P.underlying st = some (.slice e)) (hxt : P.underlying xtid = some xt) (hie : P.info? e = some ie) (hs : Src P e ie.size xt x w n new) (hneed : ¬ sLen + n ≤ sCap)
    (hmax : sLen + n ≤ 9223372036854775807) (hcap : (2 * (sLen + n) + 512) * ie.bytes ≤ 281474976710656) (hold : (Builtin.firstCells ie.size sLen (.slice base sLen sCap)).run P w.drew = .ok old w.drew)
    (hz : ∀ w0, (zeroValue e).run P w0 = .ok z w0) :
    ∃ newCap, sLen + n ≤ newCap ∧ (Builtin.append_ ats ty args).run P w =
      .ok (.slice (some ⟨w.drew.heap.size, 0, none⟩) (sLen + n) newCap) (w.drew.alloc (.cells (old ++ new ++ Builtin.zeroCells z.cells (newCap - (sLen + n))) e)) := by
  refine ⟨sLen + n + w.tape w.drawn (.appendCap (sLen + n) sCap e) % (2 ^ 63 - (sLen + n)), Nat.le_add_right _ _, ?_⟩
  have hch : (choose (.appendCap (sLen + n) sCap e)).run P w = .ok (sLen + n + w.tape w.drawn (.appendCap (sLen + n) sCap e) % (2 ^ 63 - (sLen + n))) w.drew := by
    simp [run_choose, Question.forced, Question.cut]
  have hmx : ¬ (((sLen + n : Nat) : Int) > IntKind.i64.max) := by
    have : IntKind.i64.max = 9223372036854775807 := by rfl
    rw [this]; omega
  have hnc : ¬ (Builtin.nextslicecap (sLen + n) sCap * ie.bytes > 2 ^ 48) := by
    have h1' := nextcap_le (sLen + n) sCap (by omega)
    have h2' : Builtin.nextslicecap (sLen + n) sCap * ie.bytes ≤ (2 * (sLen + n) + 512) * ie.bytes := Nat.mul_le_mul_right _ h1'
    omega
  rcases hs with ⟨hi, hl, hc, hcd⟩ | ⟨⟨k0, rfl⟩, ⟨k, rfl⟩, hn, ⟨ie', hie', hb⟩, h1n, z', hz', rfl⟩
  · have key : ∀ xt, P.underlying xtid = some xt → ((∃ t, xt = .slice t) ∨ xt = .string) → (Builtin.append_ ats ty args).run P w =
        .ok (.slice (some ⟨w.drew.heap.size, 0, none⟩) (sLen + n) (sLen + n + w.tape w.drawn (.appendCap (sLen + n) sCap e) % (2 ^ 63 - (sLen + n))))
          (w.drew.alloc (.cells (old ++ new ++ Builtin.zeroCells z.cells (sLen + n + w.tape w.drawn (.appendCap (sLen + n) sCap e) % (2 ^ 63 - (sLen + n)) - (sLen + n))) e)) := by
      rintro xt hxt (⟨t, rfl⟩ | rfl)
      all_goals
        simp only [Builtin.append_, h0, h1, h2, h3, Sem.run_bind, run_und w ht, Result.andThen_ok, run_size w hie, run_und w hxt, Sem.run_pure, Bool.false_eq_true, if_false, hl w, hneed, Bool.not_false,
          hmx, false_and, run_info w hie, hnc, hch, run_info w.drew hie, run_askRoom, hold, hcd, if_true, hz w.drew]
        simp only [newRow, Sem.run_bind, run_newObj, Result.andThen_ok, Sem.run_pure]; rfl
    exact key xt hxt hi
  · rw [hie] at hie'; cases hie'
    have hw := wrap_small n hn
    have c1 : ¬ ((n : Int) < 0) := by omega
    have c2 := small_mul n ie.bytes hb
    have c3 : ¬ (n * ie.size = 0) := by omega
    have hzz : z' = z := by
      have a := hz w; have b := hz' w; rw [a] at b; cases b; rfl
    subst hzz
    simp only [Builtin.append_, h0, h1, h2, h3, Sem.run_bind, run_und w ht, Result.andThen_ok, run_size w hie, run_und w hxt, Sem.run_pure, if_true, asInt, asIntOf, hw, c1, c2, if_false, run_info w hie, Int.toNat_natCast, hneed, Bool.not_true, Bool.false_eq_true,
      hmx, false_and, hnc, hch, run_info w.drew hie, run_askRoom, hold, c3, hz w.drew]
    simp only [newRow, Sem.run_bind, run_newObj, Result.andThen_ok, Sem.run_pure]; rfl
end
end Go.Ev
