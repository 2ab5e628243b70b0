/-
  An evaluator of runs and its soundness, part L. No condition of its own.
-/
import Derived.Test.YtjandicpdddlaaaGreatDoorEvK
namespace Go.Ev
noncomputable section

/-! ### Maps -/
def keyD : TypeDesc → Bool
  | .int _ => true
  | .string => true
  | .bool => true
  | _ => false
def keyEq (d : TypeDesc) (a b : AV) : Option Bool :=
  match d with
  | .int _ => match a with
    | .int k x => match b with
      | .int k' y => match Nat.beq (kIx k) (kIx k') with | true => some (eqI x y) | false => none
      | _ => none
    | _ => none
  | .string => match a with | .str x => (match b with | .str y => some (eqL x y) | _ => none) | _ => none
  | .bool => match a with | .bool x => (match b with | .bool y => some (beqB x y) | _ => none) | _ => none
  | _ => none
def afind (d : TypeDesc) (k : AV) : List (AV × AV × Nat) → Nat → Option (Option (Nat × AV × Nat))
  | [], _ => some none
  | (k', v, n) :: l, i => match keyEq d k k' with
    | some true => some (some (i, v, n))
    | some false => afind d k l (Nat.succ i)
    | none => none
theorem keyEq_sound {m : Mp} {d : TypeDesc} {a b : AV} {a' b' : Value} {r : Bool} (ha : VRel m a a') (hb : VRel m b b') (h : keyEq d a b = some r) : Instr.sameNow d a' b' = some r := by
  unfold keyEq at h
  split at h
  · split at h
    · split at h
      · split at h
        · rename_i e; cases h; cases ha; cases hb
          have hk := kIx_inj e; subst hk
          simp [Instr.sameNow, eqI_eq]
        · cases h
      · cases h
    · cases h
  · split at h
    · split at h
      · cases h
        cases ha with
        | str hx => cases hb with
          | str hy =>
            subst hx; subst hy
            simp only [Instr.sameNow]
            rw [← bytesOf_beq, beq_toListBytes]
      · cases h
    · cases h
  · split at h
    · split at h
      · cases h; cases ha; cases hb; simp [Instr.sameNow, beqB_eq]
      · cases h
    · cases h
  · cases h
/-- Keys that are the same are the same bit by bit. -/
theorem keyEq_bits {m : Mp} {d : TypeDesc} {a b : AV} {a' b' : Value} (ha : VRel m a a') (hb : VRel m b b') (h : keyEq d a b = some true) : b' = a' := by
  unfold keyEq at h
  split at h
  · split at h
    · split at h
      · split at h
        · rename_i e; cases ha; cases hb
          have hk := kIx_inj e; subst hk
          simp only [Option.some.injEq, eqI_eq, beq_iff_eq] at h
          rw [h]
        · cases h
      · cases h
    · cases h
  · split at h
    · split at h
      · cases ha with
        | @str _ sa _ hx => cases hb with
          | @str _ sb _ hy =>
            simp only [Option.some.injEq, eqL_eq, decide_eq_true_eq] at h
            subst hx; subst hy
            have := bytesOf_inj h
            rw [ByteArray.toList_eq, ByteArray.toList_eq] at this
            congr 1
            obtain ⟨⟨x⟩⟩ := sa
            obtain ⟨⟨y⟩⟩ := sb
            simp only at this
            rw [this]
      · cases h
    · cases h
  · split at h
    · split at h
      · cases ha; cases hb
        simp only [Option.some.injEq, beqB_eq, beq_iff_eq] at h
        rw [h]
      · cases h
    · cases h
  · cases h
theorem afind_sound {m : Mp} {d : TypeDesc} {k : AV} {k' : Value} (hk : VRel m k k') : ∀ (l : List (AV × AV × Nat)) (l' : List MapEntry) (i : Nat) (r : Option (Nat × AV × Nat)),
    ERel m l l' → afind d k l i = some r →
      (r = none ∧ Instr.findNow d k' l' i = some none) ∨
      (∃ j v n e, r = some (j, v, n) ∧ i ≤ j ∧ l'[j - i]? = some e ∧ e.key = k' ∧ e.born = n ∧ VRel m v e.val ∧ (∃ k0, l[j - i]? = some (k0, v, n) ∧ VRel m k0 e.key) ∧ Instr.findNow d k' l' i = some (some (j, e.val)))
  | [], _, i, r, .nil, h => by simp [afind] at h; subst h; exact .inl ⟨rfl, rfl⟩
  | (k0, v, n) :: l, _, i, r, .cons (e := e) (l' := l') h1 h2 h3 t, h => by
    simp only [afind] at h
    split at h
    · rename_i hq
      cases h
      refine .inr ⟨i, v, n, e, rfl, Nat.le_refl _, by simp, ?_, h3, h2, ⟨k0, by simp, h1⟩, ?_⟩
      · exact keyEq_bits hk h1 hq
      · simp only [Instr.findNow, keyEq_sound hk h1 hq]
    · rename_i hq
      have hs := keyEq_sound hk h1 hq
      rcases afind_sound hk l l' (i + 1) r t h with ⟨e1, e2⟩ | ⟨j, v1, n1, e1, r1, r2, r3, r4, r5, r6, ⟨k1, r7, r7'⟩, r8⟩
      · exact .inl ⟨e1, by simp only [Instr.findNow, hs]; exact e2⟩
      · have hj : j - i = (j - (i + 1)) + 1 := by omega
        refine .inr ⟨j, v1, n1, e1, r1, by omega, by rw [hj]; simpa using r3, r4, r5, r6, ⟨k1, by rw [hj]; simpa using r7, r7'⟩, ?_⟩
        simp only [Instr.findNow, hs]; exact r8
    · cases h

theorem run_checkKey {P : Program} (w : World) (b : Bool) (n : Nat) {t : TypeId} {d : TypeDesc} (h : P.underlying t = some d) (hd : keyD d = true) (v : Value) :
    (Instr.checkKey b (n + 1) t v).run P w = .ok () w := by
  simp only [Instr.checkKey, Sem.run_bind, run_und w h, Result.andThen_ok]
  cases d <;> first | rfl | (cases hd; done)
theorem run_findKey {P : Program} (w : World) {t : TypeId} {d : TypeDesc} (h : P.underlying t = some d) (k : Value) (es : List MapEntry) (r : Option (Nat × Value)) (hf : Instr.findNow d k es 0 = some r) :
    (Instr.findKey t k es).run P w = .ok r w := by
  simp [Instr.findKey, run_und w h, hf]

def alookup (P : Program) (h : Hp) (t : TypeId) (x k : AV) (ok : Bool) : Option AV :=
  match P.underlying t with
  | some (.map key elem) => match P.underlying key with
    | some d => match keyD d with
      | true =>
        match (match x with
          | .nilMap => some []
          | .map b => (match h.get b with | some (.map es _) => some es | _ => none)
          | _ => none) with
        | some es => match afind d k es 0 with
          | some (some (_, v, _)) => some (match ok with | true => .tuple [v, .bool true] | false => v)
          | some none => match zeroA P elem with
            | some z => some (match ok with | true => .tuple [z, .bool false] | false => z)
            | none => none
          | none => none
        | none => none
      | false => none
    | none => none
  | _ => none
theorem tuple2 {m : Mp} {v : AV} {v' : Value} (h : VRel m v v') (b : Bool) : VRel m (.tuple [v, .bool b]) (.tuple #[v', .bool b]) := .tuple (.cons h (.cons (.bool b) .nil))
def lookTail (key elem : TypeId) (k : Value) (ok : Bool) (es : Array MapEntry) : Sem Value := do
  Instr.checkKey es.isEmpty 10000 key k
  let (v, okk) ← match ← Instr.findKey key k es.toList with
    | some (_, v) => pure (v, true)
    | none => pure (← zeroValue elem, false)
  pure (if ok then .tuple #[v, .bool okk] else v)
theorem alookup_sound {P : Program} {m : Mp} {h : Hp} {w : World} (H : HRel m h w) {t : TypeId} {x k : AV} {x' k' : Value} {ok : Bool} {V : AV} (hx : VRel m x x') (hk : VRel m k k')
    (he : alookup P h t x k ok = some V) : ∃ v, (Instr.lookup t x' k' ok).run P w = .ok v w ∧ VRel m V v := by
  unfold alookup at he
  split at he
  · rename_i key elem ht
    split at he
    · rename_i d hd
      split at he
      · rename_i hkd
        split at he
        · rename_i es hes
          have main : ∀ (es' : Array MapEntry), ERel m es es'.toList → (Instr.lookup t x' k' ok).run P w = (lookTail key elem k' ok es').run P w →
              ∃ v, (Instr.lookup t x' k' ok).run P w = .ok v w ∧ VRel m V v := by
            intro es' hrel hrun
            rw [hrun]
            unfold lookTail
            simp only [Sem.run_bind, run_checkKey w _ 9999 hd hkd, Result.andThen_ok]
            split at he
            · rename_i j v n hf
              cases he
              rcases afind_sound hk es es'.toList 0 _ hrel hf with ⟨e1, _⟩ | ⟨j1, v1, n1, e1, r1, r2, r3, r4, r5, r6, _, r8⟩
              · cases e1
              · cases r1
                rw [run_findKey w hd _ _ _ r8]
                cases ok
                · exact ⟨e1.val, by simp, r6⟩
                · exact ⟨.tuple #[e1.val, .bool true], by simp, tuple2 r6 true⟩
            · rename_i hf
              rcases afind_sound hk es es'.toList 0 _ hrel hf with ⟨_, e2⟩ | ⟨j1, v1, n1, e1, r1, _⟩
              · split at he
                · rename_i z hz
                  cases he
                  obtain ⟨zv, rz, hzv⟩ := zeroA_sound (m := m) hz w
                  rw [run_findKey w hd _ _ _ e2]
                  cases ok
                  · exact ⟨zv, by simp [rz], hzv⟩
                  · exact ⟨.tuple #[zv, .bool false], by simp [rz], tuple2 hzv false⟩
                · cases he
              · cases r1
            · cases he
          split at hes
          · cases hes; cases hx
            exact main #[] .nil (by simp [Instr.lookup, run_und w ht, lookTail]; rfl)
          · split at hes
            · rename_i b es0 clock hb
              cases hes
              cases hx with
              | map hm =>
                obtain ⟨y, es', g1, g2, g3⟩ := H.map hb
                rw [hm] at g1; cases g1
                exact main es' g3 (by simp [Instr.lookup, run_und w ht, run_getObj_map g2, lookTail]; rfl)
            · cases hes
          · cases hes
        · cases he
      · cases he
    · cases he
  · cases he

def setAt (l : List (AV × AV × Nat)) (i : Nat) (k v : AV) (n : Nat) : List (AV × AV × Nat) := l.set i (k, v, n)
theorem ERel.set {m : Mp} {k v : AV} {n : Nat} {e : MapEntry} (hk : VRel m k e.key) (hv : VRel m v e.val) (hn : e.born = n) : ∀ {l : List (AV × AV × Nat)} {l' : List MapEntry}, ERel m l l' → ∀ (i : Nat), ERel m (l.set i (k, v, n)) (l'.set i e)
  | _, _, .nil, i => by simp; exact .nil
  | _, _, .cons _ _ _ t, 0 => .cons hk hv hn t
  | _, _, .cons a b c t, i + 1 => .cons a b c (ERel.set hk hv hn t i)
theorem ERel.snoc {m : Mp} {k v : AV} {n : Nat} {e : MapEntry} (hk : VRel m k e.key) (hv : VRel m v e.val) (hn : e.born = n) : ∀ {l : List (AV × AV × Nat)} {l' : List MapEntry}, ERel m l l' → ERel m (l ++ [(k, v, n)]) (l' ++ [e])
  | _, _, .nil => .cons hk hv hn .nil
  | _, _, .cons a b c t => .cons a b c (ERel.snoc hk hv hn t)
theorem run_setObj_map {P : Program} {w : World} {c : Nat} {es : Array MapEntry} {clock : Nat} (h : w.heap[c]? = some (.map es clock)) (o : Obj) : (setObj c o).run P w = .ok () (Go.Ev.setBlk w c o) := by
  simp [setObj, Sem.run, h, Go.Ev.setBlk]
theorem sameBits_self : ∀ {d : TypeDesc} {m : Mp} {a b : AV} {a' b' : Value}, VRel m a a' → VRel m b b' → keyEq d a b = some true → ∀ n, Instr.sameBits n b' a' = true := by
  intro d m a b a' b' ha hb h n
  have e := keyEq_bits ha hb h
  subst e
  unfold keyEq at h
  split at h
  · split at h
    · cases ha; cases n <;> simp [Instr.sameBits, beq_toListBytes]
    · cases h
  · split at h
    · cases ha; cases n <;> simp [Instr.sameBits, beq_toListBytes]
    · cases h
  · split at h
    · cases ha; cases n <;> simp [Instr.sameBits, beq_toListBytes]
    · cases h
  · cases h
theorem afind_key {d : TypeDesc} {k : AV} : ∀ {l : List (AV × AV × Nat)} {i j n : Nat} {v : AV}, afind d k l i = some (some (j, v, n)) → ∃ k0, l[j - i]? = some (k0, v, n) ∧ i ≤ j ∧ keyEq d k k0 = some true
  | [], i, j, n, v, h => by simp [afind] at h
  | (k0, v0, n0) :: l, i, j, n, v, h => by
    simp only [afind] at h
    split at h
    · rename_i hq; cases h; exact ⟨k0, by simp, Nat.le_refl _, hq⟩
    · obtain ⟨k1, r1, r2, r3⟩ := afind_key h
      have hj : j - i = (j - (i + 1)) + 1 := by have : i + 1 ≤ j := r2; omega
      exact ⟨k1, by rw [hj]; simpa using r1, by have : i + 1 ≤ j := r2; omega, r3⟩
    · cases h

def amapUpdate (P : Program) (h : Hp) (t : TypeId) (x k v : AV) : Option Hp :=
  match P.underlying t with
  | some (.map key _) => match P.underlying key with
    | some d => match keyD d with
      | true => match x with
        | .map b => match h.get b with
          | some (.map es clock) => match afind d k es 0 with
            | some (some (i, _, n)) => some (h.set b (.map (es.set i (k, v, n)) clock))
            | some none => some (h.set b (.map (es ++ [(k, v, clock)]) (Nat.succ clock)))
            | none => none
          | _ => none
        | _ => none
      | false => none
    | none => none
  | _ => none
theorem ERel.get {m : Mp} : ∀ {l : List (AV × AV × Nat)} {l' : List MapEntry}, ERel m l l' → ∀ {i : Nat} {k v : AV} {n : Nat}, l[i]? = some (k, v, n) → ∃ e, l'[i]? = some e ∧ VRel m k e.key ∧ VRel m v e.val ∧ e.born = n
  | _, _, .nil, i, k, v, n, h => by simp at h
  | _, _, .cons (e := e) a b c t, i, k, v, n, h => by
    cases i with
    | zero => simp at h; obtain ⟨rfl, rfl, rfl⟩ := h; exact ⟨e, by simp, a, b, c⟩
    | succ i => simp at h; obtain ⟨e', r1, r2⟩ := ERel.get t h; exact ⟨e', by simpa using r1, r2⟩
theorem modify_toList (es : Array MapEntry) (i : Nat) (f : MapEntry → MapEntry) (e : MapEntry) (h : es[i]? = some e) : (es.modify i f).toList = es.toList.set i (f e) := by
  apply List.ext_getElem?
  intro j
  rw [Array.getElem?_toList, Array.getElem?_modify, List.getElem?_set]
  by_cases hj : i = j
  · subst hj
    obtain ⟨hlt, he⟩ := Array.getElem?_eq_some_iff.1 h
    simp [hlt, he]
  · simp [hj]
theorem amapUpdate_sound {P : Program} {m : Mp} {h h' : Hp} {w : World} (H : HRel m h w) {t : TypeId} {x k v : AV} {x' k' v' : Value} (hx : VRel m x x') (hk : VRel m k k') (hv : VRel m v v')
    (he : amapUpdate P h t x k v = some h') : ∃ w', (Instr.mapUpdate t x' k' v').run P w = .ok () w' ∧ HRel m h' w' ∧ Ext m h w m h' w' := by
  unfold amapUpdate at he
  split at he
  · rename_i key elem ht
    split at he
    · rename_i d hd
      split at he
      · rename_i hkd
        split at he
        · rename_i b
          split at he
          · rename_i es clock hb
            cases hx with
            | @map _ _ y hm =>
              obtain ⟨y', es', g1, g2, g3⟩ := H.map hb
              rw [hm] at g1; cases g1
              split at he
              · rename_i i v0 n hf
                cases he
                obtain ⟨k0, q1, q2, q3⟩ := afind_key hf
                simp only [Nat.sub_zero] at q1
                rcases afind_sound hk es es'.toList 0 _ g3 hf with ⟨e1, _⟩ | ⟨j1, v1, n1, e1, r1, r2, r3, r4, r5, r6, _, r8⟩
                · cases e1
                cases r1
                simp only [Nat.sub_zero] at r3
                have r3' : es'[i]? = some e1 := by simpa using r3
                obtain ⟨e2, s1, s2, s3, s4⟩ := g3.get q1
                rw [r3] at s1; cases s1
                have hbits := sameBits_self hk s2 q3 10000
                have hor : ORel m (.map (es.set i (k, v, n)) clock) y (.map (es'.modify i fun e => { e with key := k', val := v' }) clock) := by
                  refine ⟨?_, rfl⟩
                  rw [modify_toList _ _ _ _ r3']
                  exact ERel.set (e := { e1 with key := k', val := v' }) hk hv r5 g3 i
                obtain ⟨z1, z2⟩ := H.setBlk hb rfl hm hor
                refine ⟨_, ?_, z1, z2⟩
                simp only [Instr.mapUpdate, Sem.run_bind, run_und w ht, Result.andThen_ok, run_getObj_map g2, run_checkKey w _ 9999 hd hkd, run_findKey w hd _ _ _ r8, r3', Option.map_some, Option.getD_some,
                  Instr.keyThatStays, hbits, if_true, Sem.run_pure, run_setObj_map g2]
              · rename_i hf
                cases he
                rcases afind_sound hk es es'.toList 0 _ g3 hf with ⟨_, e2⟩ | ⟨j1, v1, n1, e1, r1, _⟩
                · have hor : ORel m (.map (es ++ [(k, v, clock)]) (Nat.succ clock)) y (.map (es'.push { key := k', val := v', born := clock }) (clock + 1)) := by
                    refine ⟨?_, rfl⟩
                    rw [Array.toList_push]
                    exact ERel.snoc (e := { key := k', val := v', born := clock }) hk hv rfl g3
                  obtain ⟨z1, z2⟩ := H.setBlk hb rfl hm hor
                  refine ⟨_, ?_, z1, z2⟩
                  simp only [Instr.mapUpdate, Sem.run_bind, run_und w ht, Result.andThen_ok, run_getObj_map g2, run_checkKey w _ 9999 hd hkd, run_findKey w hd _ _ _ e2, run_setObj_map g2]
                · cases r1
              · cases he
          · cases he
        · cases he
      · cases he
    · cases he
  · cases he

def amakeMap (h : Hp) : AV × Hp := (.map h.next, h.alloc (.map [] 0))
theorem amakeMap_sound {P : Program} {m : Mp} {h : Hp} {w : World} (H : HRel m h w) (t : TypeId) : Does P m h w (Instr.makeMap t none) (amakeMap h).1 (amakeMap h).2 := by
  have hor : ORel m (.map [] 0) ⟨w.heap.size, 0, 0⟩ (.map #[] 0) := ⟨.nil, rfl⟩
  obtain ⟨r1, r2⟩ := H.alloc hor
  exact ⟨.map (some w.heap.size), _, _, by simp [Instr.makeMap], r1, r2, .map (x := ⟨w.heap.size, 0, 0⟩) (Mp.ext_same _ _ _)⟩
end
end Go.Ev
