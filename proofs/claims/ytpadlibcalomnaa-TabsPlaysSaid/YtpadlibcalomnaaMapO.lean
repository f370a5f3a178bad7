/- Program-generic: what the operations on maps with int keys come to. No program in sight. -/
import Derived.Test.YtpadlibcalomnaaMapM
set_option linter.unusedVariables false
namespace Go.Vc
open Go.RowKit

section
variable {V : Type} {enc : V → Value} {P : Program} {t kt et : TypeId} {w : World} {r : Nat} {L : List (Int × V)}
theorem mapE_size {E : List (Ent V)} (hp : (pairs E).Perm L) : E.length = L.length := by rw [← hp.length_eq]; simp [pairs]
theorem MapM.lookup (h : MapM enc w r L) (ht : P.underlying t = some (.map kt et)) (hk : P.underlying kt = some (.int .i64)) {z : Value} (hz : ∀ w, (zeroValue et).run P w = .ok z w) (k : Int) :
    (Instr.lookup t (.map (some r)) (.int .i64 k) false).run P w = .ok (((lookL L k).map enc).getD z) w := by
  obtain ⟨E, c, hE, hp, hs⟩ := h
  rw [hE.lookup ht hk hz k, ← lookL_idx hp hs k]
  simp only [Option.map_map]
  rfl
theorem MapM.lookup_ok (h : MapM enc w r L) (ht : P.underlying t = some (.map kt et)) (hk : P.underlying kt = some (.int .i64)) {z : Value} (hz : ∀ w, (zeroValue et).run P w = .ok z w) (k : Int) :
    (Instr.lookup t (.map (some r)) (.int .i64 k) true).run P w = .ok (.tuple #[((lookL L k).map enc).getD z, .bool (lookL L k).isSome]) w := by
  obtain ⟨E, c, hE, hp, hs⟩ := h
  rw [hE.lookup_ok ht hk hz k, ← lookL_idx hp hs k]
  simp only [Option.map_map, Option.isSome_map]
  rfl
theorem MapM.srt (h : MapM enc w r L) : Srt L := by obtain ⟨_, _, _, _, hs⟩ := h; exact hs
theorem MapM.update (h : MapM enc w r L) (ht : P.underlying t = some (.map kt et)) (hk : P.underlying kt = some (.int .i64)) {k : Int} (hk1 : -9223372036854775808 ≤ k ∧ k ≤ 9223372036854775807) (v : V) :
    ∃ w', (Instr.mapUpdate t (.map (some r)) (.int .i64 k) (enc v)).run P w = .ok () w' ∧ MapM enc w' r (putL' L k v) ∧ Chg (fun k => k = r) w w' ∧ w'.heap.size = w.heap.size := by
  obtain ⟨E, c, hE, hp, hs⟩ := h
  have hf := run_findKey (P := P) (kt := kt) (w := w) (enc := enc) (E := E) hk k
  have hkeys : ∀ {E' : List (Ent V)}, (∀ a b, (a, b) ∈ pairs E' ↔ (a = k ∧ b = v) ∨ (a ≠ k ∧ (a, b) ∈ pairs E)) → (E'.Pairwise fun x y => x.k ≠ y.k) → (pairs E').Perm (putL' L k v) := fun {E'} hm hk' =>
    (List.perm_ext_iff_of_nodup (pairs_nodup hk') (srt_putL hs k v).nodup).2 fun p => by
      obtain ⟨a, b⟩ := p
      rw [hm a b, mem_putL hs k v a b, hp.mem_iff]
  cases hi : idxE E k with
  | none =>
    rw [hi] at hf
    have hno := idxE_none hi
    refine ⟨putM w r (.map ((E ++ [(⟨k, v, c⟩ : Ent V)]).map (Ent.val enc)).toArray (c + 1)), ?_, ⟨E ++ [(⟨k, v, c⟩ : Ent V)], c + 1, ⟨putM_heap _ hE.lt_heap, ?_, ?_, ?_, ?_⟩, hkeys (fun a b => ?_) ?_, srt_putL hs k v⟩, putM_chg _ _ _, putM_size _ _ _⟩
    · have hpush : (E.map (Ent.val enc)).toArray.push { key := .int .i64 k, val := enc v, born := c } = ((E ++ [(⟨k, v, c⟩ : Ent V)]).map (Ent.val enc)).toArray := by simp [Ent.val]
      rw [← hpush]
      simp [Instr.mapUpdate, run_underlying ht, run_getMap hE.heap, run_checkKey hk, hf, run_setMap _ hE.heap]
    · refine List.pairwise_append.2 ⟨hE.keys, List.pairwise_singleton _ _, fun x hx y hy => ?_⟩
      rw [List.mem_singleton] at hy
      subst hy
      exact hno x hx
    · refine List.pairwise_append.2 ⟨hE.stamps, List.pairwise_singleton _ _, fun x hx y hy => ?_⟩
      rw [List.mem_singleton] at hy
      subst hy
      exact hE.lt x hx
    · intro e he
      rcases List.mem_append.1 he with he | he
      · have := hE.lt e he; omega
      · rw [List.mem_singleton] at he
        subst he
        exact Nat.lt_succ_self _
    · intro e he
      rcases List.mem_append.1 he with he | he
      · exact hE.wf e he
      · rw [List.mem_singleton] at he
        subst he
        exact hk1
    · have e1 : pairs (E ++ [(⟨k, v, c⟩ : Ent V)]) = pairs E ++ [(k, v)] := by simp [pairs]
      rw [e1, List.mem_append, List.mem_singleton, Prod.mk.injEq]
      constructor
      · rintro (h | h)
        · refine .inr ⟨fun e => ?_, h⟩
          obtain ⟨x, hx, ex⟩ := List.mem_map.1 h
          exact hno x hx (by rw [← e]; exact congrArg Prod.fst ex)
        · exact .inl h
      · rintro (h | ⟨_, h⟩)
        · exact .inr h
        · exact .inl h
    · refine List.pairwise_append.2 ⟨hE.keys, List.pairwise_singleton _ _, fun x hx y hy => ?_⟩
      rw [List.mem_singleton] at hy
      subst hy
      exact hno x hx
  | some p =>
    obtain ⟨i, v0⟩ := p
    rw [hi] at hf
    obtain ⟨e, he, hek, hev⟩ := idxE_some hi
    have hil : i < E.length := (List.getElem?_eq_some_iff.1 he).1
    have hm := mem_setE (v := v) hE.keys hi
    have hmod : ∀ {Q : Ent V → Prop}, (∀ x ∈ E, Q x → Q { x with v := v }) → (∀ x ∈ E, Q x) → ∀ x ∈ setE E i v, Q x := fun {Q} h1 h2 x hx => by
      unfold setE at hx
      obtain ⟨j, hj⟩ := List.getElem?_of_mem hx
      rw [List.getElem?_modify] at hj
      obtain ⟨y, hy, hxy⟩ := Option.map_eq_some_iff.1 hj
      have hym := List.mem_of_getElem? hy
      by_cases hij : i = j
      · rw [if_pos hij] at hxy
        rw [← hxy]
        exact h1 y hym (h2 y hym)
      · rw [if_neg hij] at hxy
        rw [← hxy]
        exact h2 y hym
    have hmap : ∀ {A : Type} (f : Ent V → A), (∀ x, f { x with v := v } = f x) → (setE E i v).map f = E.map f := fun {A} f hf' => by
      refine List.ext_getElem? fun j => ?_
      unfold setE
      rw [List.getElem?_map, List.getElem?_modify, List.getElem?_map]
      cases E[j]? with
      | none => rfl
      | some x =>
        show some (f (if i = j then { x with v := v } else x)) = some (f x)
        by_cases hij : i = j
        · rw [if_pos hij, hf' x]
        · rw [if_neg hij]
    have hks : (setE E i v).Pairwise fun x y => x.k ≠ y.k := by
      have h1 := hE.keys
      rw [← List.pairwise_map (f := fun e : Ent V => e.k) (R := fun a b => a ≠ b)] at h1 ⊢
      rwa [hmap (fun e => e.k) (fun _ => rfl)]
    have hst : (setE E i v).Pairwise fun x y => x.b < y.b := by
      have h1 := hE.stamps
      rw [← List.pairwise_map (f := fun e : Ent V => e.b) (R := fun a b => a < b)] at h1 ⊢
      rwa [hmap (fun e => e.b) (fun _ => rfl)]
    have harr : (E.map (Ent.val enc)).toArray.modify i (fun x => { x with key := .int .i64 k, val := enc v }) = ((setE E i v).map (Ent.val enc)).toArray := by
      apply Array.ext'
      refine List.ext_getElem? fun j => ?_
      rw [Array.getElem?_toList, Array.getElem?_modify]
      unfold setE
      rw [List.getElem?_toArray, List.getElem?_map, List.getElem?_map, List.getElem?_modify]
      by_cases hij : i = j
      · subst hij
        rw [if_pos rfl, he]
        show some _ = some (Ent.val enc (if i = i then { e with v := v } else e))
        rw [if_pos rfl]
        simp [Ent.val, hek]
      · rw [if_neg hij]
        cases E[j]? with
        | none => rfl
        | some x => show some (Ent.val enc x) = some (Ent.val enc (if i = j then { x with v := v } else x)); rw [if_neg hij]
    refine ⟨putM w r (.map ((setE E i v).map (Ent.val enc)).toArray c), ?_, ⟨setE E i v, c, ⟨putM_heap _ hE.lt_heap, hks, hst, hmod (Q := fun e => e.b < c) (fun _ _ h => h) hE.lt, hmod (Q := fun e => -9223372036854775808 ≤ e.k ∧ e.k ≤ 9223372036854775807) (fun _ _ h => h) hE.wf⟩, hkeys hm hks, srt_putL hs k v⟩, putM_chg _ _ _, putM_size _ _ _⟩
    have hold : ((((E.map (Ent.val enc)).toArray[i]?).map (·.key)).getD (.int .i64 k)) = .int .i64 k := by
      rw [List.getElem?_toArray, List.getElem?_map, he]
      show Value.int .i64 e.k = _
      rw [hek]
    have hstay : (Instr.keyThatStays (.int .i64 k) (.int .i64 k)).run P w = .ok (.int .i64 k) w := by
      unfold Instr.keyThatStays
      have : Instr.sameBits 10000 (.int .i64 k) (.int .i64 k) = true := by
        show Instr.sameBits (9999 + 1) (.int .i64 k) (.int .i64 k) = true
        rw [Instr.sameBits]
        simp
      rw [if_pos this]
      rfl
    rw [← harr]
    unfold Instr.mapUpdate
    simp only [Sem.run_bind, run_underlying ht, Result.andThen_ok, run_getMap hE.heap, run_checkKey hk, hf, hold, hstay, Option.map_some]
    exact run_setMap _ hE.heap
theorem eraseIdx_map' {A B : Type} (f : A → B) : ∀ (l : List A) (i : Nat), (l.map f).eraseIdx i = (l.eraseIdx i).map f
  | [], _ => rfl
  | _ :: _, 0 => rfl
  | a :: l, i + 1 => by simp [List.eraseIdx, eraseIdx_map' f l i]
theorem MapM.delete (h : MapM enc w r L) (ht : P.underlying t = some (.map kt et)) (hk : P.underlying kt = some (.int .i64)) (k : Int) (ty : TypeId) :
    ∃ w', (Builtin.delete_ #[t, kt] ty #[.map (some r), .int .i64 k]).run P w = .ok (.tuple #[]) w' ∧ MapM enc w' r (delL L k) ∧ Chg (fun k => k = r) w w' ∧ w'.heap.size = w.heap.size := by
  obtain ⟨E, c, hE, hp, hs⟩ := h
  have hf := run_findKey (P := P) (kt := kt) (w := w) (enc := enc) (E := E) hk k
  have hfil : MapM enc (putM w r (.map ((E.filter fun e => e.k != k).map (Ent.val enc)).toArray c)) r (delL L k) := by
    refine ⟨E.filter fun e => e.k != k, c, ⟨putM_heap _ hE.lt_heap, hE.keys.filter _, hE.stamps.filter _, fun e he => hE.lt e ((List.mem_filter.1 he).1), fun e he => hE.wf e ((List.mem_filter.1 he).1)⟩, ?_, srt_delL hs k⟩
    have e1 : pairs (E.filter fun e => e.k != k) = (pairs E).filter fun p => p.1 != k := by
      unfold pairs
      rw [List.filter_map]
      rfl
    rw [e1]
    exact hp.filter _
  cases hi : idxE E k with
  | none =>
    rw [hi] at hf
    rw [filter_none hi] at hfil
    refine ⟨_, ?_, hfil, putM_chg _ _ _, putM_size _ _ _⟩
    simp [Builtin.delete_, run_underlying ht, run_getMap hE.heap, run_checkKey hk, hf, run_setMap _ hE.heap]
  | some p =>
    obtain ⟨i, v0⟩ := p
    rw [hi] at hf
    rw [← erase_idx hE.keys hi] at hfil
    refine ⟨_, ?_, hfil, putM_chg _ _ _, putM_size _ _ _⟩
    have harr : (E.map (Ent.val enc)).toArray.eraseIdxIfInBounds i = ((E.eraseIdx i).map (Ent.val enc)).toArray := by
      simp [eraseIdx_map']
    rw [← harr]
    simp [Builtin.delete_, run_underlying ht, run_getMap hE.heap, run_checkKey hk, hf, run_setMap _ hE.heap]
theorem MapM.clear (h : MapM enc w r L) (ht : P.underlying t = some (.map kt et)) (ty : TypeId) :
    ∃ w', (Builtin.clear_ #[t] ty #[.map (some r)]).run P w = .ok (.tuple #[]) w' ∧ MapM enc w' r [] ∧ Chg (fun k => k = r) w w' ∧ w'.heap.size = w.heap.size := by
  obtain ⟨E, c, hE, hp, hs⟩ := h
  refine ⟨putM w r (.map #[] c), ?_, ⟨[], c, ⟨putM_heap _ hE.lt_heap, .nil, .nil, (fun e he => by cases he), (fun e he => by cases he)⟩, .refl _, .nil⟩, putM_chg _ _ _, putM_size _ _ _⟩
  simp [Builtin.clear_, run_underlying ht, run_getMap hE.heap, run_setMap _ hE.heap]
theorem MapM.len (h : MapM enc w r L) (ht : P.underlying t = some (.map kt et)) (ty : TypeId) : (Builtin.len_ #[t] ty #[.map (some r)]).run P w = .ok (.int .i64 (L.length : Int)) w := by
  obtain ⟨E, c, hE, hp, hs⟩ := h
  rw [← mapE_size hp]
  simp [Builtin.len_, run_underlying ht, run_getMap hE.heap]
  try rfl
end
end Go.Vc
