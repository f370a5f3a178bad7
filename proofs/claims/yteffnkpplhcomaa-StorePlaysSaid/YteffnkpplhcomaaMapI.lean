/- Program-generic: a range over a map with int keys, step by step; a map's clone. No program in sight. -/
import Derived.Test.YteffnkpplhcomaaMapO
import Derived.Maps.RangeRun
set_option linter.unusedVariables false
namespace Go.Vc
open Go.RowKit
open Go.ChangeMaps (setBlock)

section
variable {V : Type} (enc : V → Value)
/-- A range under way: the map holds L, and these are still to come. -/
def MapI (w : World) (r it : Nat) (L todo : List (Int × V)) : Prop :=
  ∃ E c since seen c0, MapE enc w r E c ∧ (pairs E).Perm L ∧ Srt L ∧ w.heap[it]? = some (.mapIter (some r) since seen c0) ∧ (∀ e ∈ E, e.b < since) ∧ since ≤ c0 ∧ since ≤ c ∧
    (pairs (E.filter fun e => !seen.contains e.b)).Perm todo
variable {enc}
variable {P : Program} {t kt et : TypeId} {w : World} {r it : Nat} {L todo : List (Int × V)}
theorem MapI.map (h : MapI enc w r it L todo) : MapM enc w r L := by
  obtain ⟨E, c, _, _, _, h1, h2, h3, _⟩ := h
  exact ⟨E, c, h1, h2, h3⟩
theorem MapI.keep {w' : World} (h : MapI enc w r it L todo) (hr : w'.heap[r]? = w.heap[r]?) (hi : w'.heap[it]? = w.heap[it]?) : MapI enc w' r it L todo := by
  obtain ⟨E, c, since, seen, c0, h1, h2, h3, h4, h5⟩ := h
  exact ⟨E, c, since, seen, c0, ⟨hr.trans h1.heap, h1.keys, h1.stamps, h1.lt, h1.wf⟩, h2, h3, hi.trans h4, h5⟩
theorem MapI.it_lt (h : MapI enc w r it L todo) : it < w.heap.size := by
  obtain ⟨E, c, since, seen, c0, h1, h2, h3, h4, h5⟩ := h
  exact (Array.getElem?_eq_some_iff.1 h4).1
theorem MapI.chg {S : Nat → Prop} {w' : World} (h : MapI enc w r it L todo) (hc : Chg S w w') (h1 : ¬ S r) (h2 : ¬ S it) : MapI enc w' r it L todo := h.keep (hc.block r h.map.lt h1) (hc.block it h.it_lt h2)
theorem MapI.ext {w' : World} (h : MapI enc w r it L todo) (hb : Below w.heap.size w w') : MapI enc w' r it L todo := h.keep (hb.block r h.map.lt) (hb.block it h.it_lt)
theorem rangeK_map (hM : MapM enc w r L) (ht : P.underlying t = some (.map kt et)) {K : Addr → World → Prop}
    (hK : ∀ w', MapI enc w' r w.heap.size L L → Below w.heap.size w w' → w'.heap.size = w.heap.size + 1 → K ⟨w.heap.size, 0, none⟩ w') : rangeK P t (.map (some r)) w K := by
  obtain ⟨E, c, hE, hp, hs⟩ := hM
  have hB : Below w.heap.size w (w.alloc (.mapIter (some r) c #[] c)) := (Below.refl _ w).alloc (Nat.le_refl _) _
  refine ⟨_, w.alloc (.mapIter (some r) c #[] c), ?_, hK _ ⟨E, c, c, #[], c, ⟨(hB.block r hE.lt_heap).trans hE.heap, hE.keys, hE.stamps, hE.lt, hE.wf⟩, hp, hs, ?_, hE.lt, Nat.le_refl _, Nat.le_refl _, ?_⟩ hB (by show (w.heap.push _).size = _; simp)⟩
  · simp [Instr.range, run_underlying ht, run_getMap hE.heap, newObj, Sem.run]
  · show (w.heap.push _)[w.heap.size]? = _
    simp
  · rw [List.filter_eq_self.2 (fun x _ => by simp)]
    exact hp
theorem mem_filter_val {E : List (Ent V)} {seen : Array Nat} {x : MapEntry} (h : x ∈ (leftOf (E.map (Ent.val enc)).toArray seen).toList) : ∃ e ∈ E.filter (fun e => !seen.contains e.b), Ent.val enc e = x := by
  unfold leftOf at h
  rw [Array.toList_filter] at h
  obtain ⟨h1, h2⟩ := List.mem_filter.1 h
  obtain ⟨e, he, rfl⟩ := List.mem_map.1 h1
  exact ⟨e, List.mem_filter.2 ⟨he, h2⟩, rfl⟩
theorem left_size {E : List (Ent V)} {seen : Array Nat} : (leftOf (E.map (Ent.val enc)).toArray seen).size = (E.filter (fun e => !seen.contains e.b)).length := by
  unfold leftOf
  rw [← Array.length_toList, Array.toList_filter, List.filter_map, List.length_map]
  rfl
theorem ents_nodup {E : List (Ent V)} (h : E.Pairwise fun x y => x.k ≠ y.k) : E.Nodup := h.imp fun hab e => hab (congrArg Ent.k e)
theorem ents_b {E : List (Ent V)} (h : E.Pairwise fun x y => x.b < y.b) : ∀ {x y}, x ∈ E → y ∈ E → x.b = y.b → x = y := by
  induction E with
  | nil => intro x y hx; cases hx
  | cons a E ih =>
    have hp := List.pairwise_cons.1 h
    intro x y hx hy e
    rcases List.mem_cons.1 hx with rfl | hx
    · rcases List.mem_cons.1 hy with rfl | hy
      · rfl
      · have := hp.1 y hy; omega
    · rcases List.mem_cons.1 hy with e' | hy
      · rw [e'] at e
        have := hp.1 x hx
        omega
      · exact ih hp.2 hx hy e
theorem filter_push {E : List (Ent V)} (h1 : E.Pairwise fun x y => x.k ≠ y.k) (h2 : E.Pairwise fun x y => x.b < y.b) {seen : Array Nat} {e : Ent V} (he : e ∈ E.filter fun e => !seen.contains e.b) :
    (E.filter fun x => !seen.contains x.b).Perm (e :: E.filter fun x => !(seen.push e.b).contains x.b) := by
  have hin := (List.mem_filter.1 he).1
  have hno : e ∉ E.filter fun x => !(seen.push e.b).contains x.b := fun h => by simp at h
  refine (List.perm_ext_iff_of_nodup ((ents_nodup h1).filter _) (List.nodup_cons.2 ⟨hno, (ents_nodup h1).filter _⟩)).2 fun x => ?_
  rw [List.mem_cons, List.mem_filter, List.mem_filter]
  simp only [Array.contains_eq_mem, Array.mem_push, Bool.not_eq_true', decide_eq_false_iff_not]
  constructor
  · rintro ⟨hx, hs⟩
    by_cases hxe : x = e
    · exact .inl hxe
    · refine .inr ⟨hx, fun h => ?_⟩
      rcases h with h | h
      · exact hs h
      · exact hxe (ents_b h2 hx hin h)
  · rintro (rfl | ⟨hx, h⟩)
    · have := (List.mem_filter.1 he).2
      simp only [Array.contains_eq_mem, Bool.not_eq_true', decide_eq_false_iff_not] at this
      exact ⟨hin, this⟩
    · exact ⟨hx, fun hs => h (.inl hs)⟩
/-- A step: nothing is left, or one of those that are left comes; the entry is read behind it. -/
theorem nextK_map (hM : MapI enc w r it L todo) (ty : TypeId) {K0 : World → Prop} {K1 : Value → Value → World → Prop} (h0 : todo = [] → K0 w)
    (h1 : ∀ k v w' todo', todo.Perm ((k, v) :: todo') → MapI enc w' r it L todo' → Chg (fun i => i = it) w w' → w'.heap.size = w.heap.size →
      ((Instr.entry (.pointer (some ⟨it, 0, none⟩))).run P w' = .ok (.tuple #[.int .i64 k, enc v]) w') → K1 (.int .i64 k) (enc v) w') :
    nextK P (.pointer (some ⟨it, 0, none⟩)) false ty w K0 K1 := by
  obtain ⟨E, c, since, seen, c0, hE, hp, hs, hi, hlt, hsc, hsk, htd⟩ := hM
  have hne : it ≠ r := by
    rintro rfl
    have := hE.heap
    rw [hi] at this
    cases this
  rcases run_next_at (P := P) w ty it r since c0 seen _ c hi hE.heap (fun x hx => by
      obtain ⟨e, he, rfl⟩ := List.mem_map.1 hx
      exact hlt e he) hsc with ⟨hz, hrun⟩ | ⟨x, hx, w1, hw1, hrun⟩
  · refine .inl ⟨w, hrun, h0 ?_⟩
    rw [left_size] at hz
    rw [List.eq_nil_of_length_eq_zero hz] at htd
    exact htd.symm.eq_nil
  · obtain ⟨e, he, rfl⟩ := mem_filter_val hx
    have hin := (List.mem_filter.1 he).1
    have hi1 : w1.heap[it]? = some (.mapIter (some r) since seen c0) := by rcases hw1 with rfl | rfl <;> exact hi
    have hE1 : w1.heap[r]? = some (.map (E.map (Ent.val enc)).toArray c) := by rcases hw1 with rfl | rfl <;> exact hE.heap
    have hsz : w1.heap.size = w.heap.size := by rcases hw1 with rfl | rfl <;> rfl
    have hset := Go.MapKept.heap_set (o' := .mapIter (some r) since (seen.push e.b) c) hi1
    have hr2 : (setBlock w1 it (.mapIter (some r) since (seen.push e.b) c)).heap[r]? = some (.map (E.map (Ent.val enc)).toArray c) := (hset.2 r (fun e1 => hne e1.symm)).trans hE1
    have hfp := filter_push hE.keys hE.stamps he
    refine .inr ⟨.int .i64 e.k, enc e.v, _, hrun, h1 e.k e.v _ (pairs (E.filter fun x => !(seen.push e.b).contains x.b)) ?_ ⟨E, c, since, seen.push e.b, c, ⟨hr2, hE.keys, hE.stamps, hE.lt, hE.wf⟩, hp, hs, hset.1, hlt, hsk, hsk, .refl _⟩ ?_ ?_ ?_⟩
    · refine htd.symm.trans ?_
      exact hfp.map fun e => (e.k, e.v)
    · refine ⟨?_, ?_, ?_, ?_, fun k hk hn => ?_⟩
      · rcases hw1 with rfl | rfl <;> rfl
      · rcases hw1 with rfl | rfl <;> rfl
      · rcases hw1 with rfl | rfl <;> rfl
      · rcases hw1 with rfl | rfl <;> simp [setBlock]
      · rcases hw1 with rfl | rfl <;> exact hset.2 k hn
    · rcases hw1 with rfl | rfl <;> simp [setBlock]
    · refine run_entry_at _ it r since seen _ c (Ent.val enc e) hset.1 hr2 (List.mem_map.2 ⟨e, hin, rfl⟩) ?_
      rw [List.toList_toArray, List.map_map]
      exact List.pairwise_map.2 (hE.stamps.imp fun {a b} h (e : a.b = b.b) => by rw [e] at h; exact Nat.lt_irrefl _ h)
theorem run_clone_map (hM : MapM enc w r L) (t : TypeId) :
    ∃ w', (Extern.MapsClone.clone #[.iface t (.map (some r))]).run P w = .ok (.iface t (.map (some w.heap.size))) w' ∧ MapM enc w' w.heap.size L ∧ Below w.heap.size w w' ∧ w'.heap.size = w.heap.size + 1 := by
  obtain ⟨E, c, hE, hp, hs⟩ := hM
  have hB : Below w.heap.size w (w.alloc (.map (E.map (Ent.val enc)).toArray c)) := (Below.refl _ w).alloc (Nat.le_refl _) _
  refine ⟨_, ?_, ⟨E, c, ⟨?_, hE.keys, hE.stamps, hE.lt, hE.wf⟩, hp, hs⟩, hB, by show (w.heap.push _).size = _; simp⟩
  · have e : Extern.MapsClone.clone #[.iface t (.map (some r))] = (getObj r >>= fun o => match o with
      | .map entries clock => (newObj (.map entries clock) >>= fun n => pure (.iface t (.map (some n))))
      | _ => stuck "maps.clone: a map expected") := rfl
    rw [e]
    simp [run_getMap hE.heap, newObj, Sem.run]
  · show (w.heap.push _)[w.heap.size]? = _
    simp
theorem run_typeAssert_map {xT k e : TypeId} {v : Value} (h : P.underlying t = some (.map k e)) : (Instr.typeAssert (.iface t v) xT t false).run P w = .ok v w := by
  simp [Instr.typeAssert, run_underlying h]
end
end Go.Vc
