/- The program's tab stops: Back, which goes over slices.Backward. -/
import Derived.Test.YtpadlibcalomnaaTb3
import Derived.Test.YtpadlibcalomnaaBk
import Derived.BigFrameIn
import Derived.BigRegionIn
import Derived.BigGuardIn
import Derived.BigGuardPartIn
import Derived.Scope
set_option linter.unusedVariables false
namespace Go.Proofs.Ytpadlibcalomnaa
open Go.Vc Go.RowKit Go.Shelf
set_option maxRecDepth 100000

attribute [local go_sem] Oper.semAt_some

theorem scan_app (p : Int → Bool) (d : Int) {n n' : Int} {pre : List Int} {x : Int} (h : ∀ rest, scan p d (pre ++ rest) n = scan p d rest n') :
    (p x = false → ∀ rest, scan p d ((pre ++ [x]) ++ rest) n = scan p d rest n') ∧ (p x = true → n' = 1 → ∀ rest, scan p d ((pre ++ [x]) ++ rest) n = x) ∧ (p x = true → n' ≠ 1 → ∀ rest, scan p d ((pre ++ [x]) ++ rest) n = scan p d rest (n' - 1)) := by
  refine ⟨fun hp rest => ?_, fun hp hn rest => ?_, fun hp hn rest => ?_⟩ <;> rw [List.append_assoc, h, List.singleton_append, scan, hp]
  · rfl
  · rw [if_pos rfl, if_pos hn]
  · rw [if_pos rfl, if_neg hn]
theorem upto_back (zs : List Int) : ∀ k, k ≤ zs.length → (upto (bkf zs zs.length) k).map (·.2) = zs.reverse.take k
  | 0, _ => rfl
  | k + 1, hk => by
    rw [upto_succ, List.map_append, upto_back zs k (by omega), List.take_add_one]
    congr 1
    rw [List.getElem?_reverse (by omega)]
    unfold bkf
    rw [List.getElem?_eq_getElem (by omega)]
    rfl
section
variable {w w' : World} {g r : Nat} {B : List Bool}
/-- What stays true of the loop's own variables. -/
def BkI (w : World) (col n : Int) (pre : List (Int × Int)) (W : World) : Prop :=
  Below w.heap.size w W ∧ Boxed W w.heap.size 3 (.int .i64 col) ∧ (∃ n', Boxed W (w.heap.size + 1) 3 (.int .i64 n') ∧ 1 ≤ n' ∧ n' ≤ n ∧ ∀ rest, scan (fun k => decide (k < col)) 0 (pre.map (·.2) ++ rest) n = scan (fun k => decide (k < col)) 0 rest n') ∧
    ∃ v, Boxed W (w.heap.size + 1 + 1) 3 (.int .i64 v)
def BkX (w : World) (col n : Int) (c : Code) (pre : List (Int × Int)) (W : World) : Prop :=
  c = .ret ∧ Below w.heap.size w W ∧ ∃ v, Boxed W (w.heap.size + 1 + 1) 3 (.int .i64 v) ∧ ∀ rest, scan (fun k => decide (k < col)) 0 (pre.map (·.2) ++ rest) n = v
theorem bkI_own (w : World) (col n : Int) {b : Nat} (hb : w.heap.size + 1 + 1 < b) : OwnFrom b (BkI w col n) := by
  rintro pre W W' row ⟨h1, h2, ⟨n', h3, h4⟩, v, h5⟩ hg hr
  have hne : ∀ k, k < b → some k ≠ row := fun k hk e => by have := (hr k e.symm).1; omega
  exact ⟨h1.grown hg h1.size fun k e => by have := (hr k e).1; omega, h2.kept hg (hne _ (by omega)), ⟨n', h3.kept hg (hne _ (by omega)), h4⟩, v, h5.kept hg (hne _ hb)⟩
theorem bkX_own (w : World) (col n : Int) (c : Code) {b : Nat} (hb : w.heap.size + 1 + 1 < b) : OwnFrom b (BkX w col n c) := by
  rintro pre W W' row ⟨h0, h1, v, h5, h6⟩ hg hr
  have hne : ∀ k, k < b → some k ≠ row := fun k hk e => by have := (hr k e.symm).1; omega
  exact ⟨h0, h1.grown hg h1.size fun k e => by have := (hr k e).1; omega, v, h5.kept hg (hne _ hb), h6⟩
theorem leaves9 {n : Nat} {tmps : Array Value} {R : Ending → World → Prop} {W : World} {br : Nat} {v : Int} (hres : tmps[6]?.getD undef = .pointer (some ⟨br, 0, none⟩)) (hc : W.cell? ⟨br, 0, none⟩ = some (.int .i64 v)) (hR : R (.returned (.int .i64 v)) W) :
    LeavesIn Fence.wide n Try.prog Try.f9 tmps R [] .returning W := by
  refine ⟨.int .i64 v, ?_, hR⟩
  simp [results, Try.f9, go_sem, hres, hc]
theorem keeps_set {W : World} {b : Nat} {v : Value} : KeepsOthers W (W.setCell ⟨b, 0, none⟩ v) := KeepsOthers.setCell _ _ _
theorem kp2_set {Bs b k : Nat} {W : World} {v : Value} (h1 : Bs ≠ k) (h2 : b ≠ k) : Kp2 Bs b W (W.setCell ⟨k, 0, none⟩ v) := ⟨Below.heap_setCell W ⟨k, 0, none⟩ v Bs h1, Below.heap_setCell W ⟨k, 0, none⟩ v b h2⟩
theorem below_set {w W : World} {k : Nat} {v : Value} (h : Below w.heap.size w W) (hk : w.heap.size ≤ k) : Below w.heap.size w (W.setCell ⟨k, 0, none⟩ v) := h.setCell (p := ⟨k, 0, none⟩) hk v
theorem boxed_other {W : World} {k k' : Nat} {t : TypeId} {v u : Value} (h : Boxed W k t v) (hne : k ≠ k') : Boxed (W.setCell ⟨k', 0, none⟩ u) k t v := (Below.heap_setCell W ⟨k', 0, none⟩ u k hne).trans h
set_option maxHeartbeats 8000000 in
theorem Back_in (h : StopsM w g r B) (hl : 1 ≤ B.length ∧ B.length ≤ 1000) (col n : Int) (hnm : n ≤ 9223372036854775807) :
    CallsIn Fence.wide 9 Try.prog 9 #[.pointer (some ⟨g, 0, none⟩), .int .i64 col, .int .i64 n] w fun e w' => e = .returned (.int .i64 (backB B col n)) ∧ Below w.heap.size w w' := by
  refine callsIn_of_wp_marks Try.func9 rfl trivial ?_ rfl
  simp only [Try.ntmps9, List.size_toArray, List.length_cons, List.length_nil, Nat.reduceAdd, Nat.reduceSub, Array.replicate_succ, Array.replicate_zero, List.push_toArray, List.append_toArray, List.nil_append, List.cons_append]
  have hB3 : Below w.heap.size w (((w.alloc (.cells #[.int .i64 col] 3)).alloc (.cells #[.int .i64 n] 3)).alloc (.cells #[.int .i64 0] 3)) := (((Below.refl _ w).alloc (Nat.le_refl _) _).alloc (by simp) _).alloc (by simp; omega) _
  have h3 := h.ext hB3
  have his := fun m => (callsIn_wide (n := m)).2 (is_spec h3 col (K := fun b w' => b = inB B col ∧ w' = _) ⟨rfl, rfl⟩)
  have hnear := fun m => (callsIn_wide (n := m)).2 (near_spec h3 hl.2 col (K := fun b w' => b = nearB B col ∧ w' = _) ⟨rfl, rfl⟩)
  have hAll := fun m => (callsIn_wide (n := m)).2 (All_spec h3 hl.2 (K := fun q w' => Go.Vc.Own E_int w' (w.heap.size + 1 + 1 + 1) q (keysI B) ∧ Below (w.heap.size + 1 + 1 + 1) _ w') (fun q w' hq hB => ⟨by simpa using hq, by simpa using hB⟩))
  have c0 : Boxed (((w.alloc (.cells #[.int .i64 col] 3)).alloc (.cells #[.int .i64 n] 3)).alloc (.cells #[.int .i64 0] 3)) w.heap.size 3 (.int .i64 col) := ((Boxed.new w 3 (.int .i64 col)).alloc _).alloc _
  have c1 : Boxed (((w.alloc (.cells #[.int .i64 col] 3)).alloc (.cells #[.int .i64 n] 3)).alloc (.cells #[.int .i64 0] 3)) (w.heap.size + 1) 3 (.int .i64 n) := by
    have := Boxed.new (w.alloc (.cells #[.int .i64 col] 3)) 3 (.int .i64 n)
    rw [World.size_alloc] at this
    exact this.alloc _
  have c2 : Boxed (((w.alloc (.cells #[.int .i64 col] 3)).alloc (.cells #[.int .i64 n] 3)).alloc (.cells #[.int .i64 0] 3)) (w.heap.size + 1 + 1) 3 (.int .i64 0) := by
    have := Boxed.new ((w.alloc (.cells #[.int .i64 col] 3)).alloc (.cells #[.int .i64 n] 3)) 3 (.int .i64 0)
    simpa only [World.size_alloc] using this
  have hs3 : (((w.alloc (.cells #[.int .i64 col] 3)).alloc (.cells #[.int .i64 n] 3)).alloc (.cells #[.int .i64 0] 3)).heap.size = w.heap.size + 1 + 1 + 1 := by simp only [World.size_alloc]
  cases hcmp : decide (n < 1) with
  | true =>
    have hn : n < 1 := of_decide_eq_true hcmp
    gi_wp2
    refine wpIn_wide.2 (wp_scope_straight ((wpIn_wide (n := 9)).1 ?_))
    gi_wp2
    refine ⟨trivial, ?_⟩
    gi_wp2
    refine ⟨trivial, (hnear _).mono ?_⟩
    rintro e w' ⟨r0, rfl, rfl, rfl⟩
    gi_wp2
    show LeavesInM Fence.wide 9 Try.prog Try.f9 _ (fun e w' => e = .returned (.int .i64 (backB B col n)) ∧ Below w.heap.size w w') [] .returning _
    have hcell := (Boxed.new ((w.alloc (.cells #[.int .i64 col] 3)).alloc (.cells #[.int .i64 n] 3)) 3 (.int .i64 (nearB B col))).cell
    simp only [World.size_alloc] at hcell
    refine leaves9 rfl hcell ⟨?_, ?_⟩
    · unfold backB
      rw [if_pos (.inl hn)]
    · exact (((Below.refl _ w).alloc (Nat.le_refl _) _).alloc (by simp) _).alloc (by simp; omega) _
  | false =>
  cases hin : inB B col with
  | false =>
    gi_wp2
    refine wpIn_wide.2 (wp_scope_straight ((wpIn_wide (n := 9)).1 ?_))
    gi_wp2
    refine ⟨trivial, (his _).mono ?_⟩
    rintro e w' ⟨r0, rfl, rfl, rfl⟩
    rw [hin]
    gi_wp2
    refine ⟨trivial, (hnear _).mono ?_⟩
    rintro e w' ⟨r0, rfl, rfl, rfl⟩
    gi_wp2
    show LeavesInM Fence.wide 9 Try.prog Try.f9 _ (fun e w' => e = .returned (.int .i64 (backB B col n)) ∧ Below w.heap.size w w') [] .returning _
    have hcell := (Boxed.new ((w.alloc (.cells #[.int .i64 col] 3)).alloc (.cells #[.int .i64 n] 3)) 3 (.int .i64 (nearB B col))).cell
    simp only [World.size_alloc] at hcell
    refine leaves9 rfl hcell ⟨?_, ?_⟩
    · unfold backB
      rw [if_pos (.inr hin)]
    · exact (((Below.refl _ w).alloc (Nat.le_refl _) _).alloc (by simp) _).alloc (by simp; omega) _
  | true =>
    have hn1 : 1 ≤ n := by
      have := of_decide_eq_false hcmp
      omega
    gi_wp2
    refine wpIn_wide.2 (wp_scope_straight ((wpIn_wide (n := 9)).1 ?_))
    gi_wp2
    refine ⟨trivial, (his _).mono ?_⟩
    rintro e w' ⟨r0, rfl, rfl, rfl⟩
    rw [hin]
    gi_wp2
    refine wpIn_label ?_
    gi_wp2
    refine ⟨trivial, (hAll _).mono ?_⟩
    rintro e w4 ⟨q, rfl, hq, hB4⟩
    gi_wp2
    refine ⟨trivial, (backward_in Fence.wide _ trivial rfl _ _ _ _).mono ?_⟩
    rintro e w5 ⟨rfl, rfl⟩
    gi_wp2
    obtain ⟨w5, hw5⟩ : ∃ w5, w4.alloc (.cells #[.slice q.a q.n q.c] 22) = w5 := ⟨_, rfl⟩
    have hs4 := hB4.size
    rw [hs3] at hs4
    have hs5 : w5.heap.size = w4.heap.size + 1 := by rw [← hw5]; simp
    have hB45 : Below w4.heap.size w4 w5 := by rw [← hw5]; exact (Below.refl _ w4).alloc (Nat.le_refl _) _
    have hbox5 : Boxed w5 w4.heap.size 22 (.slice q.a q.n q.c) := by rw [← hw5]; exact Boxed.new w4 22 _
    have k35 : ∀ {k : Nat} {v : Value}, k < w.heap.size + 1 + 1 + 1 → Boxed (((w.alloc (.cells #[.int .i64 col] 3)).alloc (.cells #[.int .i64 n] 3)).alloc (.cells #[.int .i64 0] 3)) k 3 v → Boxed w5 k 3 v := fun {k v} hk hb =>
      (hB45.block k (by omega)).trans ((hB4.block k hk).trans hb)
    have hBw5 : Below w.heap.size w w5 := (hB3.trans (hB4.mono (by omega))).trans (hB45.mono (by omega))
    have hq5 : Go.Vc.Own E_int w5 (w.heap.size + 1 + 1 + 1) q (keysI B) := hq.ext hB45
    have hlen : (keysI B).length ≤ 1000 := by
      have := keys_le B
      unfold keysI
      rw [List.length_map]
      omega
    obtain ⟨b, hb1, hb2, hI5⟩ : ∃ b, b < w5.heap.size ∧ w.heap.size + 1 + 1 + 1 ≤ b ∧ Ints b w5 (.slice q.a q.n q.c) (keysI B) := by
      rcases hq5.form with ⟨rfl, hz⟩ | ⟨g', cur, hs, hg', hblk, h1, h2, h3', h4⟩
      · exact ⟨w4.heap.size, by omega, by omega, .inl ⟨rfl, hz⟩⟩
      · refine ⟨g', hblk.lt, hg', .inr ⟨0, q.c, by rw [hs], fun j hj => ?_⟩⟩
        have hx := hq5.rd.at_ j (keysI B)[j] (by simp [hj])
        have := hx 0 (.int .i64 (keysI B)[j]) rfl
        rw [List.getElem?_eq_getElem hj]
        rw [hs] at this
        simpa [Slc.at_, add_mk, show E_int.k = 1 from rfl] using this
    rw [hw5]
    refine wpIn_rangeFunc_ownF rfl (by omega) (gf := 27) (lb := #[.pointer (some ⟨w4.heap.size, 0, none⟩)]) rfl trivial (enters_of Try.func27 (by kernel_rfl) rfl)
      (back_stops Fence.wide 8 trivial rfl (by omega) w4.heap.size b _ (keysI B) (by omega) w5 (by omega) hb1 hbox5.cell hI5) (fun h k => h.trans k)
      (fun W l o o' hl ho h1 h2 => ⟨World.putObj_heap_other (by omega), World.putObj_heap_other (by omega)⟩) (Below.refl _ _) (fun _ => rfl)
      (BkI w col n) (BkX w col n) (bkI_own w col n (by omega)) (fun c => bkX_own w col n c (by omega))
      ⟨hBw5, k35 (by omega) c0, ⟨n, k35 (by omega) c1, hn1, Int.le_refl _, fun rest => rfl⟩, 0, k35 (by omega) c2⟩
      (fun x => { tmps := #[Value.pointer (some { block := g, off := 0 }), Value.int IntKind.i64 col, Value.int IntKind.i64 n, undef, Value.pointer (some { block := w.heap.size, off := 0 }), Value.pointer (some { block := w.heap.size + 1, off := 0 }), Value.pointer (some { block := w.heap.size + 1 + 1, off := 0 }), undef, Value.int .i64 x.2, Value.int IntKind.i64 n,
          Value.bool false, Value.bool false, Value.pointer (some { block := g, off := 0 }), Value.int IntKind.i64 col, Value.bool true, Value.bool false, Value.bool false, undef, undef, undef,
          Value.pointer (some { block := g, off := 0 }), Value.slice q.a q.n q.c, .func (.func 27) #[] #[.pointer (some ⟨w4.heap.size, 0, none⟩)], .int .i64 x.1, .int .i64 x.2, undef, undef, undef, undef, undef, undef, undef, undef], defers := [] }) ?assign ?body ?done ?stop
    case assign =>
      intro l x W K hK
      gi_wp2
      exact hK
    case body =>
      rintro l pre x W ⟨hw, hcx, ⟨n', hnx, hn1', hnn, hsc⟩, v0, hvx⟩ hlt
      have e0 := hcx.cell
      have e1 := hnx.cell
      have f1 := hnx.frozen
      have e2 := hvx.cell
      have f2 := hvx.frozen
      obtain ⟨ha, hb', hc'⟩ := scan_app (fun k => decide (k < col)) 0 (x := x.2) hsc
      have hmap : (pre ++ [x]).map (·.2) = pre.map (·.2) ++ [x.2] := by simp
      cases hle : decide (col ≤ x.2) with
      | true =>
        have hle' : col ≤ x.2 := of_decide_eq_true hle
        gi_wp2
        refine ⟨KeepsOthers.refl _, Kp2.refl _ _ _, hw, hcx, ⟨n', hnx, hn1', hnn, fun rest => ?_⟩, v0, hvx⟩
        rw [hmap]
        exact ha (by simpa using hle') rest
      | false =>
        have hle' := of_decide_eq_false hle
        have hp : decide (x.2 < col) = true := by simpa using hle'
        gi_wp2
        · rename_i hz
          have hz : n' - 1 = 0 := by simpa using hz
          refine ⟨(keeps_set).trans keeps_set, rfl, below_set (below_set hw (by omega)) (by omega), x.2, ?_, fun rest => ?_⟩
          · exact (boxed_other hvx (by omega)).set _
          · rw [hmap]
            exact hb' hp (by omega) rest
        · rename_i hz
          have hz : ¬ n' - 1 = 0 := by simpa using hz
          refine ⟨keeps_set, kp2_set (by omega) (by omega), below_set hw (by omega), boxed_other hcx (by omega), ⟨n' - 1, hnx.set _, by omega, by omega, fun rest => ?_⟩, v0, boxed_other hvx (by omega)⟩
          rw [hmap]
          exact hc' hp (by omega) rest
    case done =>
      rintro D ys W hD rfl ⟨hw, hcx, ⟨n', hnx, hn1', hnn, hsc⟩, v0, hvx⟩ hK
      have e2 := hvx.cell
      have f2 := hvx.frozen
      gi_wp2
      have hK' := (keeps_set (W := W) (b := w.heap.size + 1 + 1) (v := .int .i64 0)).same D _ hK rfl
      refine ⟨by simp, .inl ⟨_, _, rfl, run_takeDeferred hK', ?_⟩⟩
      have hb5 := (hvx.set (.int .i64 0)).kept (grownBy_putObj' _ D (.deferred none)) (fun e => by cases e; omega)
      refine leaves9 rfl hb5.cell ⟨?_, ?_⟩
      · rw [back_eq hn1 hin, ← scan_nth _ _ _ _ hn1]
        have := hsc []
        rw [upto_back _ _ (Nat.le_refl _), List.take_of_length_le (by simp), List.append_nil] at this
        rw [this]
        rfl
      · exact (below_set hw (by omega)).grown (grownBy_putObj' _ D (.deferred none)) (by simp; exact hw.size) fun k e => by cases e; omega
    case stop =>
      rintro D c pre W hD ⟨k, hk, rfl⟩ ⟨rfl, hw, v, hvx, hsc⟩ hK
      gi_wp2
      refine ⟨by simp, .inl ⟨_, _, rfl, run_takeDeferred hK, ?_⟩⟩
      have hb5 := hvx.kept (grownBy_putObj' _ D (.deferred none)) (fun e => by cases e; omega)
      refine leaves9 rfl hb5.cell ⟨?_, ?_⟩
      · rw [back_eq hn1 hin, ← scan_nth _ _ _ _ hn1]
        have := hsc ((keysI B).reverse.drop k)
        rw [upto_back _ _ hk, List.take_append_drop] at this
        rw [this]
      · exact hw.grown (grownBy_putObj' _ D (.deferred none)) hw.size fun k e => by cases e; omega
theorem Back_spec (h : StopsM w g r B) (hl : 1 ≤ B.length ∧ B.length ≤ 1000) (col n : Int) (hnm : n ≤ 9223372036854775807) {K : Int → World → Prop}
    (hK : ∀ w', Below w.heap.size w w' → K (backB B col n) w') : c_tabs_Stops_Back (some ⟨g, 0, none⟩) col n w K := by
  refine Calls.mono (callsIn_wide.1 (Back_in h hl col n hnm)) ?_
  rintro e w' ⟨rfl, hB⟩
  exact ⟨_, rfl, hK w' hB⟩
end
end Go.Proofs.Ytpadlibcalomnaa
