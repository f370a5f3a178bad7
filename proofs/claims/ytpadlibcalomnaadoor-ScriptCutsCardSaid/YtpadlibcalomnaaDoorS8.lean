/- script.Parse at the text that known() reads. -/
import Derived.Test.YtpadlibcalomnaaDoorS7
import Derived.RangeFuncCalls
set_option linter.unusedVariables false
namespace Go.Proofs.YtpadlibcalomnaaDoor
open Go.Vc Go.RowKit Go.Shelf
set_option maxRecDepth 100000
attribute [local go_sem] Oper.semAt_some
def textK : List UInt8 := line1 ++ [10, 10] ++ line2 ++ [10]
theorem cutsK : Cuts 10 textK [line1, [], line2, []] := by
  refine .more textK 9 [[], line2, []] (by decide) (by decide) (by decide) ?_
  refine .more (textK.drop 10) 0 [line2, []] (by decide) (by decide) (by decide) ?_
  refine .more ((textK.drop 10).drop 1) 9 [[]] (by decide) (by decide) (by decide) ?_
  exact .last _ (by decide)
theorem SplitSeq_box {w : World} : Calls Tryd.prog 67 #[.string (strB textK), .string (strB [10])] w fun e w' =>
    e = .returned (.func (.func 100) #[] #[.pointer (some ⟨w.heap.size + 1, 0, none⟩), .pointer (some ⟨w.heap.size, 0, none⟩), .pointer (some ⟨w.heap.size + 2, 0, none⟩)]) ∧
      (Boxed w' w.heap.size 9 (.string (strB textK)) ∧ Boxed w' (w.heap.size + 1) 9 (.string (strB [10])) ∧ Boxed w' (w.heap.size + 2) 3 (.int .i64 0)) ∧ Below w.heap.size w w' ∧ w'.heap.size = w.heap.size + 3 := by
  have h : c_strings_SplitSeq (strB textK) (strB [10]) w fun v w' => v = (.func (.func 100) #[] #[.pointer (some ⟨w.heap.size + 1, 0, none⟩), .pointer (some ⟨w.heap.size, 0, none⟩), .pointer (some ⟨w.heap.size + 2, 0, none⟩)]) ∧
      (Boxed w' w.heap.size 9 (.string (strB textK)) ∧ Boxed w' (w.heap.size + 1) 9 (.string (strB [10])) ∧ Boxed w' (w.heap.size + 2) 3 (.int .i64 0)) ∧ Below w.heap.size w w' ∧ w'.heap.size = w.heap.size + 3 := by
    refine call_strings_SplitSeq _ _ ?_
    unfold sh_strings_SplitSeq
    refine call_strings_splitSeq _ _ _ ?_
    unfold sh_strings_splitSeq
    refine nw_blk fun w1 hb1 hB1 hs1 => nw_blk fun w2 hb2 hB2 hs2 => nw_blk fun w3 hb3 hB3 hs3 => ?_
    have e1 : w1.heap.size = w.heap.size + 1 := hs1
    have e2 : w2.heap.size = w.heap.size + 2 := by omega
    rw [e1] at hb2 ⊢
    rw [e2] at hb3 ⊢
    exact ⟨rfl, ⟨(hb1.ext hB2).ext hB3, hb2.ext hB3, hb3⟩, (hB1.trans (hB2.mono (by omega))).trans (hB3.mono (by omega)), by omega⟩
  refine Calls.mono h ?_
  rintro e w' ⟨r0, rfl, rfl, h2⟩
  exact ⟨rfl, h2⟩
/-- What has been read behind k lines. -/
def itemsK (q : Slc) (k : Nat) : List T_script_Item := if k = 0 then [] else if k ≤ 2 then [⟨q, false, 0, 0⟩] else [⟨q, false, 0, 0⟩, ⟨⟨none, 0, 0⟩, true, 3, -4⟩]
def PK (w : World) (bo bn M : Nat) (pre : List (List UInt8)) (W : World) : Prop :=
  ∃ q s : Slc, Boxed W bn 3 (.int .i64 pre.length) ∧ Boxed W bo 51 (.slice s.a s.n s.c) ∧ Go.Vc.Own E_script_Item W M s (itemsK q pre.length) ∧ (1 ≤ pre.length → Go.Vc.Own E_uint8 W M q [97, 27]) ∧ Below bo w W ∧ M ≤ W.heap.size
theorem own_box {T : Type} {E : El T} {W : World} {M : Nat} {s : Slc} {xs : List T} (h : Go.Vc.Own E W M s xs) {W' : World} {row : Option Nat} (hg : W.grownBy W' row) (hr : ∀ r, row = some r → M ≤ r ∧ ∃ o : Obj, W.heap[r]? = some o ∧ o.isCells = false) : Go.Vc.Own E W' M s xs := by
  refine h.kept hg ?_
  cases hs : s.blk with
  | none => exact .inl rfl
  | some k =>
    refine .inr fun e => ?_
    obtain ⟨_, o, ho, hc⟩ := hr k e.symm
    obtain ⟨cs, hcs⟩ := h.blk_t hs
    rw [show W.heap[k]? = _ from hcs] at ho
    cases ho
    cases hc
theorem PK_own (w : World) (bo bn M : Nat) (h1 : bo < M) (h2 : bn < M) : OwnFrom M (PK w bo bn M) := by
  rintro pre W W' row ⟨q, s, p1, p2, p3, p4, p5, p6⟩ hg hr
  have hne : ∀ k, k < M → some k ≠ row := fun k hk e => by have := (hr k e.symm).1; omega
  exact ⟨q, s, p1.kept hg (hne _ h2), p2.kept hg (hne _ h1), own_box p3 hg hr, fun h => own_box (p4 h) hg hr, p5.grown hg (by omega) fun k e => by have := (hr k e).1; omega, Nat.le_trans p6 hg.size⟩
theorem own_set {T : Type} {E : El T} {W : World} {M : Nat} {s : Slc} {xs : List T} (h : Go.Vc.Own E W M s xs) {b : Nat} (hb : b < M) (v : Value) : Go.Vc.Own E (W.setCell ⟨b, 0, none⟩ v) M s xs := by
  refine h.chg (S := fun k => k = b) ⟨rfl, rfl, rfl, by simp [World.setCell], fun i hi hn => Below.heap_setCell W ⟨b, 0, none⟩ v i hn⟩ fun g hg e => ?_
  have := (h.lt g hg).1
  omega
theorem boxed_set_other {W : World} {k k' : Nat} {t : TypeId} {v u : Value} (h : Boxed W k t v) (hne : k ≠ k') : Boxed (W.setCell ⟨k', 0, none⟩ u) k t v := (Below.heap_setCell W ⟨k', 0, none⟩ u k hne).trans h
theorem PK_set (w : World) (bo bn M Bs : Nat) (h0 : bo ≠ Bs) (h1 : bn ≠ Bs) (h2 : Bs < M) (h3 : bo ≤ Bs) : ∀ pre A v, PK w bo bn M pre A → PK w bo bn M pre (A.setCell ⟨Bs, 0, none⟩ v) := by
  rintro pre A v ⟨q, s, p1, p2, p3, p4, p5, p6⟩
  exact ⟨q, s, boxed_set_other p1 h1, boxed_set_other p2 h0, own_set p3 h2 v, fun h => own_set (p4 h) h2 v, p5.setCell (p := ⟨Bs, 0, none⟩) h3 v, by simpa [World.setCell] using p6⟩
theorem chg_set (W : World) (b : Nat) (v : Value) : Chg (fun k => k = b) W (W.setCell ⟨b, 0, none⟩ v) := ⟨rfl, rfl, rfl, by simp [World.setCell], fun i hi hn => Below.heap_setCell W ⟨b, 0, none⟩ v i hn⟩
/-- Behind a line that was read. -/
theorem step_post {w W W3 w4 : World} {bo bn M : Nat} {pre' : List (List UInt8)} {q2 s s' : Slc} {its : List T_script_Item} {n0 : Value} {o o' : Obj} {b0 b1 b2 : Nat} {v1 : Value} (hv1 : v1 = .int .i64 (pre'.length : Nat)) (hbo : bo < M) (hbn : bn < M) (hne : bo ≠ bn) (hwo : bo < bn)
    (p1 : Boxed W bn 3 n0) (p2 : Boxed W bo 51 (.slice s.a s.n s.c)) (p3 : Go.Vc.Own E_script_Item W M s its) (p5 : Below bo w W) (p6 : M ≤ W.heap.size)
    (hB3 : Below W.heap.size (W.setCell ⟨bn, 0, none⟩ v1) W3) (hgrow : ((W3.alloc o).alloc o').grownBy w4 s.blk) (hown' : Go.Vc.Own E_script_Item w4 M s' (itemsK q2 pre'.length)) (hq2 : Go.Vc.Own E_uint8 w4 M q2 [97, 27])
    (h0 : b0 < M ∧ b0 ≠ bo ∧ b0 ≠ bn) (h1 : b1 < M ∧ b1 ≠ bo ∧ b1 ≠ bn) (h2 : b2 < M ∧ b2 ≠ bo ∧ b2 ≠ bn) :
    KeepsOthers W (w4.setCell ⟨bo, 0, none⟩ (.slice s'.a s'.n s'.c)) ∧ Kp3 b0 b1 b2 W (w4.setCell ⟨bo, 0, none⟩ (.slice s'.a s'.n s'.c)) ∧ PK w bo bn M pre' (w4.setCell ⟨bo, 0, none⟩ (.slice s'.a s'.n s'.c)) := by
  subst hv1
  obtain ⟨W1, hW1⟩ : ∃ W1, W.setCell ⟨bn, 0, none⟩ (.int .i64 (pre'.length : Nat)) = W1 := ⟨_, rfl⟩
  rw [hW1] at hB3
  have c1 : Chg (fun k => k = bn) W W1 := by rw [← hW1]; exact chg_set _ _ _
  have s1 : W1.heap.size = W.heap.size := by rw [← hW1]; simp [World.setCell]
  have q1 : Boxed W1 bn 3 (.int .i64 (pre'.length : Nat)) := by rw [← hW1]; exact p1.set _
  have hB3' : Below W1.heap.size W1 W3 := by rw [s1]; exact hB3
  have hBa : Below W3.heap.size W3 ((W3.alloc o).alloc o') := ((Below.refl _ W3).alloc (Nat.le_refl _) _).alloc (by simp) _
  have hB4 : Below W1.heap.size W1 ((W3.alloc o).alloc o') := hB3'.trans (hBa.mono hB3'.size)
  have c4 : Chg (fun k => s.blk = some k) ((W3.alloc o).alloc o') w4 := Chg.of_grown hgrow fun k hk => hk
  have hall : Chg (fun k => k = bn ∨ k = bo ∨ s.blk = some k) W (w4.setCell ⟨bo, 0, none⟩ (.slice s'.a s'.n s'.c)) := by
    refine Chg.trans (Chg.trans (Chg.trans (c1.mono fun i hi h => .inl h) (Chg.of_ext (S := fun _ => False) hB4) fun i hi h => h.elim) c4 fun i hi h => .inr (.inr h)) (chg_set w4 bo _) fun i hi h => .inr (.inl h)
  have hlt := p3.lt
  have no : ∀ b, b < M → b ≠ bo → b ≠ bn → ¬ (b = bn ∨ b = bo ∨ s.blk = some b) := by
    rintro b hb hb1 hb2 (h | h | h)
    · exact hb2 h
    · exact hb1 h
    · have := (hlt b h).1
      omega
  refine ⟨⟨hall.size, fun k o hk ho => ?_⟩, ⟨hall.block b0 (by omega) (no b0 h0.1 h0.2.1 h0.2.2), hall.block b1 (by omega) (no b1 h1.1 h1.2.1 h1.2.2), hall.block b2 (by omega) (no b2 h2.1 h2.2.1 h2.2.2)⟩, q2, s', ?_, ?_, ?_, ?_, ?_, ?_⟩
  · have hkl : k < W.heap.size := (Array.getElem?_eq_some_iff.1 hk).1
    refine (hall.block k hkl ?_).trans hk
    rintro (rfl | rfl | h)
    · rw [show W.heap[k]? = _ from p1] at hk
      cases hk
      cases ho
    · rw [show W.heap[k]? = _ from p2] at hk
      cases hk
      cases ho
    · obtain ⟨cs, hcs⟩ := p3.blk_t h
      rw [show W.heap[k]? = _ from hcs] at hk
      cases hk
      cases ho
  · refine boxed_set_other ?_ hne.symm
    have : Boxed ((W3.alloc o).alloc o') bn 3 (.int .i64 (pre'.length : Nat)) := (hB4.block bn (by omega)).trans q1
    exact this.kept hgrow fun e => by
      have := (hlt bn e.symm).1
      omega
  · have d2 : Boxed ((W3.alloc o).alloc o') bo 51 (.slice s.a s.n s.c) := (hB4.block bo (by omega)).trans ((c1.block bo (by omega) hne).trans p2)
    have d4 : Boxed w4 bo 51 (.slice s.a s.n s.c) := d2.kept hgrow fun e => by
      have := (hlt bo e.symm).1
      omega
    exact d4.set _
  · exact own_set hown' hbo _
  · exact fun _ => own_set hq2 hbo _
  · refine p5.trans (hall.below (by omega) fun i hi h => ?_)
    rcases h with h | h | h
    · omega
    · omega
    · have := (hlt i h).1
      omega
  · exact Nat.le_trans p6 hall.size
theorem itU : Tryd.prog.underlying 51 = some (.slice 79) := sT_sl_script_Item.ht
theorem itI : Tryd.prog.info? 79 = some sT_sl_script_Item.i := sT_sl_script_Item.hi
theorem itZ : sT_sl_script_Item.i.zero = some sT_sl_script_Item.z := sT_sl_script_Item.hz
theorem itS : sT_sl_script_Item.i.size = 4 := sT_sl_script_Item.hs
theorem itC : sT_sl_script_Item.z.cells.size = 4 := sT_sl_script_Item.hzs
theorem leaves43 {n : Nat} {tmps : Array Value} {R : Ending → World → Prop} {W : World} {b0 b1 b2 : Nat} {v0 v1 v2 : Value} (h0 : tmps[2]?.getD undef = .pointer (some ⟨b0, 0, none⟩)) (h1 : tmps[3]?.getD undef = .pointer (some ⟨b1, 0, none⟩)) (h2 : tmps[4]?.getD undef = .pointer (some ⟨b2, 0, none⟩))
    (c0 : W.cell? ⟨b0, 0, none⟩ = some v0) (c1 : W.cell? ⟨b1, 0, none⟩ = some v1) (c2 : W.cell? ⟨b2, 0, none⟩ = some v2) (hR : R (.returned (.tuple #[v0, v1, v2])) W) :
    LeavesIn Fence.wide n Tryd.prog Tryd.f43 tmps R [] .returning W := by
  refine ⟨.tuple #[v0, v1, v2], ?_, hR⟩
  simp [results, Tryd.f43, go_sem, h0, h1, h2, c0, c1, c2]
set_option maxHeartbeats 4000000 in
theorem Parse_in {w : World} (hT : Tab w) :
    CallsIn Fence.wide 9 Tryd.prog 43 #[.string (strB textK)] w fun e w' => ∃ q s : Slc, e = .returned (.tuple #[.slice s.a s.n s.c, .int .i64 0, .int .i64 0]) ∧ Go.Vc.Own E_script_Item w' w.heap.size s (itemsK q 4) ∧ Go.Vc.Own E_uint8 w' w.heap.size q [97, 27] ∧ Below w.heap.size w w' := by
  refine callsIn_of_wp_marks Tryd.func43 rfl trivial ?_ rfl
  simp only [Tryd.ntmps43, List.size_toArray, List.length_cons, List.length_nil, Nat.reduceAdd, Nat.reduceSub, Array.replicate_succ, Array.replicate_zero, List.push_toArray, List.append_toArray, List.nil_append, List.cons_append]
  have hSeq := fun m (w1 : World) => (callsIn_wide (n := m)).2 (SplitSeq_box (w := w1))
  gi_wp2
  refine wpIn_wide.2 (wp_scope_straight ((wpIn_wide (n := 9)).1 ?_))
  gi_wp2
  refine wpIn_label ?_
  gi_wp2
  refine ⟨trivial, (hSeq _ _).mono ?_⟩
  rintro e w6 ⟨rfl, ⟨x1, x2, x3⟩, hB6, hs6⟩
  obtain ⟨w5, hw5⟩ : ∃ w5, (((((w.alloc (Obj.cells #[Value.slice none 0 0] 51)).alloc (Obj.cells #[Value.int IntKind.i64 0] 3)).alloc (Obj.cells #[Value.int IntKind.i64 0] 30)).alloc (Obj.cells #[Value.slice none 0 0] 51)).alloc (Obj.cells #[Value.int IntKind.i64 0] 3)) = w5 := ⟨_, rfl⟩
  have hs5 : w5.heap.size = w.heap.size + 5 := by rw [← hw5]; simp
  have hB5 : Below w.heap.size w w5 := by rw [← hw5]; exact (((((Below.refl _ w).alloc (Nat.le_refl _) _).alloc (by simp) _).alloc (by simp; omega) _).alloc (by simp; omega) _).alloc (by simp; omega) _
  rw [hw5] at x1 x2 x3 hB6 hs6
  gi_wp2
  rw [hs5] at x1 x2 x3 hs6
  have hB06 : Below w.heap.size w w6 := hB5.trans (hB6.mono (by omega))
  have kb : ∀ {k : Nat} {t : TypeId} {v : Value}, k < w5.heap.size → Boxed w5 k t v → Boxed w6 k t v := fun {k t v} hk h => (hB6.block k hk).trans h
  have bx : ∀ (W : World) (n : Nat) (t : TypeId) (v : Value), W.heap.size = n → Boxed (W.alloc (.cells #[v] t)) n t v := fun W n t v e => by subst e; exact Boxed.new W t v
  have b0 : Boxed w6 w.heap.size 51 (.slice none 0 0) := kb (by omega) (by rw [← hw5]; exact ((((Boxed.new w 51 (.slice none 0 0)).alloc _).alloc _).alloc _).alloc _)
  have b1 : Boxed w6 (w.heap.size + 1) 3 (.int .i64 0) := kb (by omega) (by rw [← hw5]; exact (((bx (w.alloc _) _ 3 (.int .i64 0) (by simp)).alloc _).alloc _).alloc _)
  have b2 : Boxed w6 (w.heap.size + 1 + 1) 30 (.int .i64 0) := kb (by omega) (by rw [← hw5]; exact ((bx ((w.alloc _).alloc _) _ 30 (.int .i64 0) (by simp)).alloc _).alloc _)
  have b3 : Boxed w6 (w.heap.size + 1 + 1 + 1) 51 (.slice none 0 0) := kb (by omega) (by rw [← hw5]; exact (bx (((w.alloc _).alloc _).alloc _) _ 51 (.slice none 0 0) (by simp)).alloc _)
  have b4 : Boxed w6 (w.heap.size + 1 + 1 + 1 + 1) 3 (.int .i64 0) := kb (by omega) (by rw [← hw5]; exact bx ((((w.alloc _).alloc _).alloc _).alloc _) _ 3 (.int .i64 0) (by simp))
  refine range_box rfl (by omega) (gf := 100) (lb := #[.pointer (some ⟨w.heap.size + 5 + 1, 0, none⟩), .pointer (some ⟨w.heap.size + 5, 0, none⟩), .pointer (some ⟨w.heap.size + 5 + 2, 0, none⟩)]) rfl trivial (enters_of Tryd.func100 (by kernel_rfl) rfl) (Bs := w.heap.size + 5) (by omega)
    (spl_in (w.heap.size + 5 + 1) (w.heap.size + 5) (w.heap.size + 5 + 2) (by omega) (by omega) 10 textK _ cutsK w6 x2 x1 x3) (fun h k => h.trans k)
    (fun W l o hl => ⟨World.putObj_heap_other (by omega), World.putObj_heap_other (by omega), World.putObj_heap_other (by omega)⟩) (fun _ => rfl)
    (PK w6 (w.heap.size + 1 + 1 + 1) (w.heap.size + 1 + 1 + 1 + 1) w6.heap.size) (PK_own _ _ _ _ (by omega) (by omega)) (PK_set _ _ _ _ _ (by omega) (by omega) (by omega) (by omega))
    ⟨⟨none, 0, 0⟩, ⟨none, 0, 0⟩, b4, b3, Own.nil _ _ _, fun h => by simp at h, Below.refl _ _, Nat.le_refl _⟩
    (fun x => { tmps := #[Value.string (strB textK), undef, Value.pointer (some { block := w.heap.size, off := 0 }), Value.pointer (some { block := w.heap.size + 1, off := 0 }), Value.pointer (some { block := w.heap.size + 1 + 1, off := 0 }), Value.pointer (some { block := w.heap.size + 1 + 1 + 1, off := 0 }), Value.pointer (some { block := w.heap.size + 1 + 1 + 1 + 1, off := 0 }), Value.string (strB x), undef, undef, Value.string (strB textK),
      Value.func (Fn.func 100) #[] #[Value.pointer (some { block := w.heap.size + 5 + 1, off := 0 }), Value.pointer (some { block := w.heap.size + 5, off := 0 }), Value.pointer (some { block := w.heap.size + 5 + 2, off := 0 })], Value.string (strB x), undef, undef, undef, undef, undef, undef, undef, undef, undef, undef, undef, undef, undef, undef, undef, undef, undef, undef, undef, undef, undef, undef, undef], defers := [] }) ?assign ?body ?done
  case assign =>
    intro l x W K hK
    gi_wp2
    exact hK
  case body =>
    rintro l pre x W ⟨q, s, p1, p2, p3, p4, p5, p6⟩ ⟨t, ht⟩
    have hcase : (pre = [] ∧ x = line1) ∨ (pre = [line1] ∧ x = []) ∨ (pre = [line1, []] ∧ x = line2) ∨ (pre = [line1, [], line2] ∧ x = []) := by
      rcases pre with _ | ⟨a, _ | ⟨b, _ | ⟨c, _ | ⟨d, pre⟩⟩⟩⟩ <;> simp only [List.nil_append, List.cons_append, List.cons.injEq] at ht
      · exact .inl ⟨rfl, ht.1.symm⟩
      · exact .inr (.inl ⟨by rw [← ht.1], ht.2.1.symm⟩)
      · exact .inr (.inr (.inl ⟨by rw [← ht.1, ← ht.2.1], ht.2.2.1.symm⟩))
      · exact .inr (.inr (.inr ⟨by rw [← ht.1, ← ht.2.1, ← ht.2.2.1], ht.2.2.2.1.symm⟩))
      · have := congrArg List.length ht.2.2.2.2
        simp at this
    clear ht
    rw [hs6] at p3 p4 p6
    have c1 := p1.cell
    have f1 := p1.frozen
    have c2 := p2.cell
    have f2 := p2.frozen
    have hempty : strB [] = (⟨#[]⟩ : ByteArray) := rfl
    have hpost : ∀ (pre' : List (List UInt8)) (k : Nat) (v : Value), v = .int .i64 k → Go.Vc.Own E_script_Item W (w.heap.size + 5 + 3) s (itemsK q k) → (1 ≤ pre.length → Go.Vc.Own E_uint8 W (w.heap.size + 5 + 3) q [97, 27]) → (pre'.length = k ∧ 1 ≤ pre.length) →
        KeepsOthers W (W.setCell ⟨w.heap.size + 1 + 1 + 1 + 1, 0, none⟩ v) ∧ Kp3 (w.heap.size + 5 + 1) (w.heap.size + 5) (w.heap.size + 5 + 2) W (W.setCell ⟨w.heap.size + 1 + 1 + 1 + 1, 0, none⟩ v) ∧
          PK w6 (w.heap.size + 1 + 1 + 1) (w.heap.size + 1 + 1 + 1 + 1) (w.heap.size + 5 + 3) pre' (W.setCell ⟨w.heap.size + 1 + 1 + 1 + 1, 0, none⟩ v) := by
      rintro pre' k v rfl hs hq ⟨hl, hl1⟩
      refine ⟨KeepsOthers.setCell _ _ _, ⟨Below.heap_setCell W ⟨_, 0, none⟩ _ _ (by show _ ≠ w.heap.size + 1 + 1 + 1 + 1; omega), Below.heap_setCell W ⟨_, 0, none⟩ _ _ (by show _ ≠ w.heap.size + 1 + 1 + 1 + 1; omega), Below.heap_setCell W ⟨_, 0, none⟩ _ _ (by show _ ≠ w.heap.size + 1 + 1 + 1 + 1; omega)⟩, q, s, ?_, boxed_set_other p2 (by omega), ?_, fun _ => own_set (hq hl1) (by omega) _, p5.setCell (p := ⟨w.heap.size + 1 + 1 + 1 + 1, 0, none⟩) (by show w.heap.size + 1 + 1 + 1 ≤ w.heap.size + 1 + 1 + 1 + 1; omega) _, by simpa [World.setCell] using p6⟩
      · rw [hl]; exact p1.set _
      · rw [hl]; exact own_set hs (by omega) _
    have hread1 := fun m (W' : World) => CallsIn.inRound l ((callsIn_wide (n := m)).2 (read1_spec (w := W') (K := fun it b w' => b = true ∧ ∃ q : Slc, it = ⟨q, false, 0, 0⟩ ∧ Go.Vc.Own E_uint8 w' W'.heap.size q [97, 27] ∧ Below W'.heap.size W' w') fun q w' hq hB => ⟨rfl, q, rfl, hq, hB⟩))
    have hread2 := fun m (W' : World) (hT' : Tab W') => CallsIn.inRound l ((callsIn_wide (n := m)).2 (read2_spec hT' (K := fun it b w' => b = true ∧ it = ⟨⟨none, 0, 0⟩, true, 3, -4⟩ ∧ Below W'.heap.size W' w') fun w' hB => ⟨rfl, rfl, hB⟩))
    have hne1 : (strB line1).toList.isEmpty = false := by rw [strB_toList]; rfl
    have hne2 : (strB line2).toList.isEmpty = false := by rw [strB_toList]; rfl
    have hsz1 : ∀ (v : Value), (W.setCell ⟨w.heap.size + 1 + 1 + 1 + 1, 0, none⟩ v).heap.size = W.heap.size := fun v => by simp [World.setCell]
    rcases hcase with ⟨rfl, rfl⟩ | ⟨rfl, rfl⟩ | ⟨rfl, rfl⟩ | ⟨rfl, rfl⟩
    · simp only [List.length_nil] at c1
      have hn0 : s.n = 0 := p3.rd.n
      obtain ⟨sa, sn, sc⟩ := s
      obtain rfl : sn = 0 := hn0
      gi_wp2
      refine ⟨trivial, (hread1 _ _).mono ?_⟩
      rintro e W3 ⟨it, r1, rfl, rfl, q', rfl, hq', hB3⟩
      rw [hsz1] at hB3 hq'
      have d2 : Boxed W3 (w.heap.size + 1 + 1 + 1) 51 (.slice sa 0 sc) := (hB3.block _ (by omega)).trans (boxed_set_other p2 (by omega))
      have g2 : ∀ o, (W3.alloc o).cell? ⟨w.heap.size + 1 + 1 + 1, 0, none⟩ = some (.slice sa 0 sc) := fun o => (d2.alloc o).cell
      have g3 : ∀ o, (W3.alloc o).frozen? ⟨w.heap.size + 1 + 1 + 1, 0, none⟩ = false := fun o => (d2.alloc o).frozen
      have g4 : ∀ o o', ((W3.alloc o).alloc o').cell? ⟨w.heap.size + 1 + 1 + 1, 0, none⟩ = some (.slice sa 0 sc) := fun o o' => ((d2.alloc o).alloc o').cell
      have s3 := hB3.size
      rw [hsz1] at s3
      have ho3 : Go.Vc.Own E_script_Item W3 (w.heap.size + 5 + 3) ⟨sa, 0, sc⟩ [] := (own_set (b := w.heap.size + 1 + 1 + 1 + 1) p3 (by omega) _).ext (by rw [hsz1]; exact hB3)
      have ho4 : ∀ o o', ((W3.alloc o).alloc o').ownsRow (w.heap.size + 5 + 3) 79 4 (.slice sa 0 sc) 0 [] := fun o o' => (ho3.alloc o).alloc o'
      have hne4 : some (w.heap.size + 1 + 1 + 1) ≠ (Value.slice sa 0 sc).ownBlock := fun e => by
        have := ho3.lt (w.heap.size + 1 + 1 + 1) (by rw [← ownBlock_v]; exact e.symm)
        omega
      have hbb : ∀ o o', w.heap.size + 5 + 3 ≤ ((W3.alloc o).alloc o').heap.size := fun o o' => by simp only [World.size_alloc]; omega
      have hcells : ∀ o (j : Nat) u, [Value.slice q'.a q'.n q'.c, Value.bool false, Value.int IntKind.i64 0, Value.int IntKind.i64 0][j]? = some u → ((W3.alloc o).alloc (Obj.cells #[Value.slice q'.a q'.n q'.c, Value.bool false, Value.int IntKind.i64 0, Value.int IntKind.i64 0] 79)).cell? ((⟨W3.heap.size + 1, 0, none⟩ : Addr).add j) = some u := fun o j u hu => by
        have := (Blk.new (W3.alloc o) 79 [Value.slice q'.a q'.n q'.c, Value.bool false, Value.int IntKind.i64 0, Value.int IntKind.i64 0]).cell j hu
        rw [World.size_alloc] at this
        rw [add_mk, Nat.zero_add]
        exact this
      gi_wp2_with (gi_at_builtin; refine wpListIn_append_own _ rfl _ _ 51 rfl (w.heap.size + 5 + 3) 79 sT_sl_script_Item.i sT_sl_script_Item.z 4 sT_sl_script_Item.i.bytes itU itI itZ itS rfl itC (by decide) (Value.slice sa 0 sc) 0 [] rfl (ho4 _ _) ⟨W3.heap.size + 1, 0, none⟩ 1 1 [Value.slice q'.a q'.n q'.c, Value.bool false, Value.int IntKind.i64 0, Value.int IntKind.i64 0] rfl rfl (hcells _) (by simp [Value.oneCell']) (by unfold maxLen; omega) (by rw [by_sl_script_Item]; omega) (hbb _ _) ?_; intro v' w4 hown' hgrow _; obtain ⟨g', cap', rfl⟩ := ownsRow_succ hown'; have d4 := ((d2.alloc _).alloc _).kept hgrow hne4; have hc1 := d4.cell; have hf1 := d4.frozen)
      have hqo : Go.Vc.Own E_uint8 w4 (w.heap.size + 5 + 3) q' [97, 27] := by
        have h5 := (hq'.base (base' := w.heap.size + 5 + 3) p6)
        refine ((h5.alloc _).alloc _).kept hgrow ?_
        cases hk : q'.blk with
        | none => exact .inl rfl
        | some k =>
          have h6 := own_ne_row hq' ho3 (by decide) k hk
          exact .inr fun e => h6 (by rw [← ownBlock_v]; exact e.symm)
      exact step_post (s := ⟨sa, 0, sc⟩) (s' := ⟨some ⟨g', 0, none⟩, 1, cap'⟩) (pre' := [line1]) rfl (by omega) (by omega) (by omega) (by omega) p1 p2 p3 p5 p6 hB3 (by rw [← ownBlock_v]; exact hgrow) hown' hqo ⟨by omega, by omega, by omega⟩ ⟨by omega, by omega, by omega⟩ ⟨by omega, by omega, by omega⟩
    · simp only [List.length_cons, List.length_nil] at c1
      rw [hempty]
      gi_wp2
      exact hpost [line1, []] 2 (.int .i64 2) rfl (by exact p3) p4 (by simp)
    · simp only [List.length_cons, List.length_nil] at c1
      have hn0 : s.n = 1 := p3.rd.n
      obtain ⟨sa, sn, sc⟩ := s
      obtain rfl : sn = 1 := hn0
      gi_wp2
      refine ⟨trivial, (hread2 _ _ (hT.ext ((hB06.trans (p5.mono (by omega))).setCell (p := ⟨w.heap.size + 1 + 1 + 1 + 1, 0, none⟩) (by show w.heap.size ≤ w.heap.size + 1 + 1 + 1 + 1; omega) _))).mono ?_⟩
      rintro e W3 ⟨it, r1, rfl, rfl, rfl, hB3⟩
      rw [hsz1] at hB3
      have d2 : Boxed W3 (w.heap.size + 1 + 1 + 1) 51 (.slice sa 1 sc) := (hB3.block _ (by omega)).trans (boxed_set_other p2 (by omega))
      have g2 : ∀ o, (W3.alloc o).cell? ⟨w.heap.size + 1 + 1 + 1, 0, none⟩ = some (.slice sa 1 sc) := fun o => (d2.alloc o).cell
      have g3 : ∀ o, (W3.alloc o).frozen? ⟨w.heap.size + 1 + 1 + 1, 0, none⟩ = false := fun o => (d2.alloc o).frozen
      have g4 : ∀ o o', ((W3.alloc o).alloc o').cell? ⟨w.heap.size + 1 + 1 + 1, 0, none⟩ = some (.slice sa 1 sc) := fun o o' => ((d2.alloc o).alloc o').cell
      have s3 := hB3.size
      rw [hsz1] at s3
      have ho3 : Go.Vc.Own E_script_Item W3 (w.heap.size + 5 + 3) ⟨sa, 1, sc⟩ [⟨q, false, 0, 0⟩] := (own_set (b := w.heap.size + 1 + 1 + 1 + 1) p3 (by omega) _).ext (by rw [hsz1]; exact hB3)
      have ho4 : ∀ o o', ((W3.alloc o).alloc o').ownsRow (w.heap.size + 5 + 3) 79 4 (.slice sa 1 sc) 1 [Value.slice q.a q.n q.c, Value.bool false, Value.int IntKind.i64 0, Value.int IntKind.i64 0] := fun o o' => (ho3.alloc o).alloc o'
      have hne4 : some (w.heap.size + 1 + 1 + 1) ≠ (Value.slice sa 1 sc).ownBlock := fun e => by
        have := ho3.lt (w.heap.size + 1 + 1 + 1) (by rw [← ownBlock_v]; exact e.symm)
        omega
      have hbb : ∀ o o', w.heap.size + 5 + 3 ≤ ((W3.alloc o).alloc o').heap.size := fun o o' => by simp only [World.size_alloc]; omega
      have hcells : ∀ o (j : Nat) u, [Value.slice none 0 0, Value.bool true, Value.int IntKind.i64 3, Value.int IntKind.i64 (-4)][j]? = some u → ((W3.alloc o).alloc (Obj.cells #[Value.slice none 0 0, Value.bool true, Value.int IntKind.i64 3, Value.int IntKind.i64 (-4)] 79)).cell? ((⟨W3.heap.size + 1, 0, none⟩ : Addr).add j) = some u := fun o j u hu => by
        have := (Blk.new (W3.alloc o) 79 [Value.slice none 0 0, Value.bool true, Value.int IntKind.i64 3, Value.int IntKind.i64 (-4)]).cell j hu
        rw [World.size_alloc] at this
        rw [add_mk, Nat.zero_add]
        exact this
      gi_wp2_with (gi_at_builtin; refine wpListIn_append_own _ rfl _ _ 51 rfl (w.heap.size + 5 + 3) 79 sT_sl_script_Item.i sT_sl_script_Item.z 4 sT_sl_script_Item.i.bytes itU itI itZ itS rfl itC (by decide) (Value.slice sa 1 sc) 1 [Value.slice q.a q.n q.c, Value.bool false, Value.int IntKind.i64 0, Value.int IntKind.i64 0] rfl (ho4 _ _) ⟨W3.heap.size + 1, 0, none⟩ 1 1 [Value.slice none 0 0, Value.bool true, Value.int IntKind.i64 3, Value.int IntKind.i64 (-4)] rfl rfl (hcells _) (by simp [Value.oneCell']) (by unfold maxLen; omega) (by rw [by_sl_script_Item]; omega) (hbb _ _) ?_; intro v' w4 hown' hgrow _; obtain ⟨g', cap', rfl⟩ := ownsRow_succ hown'; have d4 := ((d2.alloc _).alloc _).kept hgrow hne4; have hc1 := d4.cell; have hf1 := d4.frozen)
      have hqo : Go.Vc.Own E_uint8 w4 (w.heap.size + 5 + 3) q [97, 27] := by
        have h5 : Go.Vc.Own E_uint8 W3 (w.heap.size + 5 + 3) q [97, 27] := (own_set (b := w.heap.size + 1 + 1 + 1 + 1) (p4 (by simp)) (by omega) _).ext (by rw [hsz1]; exact hB3)
        refine ((h5.alloc _).alloc _).kept hgrow ?_
        cases hk : q.blk with
        | none => exact .inl rfl
        | some k =>
          have h6 := own_ne_row h5 ho3 (by decide) k hk
          exact .inr fun e => h6 (by rw [← ownBlock_v]; exact e.symm)
      exact step_post (s := ⟨sa, 1, sc⟩) (s' := ⟨some ⟨g', 0, none⟩, 2, cap'⟩) (pre' := [line1, [], line2]) rfl (by omega) (by omega) (by omega) (by omega) p1 p2 p3 p5 p6 hB3 (by rw [← ownBlock_v]; exact hgrow) hown' hqo ⟨by omega, by omega, by omega⟩ ⟨by omega, by omega, by omega⟩ ⟨by omega, by omega, by omega⟩
    · simp only [List.length_cons, List.length_nil] at c1
      rw [hempty]
      gi_wp2
      exact hpost [line1, [], line2, []] 4 (.int .i64 4) rfl (by exact p3) p4 (by simp)
  case done =>
    rintro D W hD ⟨q, s, p1, p2, p3, p4, p5, p6⟩ hK
    have e2 := p2.cell
    rw [hs6] at p3 p4 p6
    have r0 : Boxed W w.heap.size 51 (.slice none 0 0) := (p5.block _ (by omega)).trans b0
    have r1 : Boxed W (w.heap.size + 1) 3 (.int .i64 0) := (p5.block _ (by omega)).trans b1
    have r2 : Boxed W (w.heap.size + 1 + 1) 30 (.int .i64 0) := (p5.block _ (by omega)).trans b2
    have k0 := r0.cell
    have k1 := r1.cell
    have k2 := r2.cell
    have f0 := r0.frozen
    have f1 : ∀ v, (W.setCell ⟨w.heap.size, 0, none⟩ v).frozen? ⟨w.heap.size + 1, 0, none⟩ = false := fun v => (boxed_set_other r1 (by omega)).frozen
    have f1' := r1.frozen
    have f2 := r2.frozen
    have f2' : ∀ v v', ((W.setCell ⟨w.heap.size, 0, none⟩ v).setCell ⟨w.heap.size + 1, 0, none⟩ v').frozen? ⟨w.heap.size + 1 + 1, 0, none⟩ = false := fun v v' => (boxed_set_other (boxed_set_other r2 (by omega)) (by omega)).frozen
    gi_wp2
    obtain ⟨Wf, hWf⟩ : ∃ Wf, (((W.setCell ⟨w.heap.size, 0, none⟩ (.slice s.a s.n s.c)).setCell ⟨w.heap.size + 1, 0, none⟩ (.int .i64 0)).setCell ⟨w.heap.size + 1 + 1, 0, none⟩ (.int .i64 0)) = Wf := ⟨_, rfl⟩
    have hKf := (((KeepsOthers.setCell W ⟨w.heap.size, 0, none⟩ (.slice s.a s.n s.c)).trans (KeepsOthers.setCell _ ⟨w.heap.size + 1, 0, none⟩ (.int .i64 0))).trans (KeepsOthers.setCell _ ⟨w.heap.size + 1 + 1, 0, none⟩ (.int .i64 0))).same D _ hK rfl
    have q0 : Boxed Wf w.heap.size 51 (.slice s.a s.n s.c) := by rw [← hWf]; exact boxed_set_other (boxed_set_other (r0.set _) (by omega)) (by omega)
    have q1 : Boxed Wf (w.heap.size + 1) 3 (.int .i64 0) := by rw [← hWf]; exact boxed_set_other ((boxed_set_other r1 (by omega)).set _) (by omega)
    have q2 : Boxed Wf (w.heap.size + 1 + 1) 30 (.int .i64 0) := by rw [← hWf]; exact (boxed_set_other (boxed_set_other r2 (by omega)) (by omega)).set _
    have o1 : Go.Vc.Own E_script_Item Wf (w.heap.size + 5 + 3) s (itemsK q 4) := by rw [← hWf]; exact own_set (own_set (own_set p3 (by omega) _) (by omega) _) (by omega) _
    have o2 : Go.Vc.Own E_uint8 Wf (w.heap.size + 5 + 3) q [97, 27] := by rw [← hWf]; exact own_set (own_set (own_set (p4 (by simp)) (by omega) _) (by omega) _) (by omega) _
    have hBf : Below w.heap.size w Wf := by rw [← hWf]; exact (((hB06.trans (p5.mono (by omega))).setCell (p := ⟨w.heap.size, 0, none⟩) (Nat.le_refl _) _).setCell (p := ⟨w.heap.size + 1, 0, none⟩) (by show w.heap.size ≤ w.heap.size + 1; omega) _).setCell (p := ⟨w.heap.size + 1 + 1, 0, none⟩) (by show w.heap.size ≤ w.heap.size + 1 + 1; omega) _
    rw [hWf] at hKf ⊢
    rw [hs6] at hD
    refine ⟨by simp, .inl ⟨_, _, rfl, run_takeDeferred hKf, ?_⟩⟩
    have hg := grownBy_putObj' Wf D (.deferred none)
    have hnc : ∀ r, (some D : Option Nat) = some r → w.heap.size + 5 + 3 ≤ r ∧ ∃ o : Obj, Wf.heap[r]? = some o ∧ o.isCells = false := fun r e => by cases e; exact ⟨hD, _, hKf, rfl⟩
    have z0 := (q0.kept hg (fun e => by cases e; omega)).cell
    have z1 := (q1.kept hg (fun e => by cases e; omega)).cell
    have z2 := (q2.kept hg (fun e => by cases e; omega)).cell
    refine leaves43 rfl rfl rfl z0 z1 z2 ⟨q, s, rfl, (own_box o1 hg hnc).base (by omega), (own_box o2 hg hnc).base (by omega), hBf.grown hg hBf.size fun k e => by cases e; omega⟩
end Go.Proofs.YtpadlibcalomnaaDoor
