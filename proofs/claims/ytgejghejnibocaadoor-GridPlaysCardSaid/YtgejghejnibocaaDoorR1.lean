/- Grids of the reference: what they are in memory; New, Clear, Set, Fill. -/
import Derived.Test.YtgejghejnibocaaDoorH1
namespace Go.Proofs.YtgejghejnibocaaDoor
open Go.Vc Go.RowKit

def sl24E : El Slc where
  cells s := [.slice s.a s.n s.c]
  t := 24
  k := 1
  pos := by decide
  len _ := rfl
  one x v hv := by
    simp only [List.mem_cons, List.mem_nil_iff, or_false] at hv
    rcases hv with rfl
    rfl
noncomputable def slT86 : SlT Tryd.prog sl24E 86 where
  ht := by kernel_rfl
  i := (Tryd.prog.info? 24).getD default
  hi := by kernel_rfl
  z := .slice none 0 0
  hz := by kernel_rfl
  hs := by kernel_rfl
  hzs := rfl
theorem by86 : slT86.i.bytes = 24 := by kernel_rfl

structure RFoot where
  g : Nat
  ls : Slc
  os : Slc
def refS (f : RFoot) (k : Nat) : Prop := k = f.g ∨ f.ls.blk = some k ∨ f.os.blk = some k
structure RefM (w : World) (base : Nat) (f : RFoot) (S : GS) : Prop where
  blk : Blk w f.g 88 [.int .i64 S.rows, .int .i64 S.cols, .int .i64 S.most, .slice f.ls.a f.ls.n f.ls.c, .slice f.os.a f.os.n f.os.c, .int .i64 S.top]
  hg : base ≤ f.g
  row : ∃ ls, Own sl24E w base f.ls ls ∧ Lines w base ls S.L
  old : ∃ ls, Own sl24E w base f.os ls ∧ Lines w base ls S.old
  ne : ∀ k, f.ls.blk = some k → f.os.blk ≠ some k
structure RFoot.to (f f' : RFoot) (n : Nat) : Prop where
  g : f'.g = f.g
  ls : f'.ls.blk = f.ls.blk ∨ ∀ k, f'.ls.blk = some k → n ≤ k
  os : f'.os.blk = f.os.blk ∨ ∀ k, f'.os.blk = some k → n ≤ k
theorem RFoot.to.refl (f : RFoot) (n : Nat) : f.to f n := ⟨rfl, .inl rfl, .inl rfl⟩
theorem RFoot.to.old {f f' : RFoot} {n : Nat} (h : f.to f' n) : ∀ k, refS f' k → refS f k ∨ n ≤ k := by
  rintro k (rfl | hk | hk)
  · exact .inl (.inl h.g)
  · rcases h.ls with e | e
    · exact .inl (.inr (.inl (by rw [← e]; exact hk)))
    · exact .inr (e k hk)
  · rcases h.os with e | e
    · exact .inl (.inr (.inr (by rw [← e]; exact hk)))
    · exact .inr (e k hk)
theorem RFoot.to.trans {f f' f'' : RFoot} {n n' : Nat} (h : f.to f' n) (h' : f'.to f'' n') (hn : n ≤ n') : f.to f'' n := by
  refine ⟨h'.g.trans h.g, ?_, ?_⟩
  · rcases h'.ls with e | e
    · rcases h.ls with e' | e'
      · exact .inl (e.trans e')
      · exact .inr fun k hk => e' k (by rw [← e]; exact hk)
    · exact .inr fun k hk => Nat.le_trans hn (e k hk)
  · rcases h'.os with e | e
    · rcases h.os with e' | e'
      · exact .inl (e.trans e')
      · exact .inr fun k hk => e' k (by rw [← e]; exact hk)
    · exact .inr fun k hk => Nat.le_trans hn (e k hk)

section
variable {w w' w1 w2 : World} {base : Nat} {f : RFoot} {S : GS}
theorem RefM.chg {T : Nat → Prop} (h : RefM w base f S) (hc : Chg T w w') (hT : ∀ k, refS f k → ¬ T k) (hC : ∀ k cs, T k → ¬ Blk w k 42 cs) : RefM w' base f S := by
  obtain ⟨ls, ho, hl⟩ := h.row
  obtain ⟨os, ho', hl'⟩ := h.old
  exact ⟨h.blk.chg hc (hT _ (.inl rfl)), h.hg, ⟨ls, ho.chg hc fun g hg => hT g (.inr (.inl hg)), hl.chg hc hC⟩, ⟨os, ho'.chg hc fun g hg => hT g (.inr (.inr hg)), hl'.chg hc hC⟩, h.ne⟩
theorem RefM.ext (h : RefM w base f S) (hb : Below w.heap.size w w') : RefM w' base f S :=
  h.chg (Chg.of_ext (S := fun _ => False) hb) (fun _ _ h => h) (fun _ _ h => h.elim)
theorem RefM.drew (h : RefM w base f S) : RefM w.drew base f S := h.ext ((Below.refl _ w).drew)
theorem RefM.below (h : RefM w base f S) : ∀ k, refS f k → base ≤ k ∧ k < w.heap.size := by
  obtain ⟨ls, ho, hl⟩ := h.row
  obtain ⟨os, ho', hl'⟩ := h.old
  rintro k (rfl | hk | hk)
  · exact ⟨h.hg, h.blk.lt⟩
  · exact ho.lt k hk
  · exact ho'.lt k hk
theorem RefM.notC (h : RefM w base f S) : ∀ k cs, refS f k → ¬ Blk w k 42 cs := by
  obtain ⟨ls, ho, hl⟩ := h.row
  obtain ⟨os, ho', hl'⟩ := h.old
  rintro k cs (rfl | hk | hk) hc
  · exact hc.ne_t h.blk (by decide) rfl
  · obtain ⟨cs', hcs'⟩ := ho.blk_t hk
    exact hc.ne_t hcs' (by decide) rfl
  · obtain ⟨cs', hcs'⟩ := ho'.blk_t hk
    exact hc.ne_t hcs' (by decide) rfl
theorem RefM.g_ne (h : RefM w base f S) : (∀ k, f.ls.blk = some k → k ≠ f.g) ∧ (∀ k, f.os.blk = some k → k ≠ f.g) := by
  obtain ⟨ls, ho, hl⟩ := h.row
  obtain ⟨os, ho', hl'⟩ := h.old
  refine ⟨fun k hk => ?_, fun k hk => ?_⟩
  · obtain ⟨cs, hcs⟩ := ho.blk_t hk
    exact hcs.ne_t h.blk (by decide)
  · obtain ⟨cs, hcs⟩ := ho'.blk_t hk
    exact hcs.ne_t h.blk (by decide)

/-- The reference's grid gets another line. -/
theorem RefM.setLine {i : Nat} {t : Slc} {xs : List Cell} {ls : List Slc} (h : RefM w1 base f S) (hl : Lines w1 base ls S.L) (ht : Own cellE w1 base t xs) (ho : Own sl24E w2 base f.ls (ls.set i t)) (hg : w1.grownBy w2 f.ls.blk) :
    RefM w2 base f { S with L := S.L.set i xs } ∧ Chg (fun k => f.ls.blk = some k) w1 w2 := by
  have hc5 : Chg (fun k => f.ls.blk = some k) w1 w2 := Chg.of_grown hg fun k hk => hk
  have notC : ∀ k cs, f.ls.blk = some k → ¬ Blk w1 k 42 cs := fun k cs hk => h.notC k cs (.inr (.inl hk))
  obtain ⟨g2, g3⟩ := h.g_ne
  obtain ⟨os, ho', hl'⟩ := h.old
  refine ⟨⟨h.blk.chg hc5 fun e => g2 _ e rfl, h.hg, ⟨ls.set i t, ho, (hl.chg hc5 notC).set i (ht.chg hc5 fun g hg hs => ?_)⟩, ⟨os, ho'.chg hc5 fun k hk hs => h.ne k hs hk, hl'.chg hc5 notC⟩, h.ne⟩, hc5⟩
  obtain ⟨cs, hcs⟩ := ht.blk_t hg
  exact notC g cs hs hcs

/-- The reference's own block is written anew. -/
theorem RefM.mk' {g : Nat} {vs : List Value} {s o : Slc} {ls os : List Slc} {L old : List (List Cell)} {top : Int} {rows cols most : Nat} (h : Blk w1 g 88 vs) (h0 : base ≤ g) (hrow : Own sl24E w1 base s ls) (hl : Lines w1 base ls L) (hrow' : Own sl24E w1 base o os) (hl' : Lines w1 base os old)
    (hne : ∀ k, s.blk = some k → o.blk ≠ some k) (hb : Blk w2 g 88 [.int .i64 rows, .int .i64 cols, .int .i64 most, .slice s.a s.n s.c, .slice o.a o.n o.c, .int .i64 top]) (hg : w1.grownBy w2 (some g)) :
    RefM w2 base ⟨g, s, o⟩ ⟨rows, cols, most, L, old, top⟩ := by
  have hc : Chg (fun k => k = g) w1 w2 := Chg.gg hg
  have notC : ∀ k cs, k = g → ¬ Blk w1 k 42 cs := fun k cs hk hcs => by
    subst hk
    exact hcs.ne_t h (by decide) rfl
  have ap : ∀ {s : Slc} {ls : List Slc}, Own sl24E w1 base s ls → ∀ k, s.blk = some k → k ≠ g := fun ho k hk => by
    obtain ⟨cs, hcs⟩ := ho.blk_t hk
    exact hcs.ne_t h (by decide)
  exact ⟨hb, h0, ⟨ls, hrow.chg hc (ap hrow), hl.chg hc notC⟩, ⟨os, hrow'.chg hc (ap hrow'), hl'.chg hc notC⟩, hne⟩

theorem rIs_spec {row : Int} {K : Bool → World → Prop} (h : RefM w base f S) (hK : K (decide (0 ≤ row ∧ row < S.rows)) w) : c_phosphorref16_Grid_Is (some ⟨f.g, 0, none⟩) row w K := by
  refine call_phosphorref16_Grid_Is _ _ ?_
  unfold sh_phosphorref16_Grid_Is
  simp only [onPtr_some]
  refine cond_of (fun h0 => ?_) (fun h0 => ?_)
  · have h0 : 0 ≤ row := of_decide_eq_true h0
    refine ldI_of (x := (S.rows : Int)) (h.blk.cells 0 _ rfl) ?_
    have : decide (row < (S.rows : Int)) = decide (0 ≤ row ∧ row < S.rows) := by simp [h0]
    rw [this]; exact hK
  · have h0 := of_decide_eq_false h0
    have : decide (0 ≤ row ∧ row < (S.rows : Int)) = false := by simp; omega
    rw [this] at hK; exact hK
theorem rsize_spec {n : Int} {K : Bool → World → Prop} (hk : K (decide (1 ≤ n ∧ n ≤ 1000)) w) : c_phosphorref16_size n w K := by
  refine call_phosphorref16_size _ ?_
  unfold sh_phosphorref16_size
  refine cond_of (fun h => ?_) (fun h => ?_)
  · have h : 1 ≤ n := of_decide_eq_true h
    have : decide (n ≤ 1000) = decide (1 ≤ n ∧ n ≤ 1000) := by simp [h]
    rw [this]; exact hk
  · have h := of_decide_eq_false h
    have : decide (1 ≤ n ∧ n ≤ 1000) = false := by simp; omega
    rw [this] at hk; exact hk

/-- A line more behind the reference's lines. -/
theorem rApp {t : Slc} {xs : List Cell} {K : World → Prop} (h : RefM w base f S) (ht : Own cellE w base t xs) (hlen : S.L.length ≤ 100000) (hbase : base ≤ w.heap.size)
    (hK : ∀ q w', RefM w' base { f with ls := q } { S with L := S.L ++ [xs] } → f.to { f with ls := q } w.heap.size → Chg (refS f) w w' → K w') :
    nw 24 [(.slice t.a t.n t.c)] w fun u w1 => World.cell? w1 ((⟨f.g, 0, none⟩ : Addr).add 3) = some (.slice f.ls.a f.ls.n f.ls.c) ∧ apK Tryd.prog #[86, 86] 86 f.ls (⟨(some u), 1, 1⟩ : Slc) w1 fun q w2 => stK ((⟨f.g, 0, none⟩ : Addr).add 3) [(.slice q.a q.n q.c)] w2 K := by
  refine nw_blk fun w1 hb1 hB1 hs1 => ?_
  have h1 := h.ext hB1
  refine ⟨h1.blk.cells 3 _ rfl, ?_⟩
  obtain ⟨ls, ho, hl⟩ := h1.row
  obtain ⟨os, ho', hl'⟩ := h1.old
  have hll := hl.1
  have hr1 : Rd sl24E w1 ⟨some ⟨w.heap.size, 0, none⟩, 1, 1⟩ [t] := rd_one (E := sl24E) hb1 rfl
  refine apK_own slT86 ho hr1 (by omega) (by rw [by86]; simp; omega) (by simp [maxLen]; omega) fun q w2 ho2 hg2 hq2 => ?_
  have hc2 : Chg (fun k => f.ls.blk = some k) w1 w2 := Chg.of_grown hg2 fun k hk => hk
  have notC : ∀ k cs, f.ls.blk = some k → ¬ Blk w1 k 42 cs := fun k cs hk => h1.notC k cs (.inr (.inl hk))
  obtain ⟨g2, g3⟩ := h1.g_ne
  have hb2 := h1.blk.chg hc2 fun e => g2 _ e rfl
  have ht1 := ht.ext hB1
  have hl2 := (hl.chg hc2 notC).append (Lines.one (ht1.chg hc2 fun g hg hs => by
    obtain ⟨cs, hcs⟩ := ht1.blk_t hg
    exact notC g cs hs hcs))
  have ho2' := ho'.chg hc2 fun k hk hs => h1.ne k hs hk
  have hl2' := hl'.chg hc2 notC
  have hne : ∀ k, q.blk = some k → f.os.blk ≠ some k := fun k hk e => by
    rcases hq2 with e' | e'
    · exact h1.ne k (by rw [← e']; exact hk) e
    · rw [e'] at hk
      cases hk
      have := (ho'.lt _ e).2
      omega
  rw [add_mk]
  refine stK_blk hb2 (by simp) fun w3 hb3 hg3 hs3 => ?_
  refine hK q w3 (RefM.mk' (g := f.g) hb2 h.hg ho2 hl2 ho2' hl2' hne hb3 hg3) ⟨rfl, ?_, .inl rfl⟩ (((Chg.of_ext (S := refS f) hB1).trans hc2 fun i _ hi => .inr (.inl hi)).trans (Chg.gg hg3) fun i _ hi => .inl hi)
  rcases hq2 with e | e
  · exact .inl e
  · exact .inr fun k hk => by
      have hk : q.blk = some k := hk
      rw [e] at hk; cases hk; exact hB1.size

theorem rClear_spec {a : Attr} {K : World → Prop} (h : RefM w base f S) (hrows : S.rows ≤ 100000) (hbase : base ≤ w.heap.size)
    (hK : ∀ f' w', RefM w' base f' { S with L := List.replicate S.rows (newL S.cols a) } → f.to f' w.heap.size → Chg (refS f) w w' → K w') : c_phosphorref16_Grid_Clear (some ⟨f.g, 0, none⟩) a w K := by
  refine call_phosphorref16_Grid_Clear _ _ ?_
  unfold sh_phosphorref16_Grid_Clear
  simp only [onPtr_some]
  refine nw_blk fun w1 hb1 hB1 hs1 => ?_
  have h1 := h.ext hB1
  rw [add_mk]
  refine stK_blk h1.blk (by simp) fun w2 hb2 hg2 hs2 => ?_
  obtain ⟨os, ho', hl'⟩ := h1.old
  have h2 : RefM w2 base ⟨f.g, ⟨none, 0, 0⟩, f.os⟩ { S with L := [] } := RefM.mk' (g := f.g) h1.blk h.hg (Own.nil _ _ _) (Lines.nil _ _) ho' hl' (fun k hk => by cases hk) hb2 hg2
  have hc2 : Chg (refS f) w w2 := (Chg.of_ext (S := refS f) hB1).trans (Chg.gg hg2) fun i _ hi => .inl hi
  have hfg := (h.below _ (.inl rfl)).2
  have ha2 : Blk w2 w.heap.size 23 (T_api_Attr.rep.cells a) := hb1.grown hg2 fun e => by have e := Option.some.inj e; omega
  refine loopP_rule (fun (s : Int × Unit) w3 => ∃ (k : Nat) (f' : RFoot), s.1 = k ∧ k ≤ S.rows ∧ f'.g = f.g ∧ RefM w3 base f' { S with L := List.replicate k (newL S.cols a) } ∧ f.to f' w.heap.size ∧ Chg (refS f) w w3 ∧ Blk w3 w.heap.size 23 (T_api_Attr.rep.cells a) ∧ (∀ k, f'.ls.blk = some k → k ≠ w.heap.size))
    (fun s => S.rows - s.1.toNat) ⟨0, ⟨f.g, ⟨none, 0, 0⟩, f.os⟩, rfl, by omega, rfl, h2, ⟨rfl, .inr fun k hk => (by cases hk), .inl rfl⟩, hc2, ha2, fun k hk => by cases hk⟩ ?_
  rintro ⟨i, _⟩ w3 ⟨k, f', rfl, hk, hf'g, h3, hf3, hc3, ha3, hne3⟩ I hI
  dsimp only at *
  rw [← hf'g]
  refine ldI_of (x := (S.rows : Int)) (h3.blk.cells 0 _ rfl) ?_
  refine cond_of (fun hlt => ?_) (fun hge => ?_)
  · have hlt := of_decide_eq_true hlt
    refine ldSl_of (x := f'.ls) (h3.drew.blk.cells 3 _ rfl) ?_
    refine ldI_of (x := (S.cols : Int)) (h3.drew.blk.cells 1 _ rfl) ?_
    refine ldS_of (x := a) ha3.drew.cells ?_
    refine rNew_spec fun t w4 ht hB4 => ?_
    have hB34 : Below w3.heap.size w3 w4 := (Below.refl _ w3).drew.trans hB4
    have h4 := h3.ext hB34
    have hs3 := hc3.size
    have hs34 : w3.heap.size ≤ w4.heap.size := hB34.size
    refine ⟨h4.blk.cells 3 _ rfl, ?_⟩
    refine rApp h4 (ht.base (by show base ≤ w3.heap.size; omega)) (by simp; omega) (by omega) fun q w5 h5 hf5 hc5 => ?_
    rw [wrap64_id (by omega)]
    have hold := hf3.old
    refine hI _ _ ⟨k + 1, { f' with ls := q }, by simp, by omega, hf'g, by rw [List.replicate_succ']; exact h5, hf3.trans hf5 (by omega), ?_, ?_, ?_⟩ (by simp; omega)
    · refine (hc3.trans (Chg.of_ext (S := refS f) hB34) fun i _ hi => hi).trans hc5 fun i hi hs => ?_
      rcases hold i hs with e | e
      · exact e
      · omega
    · refine (ha3.ext hB34).chg hc5 fun hs => ?_
      rcases hs with e | e | e
      · rw [hf'g] at e; omega
      · exact hne3 _ e rfl
      · rcases hold _ (.inr (.inr e)) with e' | e'
        · have := (h.below _ e').2; omega
        · obtain ⟨cs', hcs'⟩ := (h4.old.choose_spec).1.blk_t e
          exact (ha3.ext hB34).ne_t hcs' (by decide) rfl
    · intro j hj
      have hj : q.blk = some j := hj
      rcases hf5.ls with e | e
      · rw [e] at hj; exact hne3 j hj
      · have := e j hj
        have := ha3.lt
        omega
  · have hge := of_decide_eq_false hge
    have : k = S.rows := by omega
    subst this
    exact hK f' w3 h3 hf3 hc3

theorem rSet_spec {row : Int} {l : Slc} {xs : List Cell} {K : Bool → World → Prop} (h : RefM w base f S) (hx : Rd cellE w l xs) (hxl : xs.length ≤ 10000) (hL : S.L.length = S.rows) (hbase : base ≤ w.heap.size)
    (hK1 : ∀ w', (0 ≤ row ∧ row < S.rows) → RefM w' base f { S with L := S.L.set row.toNat (resL xs S.cols) } → Chg (refS f) w w' → K true w') (hK2 : ¬ (0 ≤ row ∧ row < S.rows) → K false w) : c_phosphorref16_Grid_Set (some ⟨f.g, 0, none⟩) row l w K := by
  refine call_phosphorref16_Grid_Set _ _ _ ?_
  unfold sh_phosphorref16_Grid_Set
  simp only [onPtr_some]
  refine rIs_spec h ?_
  by_cases hr : 0 ≤ row ∧ row < (S.rows : Int)
  · rw [decide_eq_true hr]
    refine cond_f rfl ?_
    refine ldSl_of (x := f.ls) (h.drew.blk.cells 3 _ rfl) ?_
    refine ldI_of (x := (S.cols : Int)) (h.drew.blk.cells 1 _ rfl) ?_
    refine rResize_spec hx.drew hxl fun t w4 ht hB4 => ?_
    rw [← res_same] at ht
    have hB04 : Below w.heap.size w w4 := (Below.refl _ w).drew.trans hB4
    have h4 := h.ext hB04
    refine ⟨h4.blk.cells 3 _ rfl, ?_⟩
    obtain ⟨ls, ho, hl⟩ := h4.row
    have hll := hl.1
    refine ho.rd.ix rfl hr.1 (by omega) fun _ => ?_
    refine ho.st0 (x := ls[row.toNat]'(by omega)) (List.getElem?_eq_getElem _) (y := t) rfl fun w5 ho5 hg5 hs5 => ?_
    obtain ⟨h5, hc5⟩ := h4.setLine (i := row.toNat) hl (ht.base hbase) ho5 hg5
    exact hK1 w5 hr h5 ((Chg.of_ext (S := refS f) hB04).trans hc5 fun i _ hi => .inr (.inl hi))
  · rw [decide_eq_false hr]
    exact cond_t rfl (hK2 hr)

theorem rFill_spec {row from_ to : Int} {a : Attr} {K : Bool → World → Prop} (h : RefM w base f S) (hL : S.L.length = S.rows) (hw : ∀ xs ∈ S.L, xs.length ≤ 10000) (hbase : base ≤ w.heap.size)
    (hK1 : ∀ w', (0 ≤ row ∧ row < S.rows) → RefM w' base f { S with L := S.L.set row.toNat (eraP (S.L.getD row.toNat []) from_ to a) } → Chg (refS f) w w' → K true w')
    (hK2 : ∀ w', ¬ (0 ≤ row ∧ row < S.rows) → Below w.heap.size w w' → K false w') : c_phosphorref16_Grid_Fill (some ⟨f.g, 0, none⟩) row from_ to a w K := by
  refine call_phosphorref16_Grid_Fill _ _ _ _ _ ?_
  unfold sh_phosphorref16_Grid_Fill
  refine nw_blk fun w1 hb1 hB1 hs1 => ?_
  have h1 := h.ext hB1
  simp only [onPtr_some]
  refine rIs_spec h1 ?_
  by_cases hr : 0 ≤ row ∧ row < (S.rows : Int)
  · rw [decide_eq_true hr]
    refine cond_f rfl ?_
    refine ldSl_of (x := f.ls) (h1.drew.blk.cells 3 _ rfl) ?_
    refine ldSl_of (x := f.ls) (h1.drew.blk.cells 3 _ rfl) ?_
    obtain ⟨ls, ho, hl⟩ := h1.row
    have hll := hl.1
    refine ho.drew.rd.ix rfl hr.1 (by omega) fun hc => ?_
    have hlk : ls[row.toNat]? = some (ls[row.toNat]'(by omega)) := List.getElem?_eq_getElem _
    have hxk : S.L[row.toNat]? = some (S.L[row.toNat]'(by omega)) := List.getElem?_eq_getElem _
    refine ldSl_of (x := ls[row.toNat]'(by omega)) (by simpa using hc 0 _ rfl) ?_
    refine ldS_of (x := a) hb1.drew.cells ?_
    have hwk := hw _ (List.mem_of_getElem? hxk)
    refine rErase_spec (hl.2 _ _ _ hlk hxk).drew.rd hwk fun t w4 ht hB4 => ?_
    rw [← era_same] at ht
    have hB14 : Below w1.heap.size w1 w4 := (Below.refl _ w1).drew.trans hB4
    have h4 := h1.ext hB14
    refine ⟨h4.blk.cells 3 _ rfl, ?_⟩
    have ho4 := ho.ext hB14
    have hs0 := hB1.size
    refine ho4.rd.ix rfl hr.1 (by omega) fun _ => ?_
    refine ho4.st0 (x := ls[row.toNat]'(by omega)) hlk (y := t) rfl fun w5 ho5 hg5 hs5 => ?_
    obtain ⟨h5, hc5⟩ := h4.setLine (i := row.toNat) (hl.ext hB14) (ht.base (by show base ≤ w1.heap.size; omega)) ho5 hg5
    refine hK1 w5 hr ?_ ((Chg.of_ext (S := refS f) (hB1.trans (hB14.mono hs0))).trans hc5 fun i _ hi => .inr (.inl hi))
    rw [List.getD_eq_getElem?_getD, hxk]
    exact h5
  · rw [decide_eq_false hr]
    exact cond_t rfl (hK2 _ hr hB1)
end

theorem rNewG_spec {rows cols back : Int} {w : World} {K : Option Addr → Int → World → Prop} (hK1 : badGrid rows cols back → K none 1 w)
    (hK2 : ¬ badGrid rows cols back → ∀ f w', RefM w' w.heap.size f (gs0 rows.toNat cols.toNat back.toNat) → Below w.heap.size w w' → K (some ⟨f.g, 0, none⟩) 0 w') : c_phosphorref16_New rows cols back w K := by
  refine call_phosphorref16_New _ _ _ ?_
  unfold sh_phosphorref16_New
  refine joinP_of fun J hJ => ?_
  refine rsize_spec ?_
  by_cases h1 : 1 ≤ rows ∧ rows ≤ 1000
  rotate_left
  · rw [decide_eq_false h1]
    exact cond_t rfl (hK1 (.inl h1))
  rw [decide_eq_true h1]
  refine cond_f rfl (rsize_spec ?_)
  by_cases h2 : 1 ≤ cols ∧ cols ≤ 1000
  rotate_left
  · rw [decide_eq_false h2]
    exact cond_t rfl (hK1 (.inr (.inl h2)))
  rw [decide_eq_true h2]
  refine cond_f rfl ?_
  refine cond_of (fun h3 => hK1 (.inr (.inr (.inl (of_decide_eq_true h3))))) (fun h3 => ?_)
  refine cond_of (fun h4 => hK1 (.inr (.inr (.inr (of_decide_eq_true h4))))) (fun h4 => ?_)
  have h3 := of_decide_eq_false h3
  have h4 := of_decide_eq_false h4
  have hgood : ¬ badGrid rows cols back := by unfold badGrid; omega
  refine hJ _ _ ?_
  refine nw_blk fun w2 hb2 hB2 hs2 => ?_
  have hg2 : RefM w2 w.heap.size ⟨w.heap.size, ⟨none, 0, 0⟩, ⟨none, 0, 0⟩⟩ ⟨rows.toNat, cols.toNat, back.toNat, [], [], 0⟩ := by
    refine ⟨?_, Nat.le_refl _, ⟨[], Own.nil _ _ _, Lines.nil _ _⟩, ⟨[], Own.nil _ _ _, Lines.nil _ _⟩, fun k hk => by cases hk⟩
    show Blk w2 w.heap.size 88 [.int .i64 ((rows.toNat : Nat) : Int), .int .i64 ((cols.toNat : Nat) : Int), .int .i64 ((back.toNat : Nat) : Int), _, _, _]
    rw [show ((rows.toNat : Nat) : Int) = rows by omega, show ((cols.toNat : Nat) : Int) = cols by omega, show ((back.toNat : Nat) : Int) = back by omega]
    exact hb2
  refine rClear_spec (f := ⟨w.heap.size, ⟨none, 0, 0⟩, ⟨none, 0, 0⟩⟩) hg2 (by show rows.toNat ≤ 100000; omega) hB2.size fun f' w3 hg3 hf hc => ?_
  have hg' : f'.g = w.heap.size := hf.g
  have key := hK2 hgood f' w3 hg3 (hB2.trans (hc.below hB2.size fun i hi hs => by have := (hg2.below i hs).1; omega))
  rw [hg'] at key
  exact key

end Go.Proofs.YtgejghejnibocaaDoor
