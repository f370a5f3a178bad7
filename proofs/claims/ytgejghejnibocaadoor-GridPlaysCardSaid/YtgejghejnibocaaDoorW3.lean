/- The laws of lines, walked: LineMaps. -/
import Derived.Test.YtgejghejnibocaaDoorW2
namespace Go.Proofs.YtgejghejnibocaaDoor
open Go.Vc Go.RowKit

def intE : El Int where
  cells r := [.int .i64 r]
  t := 3
  k := 1
  pos := by decide
  len _ := rfl
  one x v hv := by
    simp only [List.mem_cons, List.mem_nil_iff, or_false] at hv
    rcases hv with rfl
    rfl
def boolE : El Bool where
  cells r := [.bool r]
  t := 4
  k := 1
  pos := by decide
  len _ := rfl
  one x v hv := by
    simp only [List.mem_cons, List.mem_nil_iff, or_false] at hv
    rcases hv with rfl
    rfl
noncomputable def slT39 : SlT Tryd.prog intE 39 where
  ht := by kernel_rfl
  i := (Tryd.prog.info? 3).getD default
  hi := by kernel_rfl
  z := .int .i64 0
  hz := by kernel_rfl
  hs := by kernel_rfl
  hzs := rfl
noncomputable def slT44 : SlT Tryd.prog boolE 44 where
  ht := by kernel_rfl
  i := (Tryd.prog.info? 4).getD default
  hi := by kernel_rfl
  z := .bool false
  hz := by kernel_rfl
  hs := by kernel_rfl
  hzs := rfl
theorem by39 : slT39.i.bytes = 8 := by kernel_rfl
theorem by44 : slT44.i.bytes = 1 := by kernel_rfl

theorem callR_plain {C : Cx} {g : Nat} {first cap : Array Value} {args : List Value} {ks : List Kind} {w : World} {K : Cur ks} (hp : C.plain g = true) (h : callP C.P g (first.toList ++ args ++ cap.toList) ks w K) :
    callR C (.func (.func g) first cap) args ks w K := by
  unfold callR callVal
  simp only [hp]
  exact h
theorem plain24 : C.plain 24 = true := by kernel_rfl
theorem plain26 : C.plain 26 = true := by kernel_rfl

theorem call_xor {c : Cell} {b : Nat} {y : Int} {w : World} {K : Int → World → Prop} (hb : Blk w b 3 [.int .i64 y]) (hK : ∀ w', Below w.heap.size w w' → K (bitsR .xor .i64 (IntKind.i64.wrap c.R) y) w') :
    callR C (.func (.func 24) #[] #[.pointer (some ⟨b, 0, none⟩)]) [.agg #[.int .i32 c.R, .int .i64 c.Kind, .int .i64 c.A.Fg, .int .i64 c.A.Bg, .int .i64 c.A.Flags]] [Kind.int .i64] w K := by
  have h : c_phosphorlaw13_LineMaps_1 c ⟨b, 0, none⟩ w K := by
    refine call_phosphorlaw13_LineMaps_1 _ _ ?_
    unfold sh_phosphorlaw13_LineMaps_1
    refine nw_blk fun w1 hb1 hB1 hs1 => ?_
    refine ldI_of (x := c.R) (hb1.cells 0 _ rfl) ?_
    refine ldI_of (x := y) (by simpa using (hb.ext hB1).cells 0 _ rfl) ?_
    exact hK _ hB1
  refine callR_plain plain24 (Calls.mono h ?_)
  rintro e w' ⟨r, rfl, hk⟩
  exact ⟨r, rfl, hk⟩
theorem call_two {c : Cell} {w : World} {K : Bool → World → Prop} (hK : ∀ w', Below w.heap.size w w' → K (c.Kind == 2) w') :
    callR C (.func (.func 26) #[] #[]) [.agg #[.int .i32 c.R, .int .i64 c.Kind, .int .i64 c.A.Fg, .int .i64 c.A.Bg, .int .i64 c.A.Flags]] [Kind.bool] w K := by
  have h : c_phosphorlaw13_LineMaps_2 c w K := by
    refine call_phosphorlaw13_LineMaps_2 _ ?_
    unfold sh_phosphorlaw13_LineMaps_2
    refine nw_blk fun w1 hb1 hB1 hs1 => ?_
    refine ldI_of (x := c.Kind) (hb1.cells 1 _ rfl) ?_
    exact hK _ hB1
  refine callR_plain plain26 (Calls.mono h ?_)
  rintro e w' ⟨r, rfl, hk⟩
  exact ⟨r, rfl, hk⟩

theorem MapInt_spec {l : Slc} {xs : List Cell} {b : Nat} {y : Int} {w : World} {K : Slc → World → Prop} (h : Rd cellE w l xs) (hb : Blk w b 3 [.int .i64 y]) (hl : xs.length ≤ 10000)
    (hK : ∀ s w', Own intE w' w.heap.size s (xs.map fun c => bitsR .xor .i64 (IntKind.i64.wrap c.R) y) → Below w.heap.size w w' → K s w') : c_line_Map_int l (.func (.func 24) #[] #[.pointer (some ⟨b, 0, none⟩)]) w K := by
  refine call_line_Map_int _ _ ?_
  unfold sh_line_Map_int
  refine loopP_rule (fun (s : Slc × Int × Unit) w2 => ∃ k : Nat, s.2.1 = k ∧ k ≤ xs.length ∧ Own intE w2 w.heap.size s.1 ((xs.take k).map fun c => bitsR .xor .i64 (IntKind.i64.wrap c.R) y) ∧ Below w.heap.size w w2) (fun s => xs.length - s.2.1.toNat) ⟨0, rfl, by omega, Own.nil _ _ _, Below.refl _ _⟩ ?_
  rintro ⟨s, i, _⟩ w2 ⟨k, rfl, hk, ho, hB⟩ I hI
  dsimp only at *
  rw [h.n]
  refine cond_of (fun hlt => ?_) (fun hge => ?_)
  · have hlt := of_decide_eq_true hlt
    obtain ⟨x, hx, hxs⟩ := get_of (xs := xs) (k := k) (by omega)
    refine (h.ext hB).ix rfl (by omega) (by omega) fun hc => ?_
    rw [hxs] at hc
    refine ldS_of (x := x) hc ?_
    refine box_of rfl fun w4 hb4 hB4 hs4 => ?_
    refine ldS_of (x := x) hb4.cells ?_
    have hB04 : Below w.heap.size w w4 := hB.trans (hB4.mono hB.size)
    refine call_xor (hb.ext hB04) fun w5 hB5 => ?_
    refine nw_blk fun w6 hb6 hB6 hs6 => ?_
    have hB26 : Below w2.heap.size w2 w6 := (hB4.trans (hB5.mono hB4.size)).trans (hB6.mono (by have := hB4.size; have := hB5.size; omega))
    have hB06 : Below w.heap.size w w6 := hB.trans (hB26.mono hB.size)
    have hr6 : Rd intE w6 ⟨some ⟨w5.heap.size, 0, none⟩, 1, 1⟩ [bitsR .xor .i64 (IntKind.i64.wrap x.R) y] := rd_one (E := intE) hb6 rfl
    refine apK_own slT39 (ho.ext hB26) hr6 hB06.size (by rw [by39]; simp; omega) (by simp [maxLen]; omega) fun r w7 ho7 hg7 hr7 => ?_
    rw [wrap64_id (by omega)]
    refine hI _ _ ⟨k + 1, by simp, by omega, ?_, hB06.grown hg7 hB06.size fun g hg => (ho.lt g hg).1⟩ (by simp; omega)
    rw [List.take_add_one, hx, List.map_append]
    exact ho7
  · have hge := of_decide_eq_false hge
    have : k = xs.length := by omega
    subst this
    rw [List.take_length] at ho
    exact hK _ _ ho hB

theorem MapBool_spec {l : Slc} {xs : List Cell} {w : World} {K : Slc → World → Prop} (h : Rd cellE w l xs) (hl : xs.length ≤ 10000)
    (hK : ∀ s w', Own boolE w' w.heap.size s (xs.map fun c => c.Kind == 2) → Below w.heap.size w w' → K s w') : c_line_Map_bool l (.func (.func 26) #[] #[]) w K := by
  refine call_line_Map_bool _ _ ?_
  unfold sh_line_Map_bool
  refine loopP_rule (fun (s : Slc × Int × Unit) w2 => ∃ k : Nat, s.2.1 = k ∧ k ≤ xs.length ∧ Own boolE w2 w.heap.size s.1 ((xs.take k).map fun c => c.Kind == 2) ∧ Below w.heap.size w w2) (fun s => xs.length - s.2.1.toNat) ⟨0, rfl, by omega, Own.nil _ _ _, Below.refl _ _⟩ ?_
  rintro ⟨s, i, _⟩ w2 ⟨k, rfl, hk, ho, hB⟩ I hI
  dsimp only at *
  rw [h.n]
  refine cond_of (fun hlt => ?_) (fun hge => ?_)
  · have hlt := of_decide_eq_true hlt
    obtain ⟨x, hx, hxs⟩ := get_of (xs := xs) (k := k) (by omega)
    refine (h.ext hB).ix rfl (by omega) (by omega) fun hc => ?_
    rw [hxs] at hc
    refine ldS_of (x := x) hc ?_
    refine box_of rfl fun w4 hb4 hB4 hs4 => ?_
    refine ldS_of (x := x) hb4.cells ?_
    refine call_two fun w5 hB5 => ?_
    refine nw_blk fun w6 hb6 hB6 hs6 => ?_
    have hB26 : Below w2.heap.size w2 w6 := (hB4.trans (hB5.mono hB4.size)).trans (hB6.mono (by have := hB4.size; have := hB5.size; omega))
    have hB06 : Below w.heap.size w w6 := hB.trans (hB26.mono hB.size)
    have hr6 : Rd boolE w6 ⟨some ⟨w5.heap.size, 0, none⟩, 1, 1⟩ [x.Kind == 2] := rd_one (E := boolE) hb6 rfl
    refine apK_own slT44 (ho.ext hB26) hr6 hB06.size (by rw [by44]; simp; omega) (by simp [maxLen]; omega) fun r w7 ho7 hg7 hr7 => ?_
    rw [wrap64_id (by omega)]
    refine hI _ _ ⟨k + 1, by simp, by omega, ?_, hB06.grown hg7 hB06.size fun g hg => (ho.lt g hg).1⟩ (by simp; omega)
    rw [List.take_add_one, hx, List.map_append]
    exact ho7
  · have hge := of_decide_eq_false hge
    have : k = xs.length := by omega
    subst this
    rw [List.take_length] at ho
    exact hK _ _ ho hB

theorem LineMaps_law {l : Slc} {xs : List Cell} {by_ : Int} {w : World} {K : Bool → World → Prop} (h : Rd cellE w l xs) (hK : ∀ w', Below w.heap.size w w' → K true w') : c_phosphorlaw13_LineMaps l by_ w K := by
  refine call_phosphorlaw13_LineMaps _ _ ?_
  unfold sh_phosphorlaw13_LineMaps
  refine nw_blk fun w1 hb1 hB1 hs1 => ?_
  refine known_spec fun w2 hB2 => ?_
  have hB02 : Below w.heap.size w w2 := hB1.trans (hB2.mono hB1.size)
  have hb2 := hb1.ext hB2
  refine cond_f rfl ?_
  rw [h.n]
  refine cond_of (fun _ => hK _ hB02) (fun hl => ?_)
  have hl := of_decide_eq_false hl
  refine MapInt_spec (h.ext hB02) hb2 (by omega) fun p w3 hop hB3 => ?_
  have hB03 : Below w.heap.size w w3 := hB02.trans (hB3.mono hB02.size)
  refine MapBool_spec (h.ext hB03) (by omega) fun q w4 hoq hB4 => ?_
  have hB04 : Below w.heap.size w w4 := hB03.trans (hB4.mono hB03.size)
  have hp := hop.rd.ext hB4
  have hq := hoq.rd
  have hb4 := (hb2.ext hB3).ext hB4
  have hpn := hp.n
  have hqn := hq.n
  rw [List.length_map] at hpn hqn
  rw [hpn, hqn]
  refine joinP_of fun J hJ => ?_
  refine cond_f (by simp) (cond_f (by simp) (hJ _ _ ?_))
  refine loopP_rule (fun (s : Int × Unit) w5 => ∃ k : Nat, s.1 = k ∧ k ≤ xs.length ∧ Rd intE w5 p (xs.map fun c => bitsR .xor .i64 (IntKind.i64.wrap c.R) by_) ∧ Rd boolE w5 q (xs.map fun c => c.Kind == 2) ∧ Blk w5 w.heap.size 3 [.int .i64 by_] ∧ Below w.heap.size w w5)
    (fun s => xs.length - s.1.toNat) ⟨0, rfl, by omega, hp, hq, hb4, hB04⟩ ?_
  rintro ⟨i, _⟩ w5 ⟨k, rfl, hk, hp5, hq5, hb5, hB⟩ I hI
  dsimp only at *
  refine cond_of (fun hlt => ?_) (fun hge => hK _ hB)
  have hlt := of_decide_eq_true hlt
  obtain ⟨x, hx, hxs⟩ := get_of (xs := xs) (k := k) (by omega)
  have hxk : xs[k]'(by omega) = x := by
    have := List.getElem?_eq_getElem (l := xs) (i := k) (by omega)
    rw [hx] at this
    exact (Option.some.inj this).symm
  refine hp5.drew.ix rfl (by omega) (by rw [List.length_map]; omega) fun hc => ?_
  refine ldI_of (x := bitsR .xor .i64 (IntKind.i64.wrap x.R) by_) (by simpa [hxk] using hc 0 _ rfl) ?_
  refine (h.ext hB).drew.ix rfl (by omega) (by omega) fun hc => ?_
  rw [hxs] at hc
  refine ldI_of (cell_r hc) ?_
  refine ldI_of (x := by_) (by simpa using hb5.drew.cells 0 _ rfl) ?_
  refine cond_f (by simp) ?_
  refine hq5.drew.ix rfl (by omega) (by rw [List.length_map]; omega) fun hc => ?_
  refine ldB_of (x := (x.Kind == 2)) (by simpa [hxk] using hc 0 _ rfl) ?_
  refine (h.ext hB).drew.ix rfl (by omega) (by omega) fun hc => ?_
  rw [hxs] at hc
  refine ldI_of (cell_kind hc) ?_
  refine cond_f (by simp) ?_
  rw [wrap64_id (by omega)]
  exact hI _ _ ⟨k + 1, by simp, by omega, hp5.drew, hq5.drew, hb5.drew, hB.drew⟩ (by simp; omega)

end Go.Proofs.YtgejghejnibocaaDoor
