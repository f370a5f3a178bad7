/- What the program's writing functions of lines come to: halves, Put, many, Insert, Delete, Erase, Resize; Concat; Equal, Same. -/
import Derived.Test.YtgejghejnibocaaDoorL3
import Derived.Test.YtgejghejnibocaaDoorMem2
namespace Go.Proofs.YtgejghejnibocaaDoor
open Go.Vc Go.RowKit

/-! ### What is reckoned -/
def halfL (xs : List Cell) (at_ : Int) : List Cell := if 0 ≤ at_ ∧ at_ < xs.length ∧ fitsB xs at_ = false then xs.set at_.toNat (blankC (xs.getD at_.toNat default).A) else xs
def halvesL (xs : List Cell) (from_ to : Int) : List Cell := halfL (halfL xs (from_ - 1)) to
def badPut (n : Nat) (col width : Int) : Prop := width < 1 ∨ width > 2 ∨ col < 0 ∨ col > n - width
instance (n : Nat) (col width : Int) : Decidable (badPut n col width) := by unfold badPut; infer_instance
def wrotL (xs : List Cell) (col r width : Int) (a : Attr) : List Cell :=
  if width = 2 then (xs.set col.toNat ⟨r, 1, a⟩).set (col + 1).toNat ⟨0, 2, a⟩ else xs.set col.toNat ⟨r, 0, a⟩
def putP (xs : List Cell) (col r width : Int) (a : Attr) : List Cell := if badPut xs.length col width then mendL xs else halvesL (wrotL (mendL xs) col r width a) col (col + width)
def manyL (n : Nat) (col k : Int) : Int := if k < 1 ∨ col < 0 ∨ col ≥ n then 0 else min k (n - col)
def insL (xs : List Cell) (col k : Int) (a : Attr) : List Cell :=
  let m := mendL xs
  let c := manyL xs.length col k
  if c = 0 then m else mendL (m.take col.toNat ++ List.replicate c.toNat (blankC a) ++ (m.take (xs.length - c.toNat)).drop col.toNat)
def delL (xs : List Cell) (col k : Int) (a : Attr) : List Cell :=
  let m := mendL xs
  let c := manyL xs.length col k
  if c = 0 then m else mendL (m.take col.toNat ++ m.drop (col + c).toNat ++ List.replicate c.toNat (blankC a))
def fillL (xs : List Cell) (lo hi : Nat) (c : Cell) : List Cell := xs.mapIdx fun i x => if lo ≤ i ∧ i < hi then c else x
def eraP (xs : List Cell) (from_ to : Int) (a : Attr) : List Cell :=
  let lo := max 0 from_
  let hi := min (xs.length : Int) to
  if lo ≥ hi then mendL xs else halvesL (fillL (mendL xs) lo.toNat hi.toNat (blankC a)) lo hi
def resL (xs : List Cell) (cols : Int) : List Cell :=
  let m := mendL xs
  let c := min 1000 (max 0 cols)
  if c ≤ xs.length then mendL (m.take c.toNat) else m ++ List.replicate (c - xs.length).toNat (blankC ⟨0, 0, 0⟩)

theorem halfL_length (xs : List Cell) (i : Int) : (halfL xs i).length = xs.length := by
  unfold halfL
  split <;> simp
theorem halvesL_length (xs : List Cell) (i j : Int) : (halvesL xs i j).length = xs.length := by rw [halvesL, halfL_length, halfL_length]
theorem wrotL_length (xs : List Cell) (c r k : Int) (a : Attr) : (wrotL xs c r k a).length = xs.length := by
  unfold wrotL
  split <;> simp
theorem fillL_length (xs : List Cell) (lo hi : Nat) (c : Cell) : (fillL xs lo hi c).length = xs.length := by simp [fillL]
theorem fillL_set {xs : List Cell} {lo k : Nat} {c : Cell} (hk : lo ≤ k) : (fillL xs lo k c).set k c = fillL xs lo (k + 1) c := by
  refine List.ext_getElem? fun i => ?_
  rw [List.getElem?_set]
  simp only [fillL, List.getElem?_mapIdx, List.length_mapIdx]
  by_cases hi : k = i
  · subst hi
    rw [if_pos rfl]
    by_cases hl : k < xs.length
    · rw [if_pos hl, List.getElem?_eq_getElem hl]
      simp [hk]
    · rw [if_neg hl, List.getElem?_eq_none (by omega)]
      rfl
  · rw [if_neg hi]
    have : (i < k + 1) = (i < k) := by apply propext; omega
    simp only [this]
theorem fillL_none (xs : List Cell) (lo : Nat) (c : Cell) : fillL xs lo lo c = xs := by
  refine List.ext_getElem? fun i => ?_
  simp only [fillL, List.getElem?_mapIdx]
  have : ¬ (lo ≤ i ∧ i < lo) := by omega
  simp [this]

/-! ### halves -/
theorem halves_spec {l : Slc} {xs : List Cell} {from_ to : Int} {w : World} {base : Nat} {K : Slc → World → Prop} (h : Own cellE w base l xs) (hf : -1000000 ≤ from_ ∧ from_ ≤ 1000000)
    (hK : ∀ w', Own cellE w' base l (halvesL xs from_ to) → Chg (fun k => l.blk = some k) w w' → K l w') : c_line_Line_halves l from_ to w K := by
  refine call_line_Line_halves _ _ _ ?_
  unfold sh_line_Line_halves
  refine nw_blk fun w1 hb1 hB1 hs1 => ?_
  rw [wrap64_id (x := from_ - 1) (by omega)] at hb1
  have ln : l.n = xs.length := h.rd.n
  have hne : ∀ k, l.blk = some k → k < w.heap.size := fun k hk => (h.lt k hk).2
  refine loopP_rule (fun (s : Int × Unit) w2 => ∃ k : Nat, s.1 = k ∧ k ≤ 2 ∧ Own cellE w2 base l (if k = 0 then xs else if k = 1 then halfL xs (from_ - 1) else halvesL xs from_ to) ∧ Blk w2 w.heap.size 3 [.int .i64 (from_ - 1), .int .i64 to] ∧ Chg (fun k => l.blk = some k) w w2)
    (fun s => 2 - s.1.toNat) ⟨0, rfl, by omega, h.ext hB1, hb1, Chg.of_ext hB1⟩ ?_
  rintro ⟨i, _⟩ w2 ⟨k, rfl, hk, ho, hb, hc⟩ I hI
  dsimp only at *
  refine cond_of (fun hlt => ?_) (fun hge => ?_)
  · have hlt := of_decide_eq_true hlt
    refine ⟨by omega, ?_⟩
    rw [wrap64_id (x := (k : Int) + 1) (by omega)]
    -- one round, for a list and a place
    have round : ∀ (ys zs : List Cell) (p : Int), ys.length = xs.length → Own cellE w2 base l ys → zs = halfL ys p → (∀ w3, Own cellE w3 base l zs → Chg (fun k => l.blk = some k) w2 w3 → I ((k : Int) + 1, ()) w3) →
        joinP (σ := Bool × Unit) (fun s_1 w3 =>
          cond s_1.1
            (ixK l p 5 fun t36 => ldS T_api_Attr.rep (t36.add 2) w3 fun t38 => ixK l p 5 fun t40 =>
             stK t40 [(.int .i32 0), (.int .i64 0), (.int .i64 t38.Fg), (.int .i64 t38.Bg), (.int .i64 t38.Flags)] w3 fun w4 => I ((k : Int) + 1, ()) w4)
            (I ((k : Int) + 1, ()) w3)) fun J2 =>
        cond (decide (p ≥ (0 : Int)))
          (cond (decide (p < ((l.n : Nat) : Int))) (c_line_Line_fits l p w2 fun t29 w5 => J2 ((!t29), ()) w5) (J2 (false, ()) w2)) (J2 (false, ()) w2) := by
      intro ys zs p hy ho hz hfin
      refine joinP_of fun J hJ => ?_
      have stay : zs = ys → J (false, ()) w2 := fun e => hJ _ _ (cond_f rfl (hfin _ (by rw [e]; exact ho) (Chg.refl _ _)))
      refine cond_of (fun h0 => ?_) (fun h0 => ?_)
      · have h0 : 0 ≤ p := of_decide_eq_true h0
        refine cond_of (fun h1 => ?_) (fun h1 => ?_)
        · have h1 := of_decide_eq_true h1
          rw [ln] at h1
          refine fits_spec ho.rd h0 (by omega) ?_
          cases hfit : fitsB ys p with
          | true => exact stay (by rw [hz, halfL, if_neg (by simp [hfit])])
          | false =>
            refine hJ _ _ (cond_t rfl ?_)
            have hpl : p.toNat < ys.length := by omega
            have hx : ys[p.toNat]? = some (ys[p.toNat]'hpl) := List.getElem?_eq_getElem _
            have hze : zs = ys.set p.toNat (blankC (ys[p.toNat]'hpl).A) := by
              rw [hz, halfL, if_pos ⟨h0, by omega, hfit⟩]
              simp [hx]
            refine ho.rd.ix rfl h0 (by omega) fun hc => ?_
            refine ldS_of (x := (ys[p.toNat]'hpl).A) (cell_a hc) ?_
            refine ho.rd.ix rfl h0 (by omega) fun hc => ?_
            refine ho.st0 hx (y := blankC (ys[p.toNat]'hpl).A) rfl fun w3 ho3 hg3 hs3 => ?_
            exact hfin _ (by rw [hze]; exact ho3) (Chg.of_grown hg3 fun k hk => hk)
        · have h1 := of_decide_eq_false h1
          rw [ln] at h1
          exact stay (by rw [hz, halfL, if_neg (by omega)])
      · have h0 := of_decide_eq_false h0
        exact stay (by rw [hz, halfL, if_neg (by omega)])
    have next : ∀ (zs : List Cell), zs = (if k + 1 = 0 then xs else if k + 1 = 1 then halfL xs (from_ - 1) else halvesL xs from_ to) → ∀ w3, Own cellE w3 base l zs → Chg (fun k => l.blk = some k) w2 w3 → I ((k : Int) + 1, ()) w3 := by
      intro zs hz w3 ho3 hc3
      refine hI _ _ ⟨k + 1, by simp, by omega, by rw [← hz]; exact ho3, hb.chg hc3 (fun e => ?_), hc.trans hc3 fun i hi e => e⟩ (by simp; omega)
      have := hne _ e
      omega
    rcases (show k = 0 ∨ k = 1 by omega) with rfl | rfl
    · refine ldI_of (x := from_ - 1) (by simpa using hb.cells 0 _ rfl) ?_
      exact round xs _ _ rfl ho rfl (next _ rfl)
    · refine ldI_of (x := to) (by simpa using hb.cells 1 _ rfl) ?_
      exact round (halfL xs (from_ - 1)) _ _ (halfL_length _ _) ho rfl (next _ rfl)
  · have hge := of_decide_eq_false hge
    have : k = 2 := by omega
    subst this
    exact hK _ ho hc

/-! ### Put -/
theorem Put_spec {l : Slc} {xs : List Cell} {col r width : Int} {a : Attr} {w : World} {K : Slc → Bool → World → Prop} (h : Rd cellE w l xs) (hl : xs.length ≤ 10000)
    (hK : ∀ s w', Own cellE w' w.heap.size s (putP xs col r width a) → Below w.heap.size w w' → K s (!decide (badPut xs.length col width)) w') : c_line_Line_Put l col r width a w K := by
  refine call_line_Line_Put _ _ _ _ _ ?_
  unfold sh_line_Line_Put
  refine nw_blk fun w1 hb1 hB1 hs1 => ?_
  refine Mend_spec (h.ext hB1) (by omega) fun m w2 ho2 hB2 => ?_
  have hml := mendL_length xs
  have hmn : m.n = xs.length := by have := ho2.rd.n; rwa [hml] at this
  have hln : l.n = xs.length := h.n
  have hB02 : Below w.heap.size w w2 := hB1.trans (hB2.mono (by omega))
  have hb2 := hb1.ext hB2
  have hmb : ∀ g, m.blk = some g → w.heap.size < g := fun g hg => by have := (ho2.lt g hg).1; omega
  have ho2 : Own cellE w2 w.heap.size m (mendL xs) := ho2.base (by omega)
  refine joinP_of fun J1 hJ1 => joinP_of fun J3 hJ3 => ?_
  have bad : badPut xs.length col width → J3 (true, ()) w2 := fun hb => hJ3 _ _ (cond_t rfl (by
    have := hK m w2 (by rw [putP, if_pos hb]; exact ho2) hB02
    rwa [decide_eq_true hb] at this))
  have good : ¬ badPut xs.length col width → J3 (false, ()) w2 := fun hg => hJ3 _ _ (cond_f rfl (hJ1 _ _ (by
    have hbad := hg
    unfold badPut at hg
    have hx : (mendL xs)[col.toNat]? = some ((mendL xs)[col.toNat]'(by omega)) := List.getElem?_eq_getElem _
    refine ldS_of (x := a) hb2.cells ?_
    refine ho2.rd.ix rfl (by omega) (by omega) fun _ => ?_
    refine ho2.st0 hx (y := ⟨r, 0, a⟩) rfl fun w4 ho4 hg4 hs4 => ?_
    have hB04 : Below w.heap.size w w4 := hB02.grown hg4 hB02.size fun g hg => (ho2.lt g hg).1
    have hb4 := hb2.grown hg4 (fun e => by have := hmb _ e.symm; omega)
    refine joinP_of fun J2 hJ2 => ?_
    have fin : ∀ {w5 : World}, Own cellE w5 w.heap.size m (wrotL (mendL xs) col r width a) → Below w.heap.size w w5 → J2 () w5 := fun {w5} ho5 hB5 => hJ2 _ _ (by
      rw [wrap64_id (x := col + width) (by omega)]
      refine halves_spec ho5 (by omega) fun w6 ho6 hc6 => ?_
      have := hK m w6 (by rw [putP, if_neg hbad]; exact ho6) (hB5.trans (hc6.below hB5.size fun i hi e => by have := hmb i e; omega))
      rwa [decide_eq_false hbad] at this)
    refine cond_of (fun h2 => ?_) (fun h2 => ?_)
    · have h2 := eq_of_beq h2
      subst h2
      refine ho4.rd.ix rfl (by omega) (by rw [List.length_set]; omega) fun _ => ?_
      refine ho4.st (x := ⟨r, 0, a⟩) (y := ⟨r, 1, a⟩) (by rw [List.getElem?_set_self (by omega)]) (j := 1) (by simp [cellE]) rfl fun w7 ho7 hg7 hs7 => ?_
      rw [List.set_set] at ho7
      have hB07 := hB04.grown hg7 hB04.size fun g hg => (ho2.lt g hg).1
      have hb7 := hb4.grown hg7 (fun e => by have := hmb _ e.symm; omega)
      refine ldS_of (x := a) hb7.cells ?_
      rw [wrap64_id (x := col + 1) (by omega)]
      refine ho7.rd.ix rfl (by omega) (by rw [List.length_set]; omega) fun _ => ?_
      refine ho7.st0 (x := ((mendL xs).set col.toNat ⟨r, 1, a⟩)[(col + 1).toNat]'(by rw [List.length_set]; omega)) (List.getElem?_eq_getElem _) (y := ⟨0, 2, a⟩) rfl fun w8 ho8 hg8 hs8 => ?_
      refine fin ?_ (hB07.grown hg8 hB07.size fun g hg => (ho2.lt g hg).1)
      rw [wrotL, if_pos rfl]
      exact ho8
    · have h2 := beq_eq_false_iff_ne.1 h2
      refine fin ?_ hB04
      rw [wrotL, if_neg h2]
      exact ho4)))
  refine cond_of (fun h1 => bad (.inl (of_decide_eq_true h1))) (fun h1 => ?_)
  refine cond_of (fun h2 => bad (.inr (.inl (of_decide_eq_true h2)))) (fun h2 => ?_)
  refine cond_of (fun h3 => bad (.inr (.inr (.inl (of_decide_eq_true h3))))) (fun h3 => ?_)
  have h1 := of_decide_eq_false h1
  have h2 := of_decide_eq_false h2
  have h3 := of_decide_eq_false h3
  rw [hln, wrap64_id (by omega)]
  by_cases h4 : col > (xs.length : Int) - width
  · rw [decide_eq_true h4]; exact bad (.inr (.inr (.inr h4)))
  · rw [decide_eq_false h4]; exact good (by unfold badPut; omega)

/-! ### many, Concat -/
theorem many_spec {l : Slc} {n : Nat} {col k : Int} {w : World} {K : Int → World → Prop} (hn : l.n = n) (hl : n ≤ 1000000) (hK : K (manyL n col k) w) : c_line_Line_many l col k w K := by
  refine call_line_Line_many _ _ _ ?_
  unfold sh_line_Line_many
  refine joinP_of fun J hJ => ?_
  rw [hn]
  have no : (k < 1 ∨ col < 0 ∨ col ≥ n) → K 0 w := fun h => by rwa [manyL, if_pos h] at hK
  refine cond_of (fun h => no (.inl (of_decide_eq_true h))) (fun h1 => ?_)
  refine cond_of (fun h => no (.inr (.inl (of_decide_eq_true h)))) (fun h2 => ?_)
  refine cond_of (fun h => no (.inr (.inr (of_decide_eq_true h)))) (fun h3 => ?_)
  have h1 := of_decide_eq_false h1
  have h2 := of_decide_eq_false h2
  have h3 := of_decide_eq_false h3
  refine hJ _ _ ?_
  rw [manyL, if_neg (by omega)] at hK
  rw [hn, wrap64_id (by omega)]
  have e : (if (n : Int) - col < k then (n : Int) - col else k) = min k (n - col) := by omega
  rw [e]
  exact hK

theorem Grow_nil {n : Int} {w : World} {K : Slc → World → Prop} (h0 : 0 ≤ n) (hn : n ≤ 1000000) (hK : ∀ r w', Own cellE w' w.heap.size r [] → Below w.heap.size w w' → K r w') : c_slices_Grow_line_Line_api_Cell (⟨none, 0, 0⟩ : Slc) n w K := by
  refine call_slices_Grow_line_Line_api_Cell _ _ ?_
  unfold sh_slices_Grow_line_Line_api_Cell
  refine joinP_of fun J hJ => ?_
  refine cond_f (by simpa using h0) (hJ _ _ ?_)
  have hw : IntKind.i64.wrap (n - (IntKind.i64.wrap (((0 : Nat) : Int) - ((0 : Nat) : Int)))) = n := by
    rw [wrap64_id (x := ((0 : Nat) : Int) - ((0 : Nat) : Int)) (by omega), wrap64_id (by omega)]
    omega
  simp only [hw]
  refine cond_of (fun h => ?_) (fun h => ?_)
  · have h := of_decide_eq_true h
    refine bnd_some (by omega) (by omega) (bnd_none ?_)
    refine apM_nil slT25 (kk := .i64) (by kernel_rfl) (n := n.toNat) (by omega) (by omega) (by simp only [maxLen]; omega) (by rw [by25]; omega) fun cap w' h1 h2 ho hB => ?_
    refine bnd_some (by omega) (by simp) (bnd_none ?_)
    have e : cut (some ⟨w.heap.size, 0, none⟩) 0 cap 5 = some ⟨w.heap.size, 0, none⟩ := by
      unfold cut
      split
      · rfl
      · simp
    show K ⟨cut (some ⟨w.heap.size, 0, none⟩) 0 cap 5, 0, cap⟩ w'
    rw [e]
    exact hK _ _ ho hB
  · exact hK _ _ (Own.nil _ _ _) (Below.refl _ _)

/-- A list of slices as a row. -/
def slE : El Slc where
  cells s := [.slice s.a s.n s.c]
  t := 25
  k := 1
  pos := by decide
  len _ := rfl
  one x v hv := by
    simp only [List.mem_cons, List.mem_nil_iff, or_false] at hv
    rcases hv with rfl
    rfl

/-- Many slices that read as many lists. -/
def RdAll (w : World) (ss : List Slc) (xss : List (List Cell)) : Prop := ss.length = xss.length ∧ ∀ (i : Nat) s xs, ss[i]? = some s → xss[i]? = some xs → Rd cellE w s xs

theorem sum_take_le (xss : List (List Cell)) (k : Nat) : (xss.take k).flatten.length ≤ xss.flatten.length := by
  conv => rhs; rw [← List.take_append_drop k xss]
  rw [List.flatten_append, List.length_append]
  omega
theorem flatten_take {xss : List (List Cell)} {k : Nat} {xs : List Cell} (h : xss[k]? = some xs) : (xss.take (k + 1)).flatten = (xss.take k).flatten ++ xs := by
  rw [List.take_add_one, h]
  simp

theorem Concat_spec {p : Slc} {ss : List Slc} {xss : List (List Cell)} {w : World} {K : Slc → World → Prop} (hp : Rd slE w p ss) (hss : RdAll w ss xss) (hl : xss.flatten.length ≤ 1000000) (hn : ss.length ≤ 1000000)
    (hK : ∀ r w', Own cellE w' w.heap.size r xss.flatten → Below w.heap.size w w' → K r w') : c_slices_Concat_line_Line_api_Cell p w K := by
  refine call_slices_Concat_line_Line_api_Cell _ ?_
  unfold sh_slices_Concat_line_Line_api_Cell
  have hpn := hp.n
  obtain ⟨hsl, hss⟩ := hss
  refine loopP_rule (fun (s : Int × Int × Unit) w2 => ∃ k : Nat, s.2.1 = k ∧ k ≤ ss.length ∧ s.1 = ((xss.take k).flatten.length : Nat) ∧ w2 = w) (fun s => ss.length - s.2.1.toNat) ⟨0, rfl, by omega, rfl, rfl⟩ ?_
  rintro ⟨t, i, _⟩ w2 ⟨k, rfl, hk, rfl, rfl⟩ I hI
  dsimp only at *
  have hle := sum_take_le xss
  refine cond_of (fun hlt => ?_) (fun hge => ?_)
  · have hlt := of_decide_eq_true hlt
    rw [hpn] at hlt
    have hkl : k < ss.length := by omega
    have hx : ss[k]? = some ss[k] := List.getElem?_eq_getElem hkl
    have hy : xss[k]? = some (xss[k]'(by omega)) := List.getElem?_eq_getElem _
    refine hp.ix rfl (by omega) (by omega) fun hc => ?_
    refine ldSl_of (x := ss[k]) (by simpa using hc 0 _ rfl) ?_
    have hr := hss k _ _ hx hy
    have hrn := hr.n
    have hf := flatten_take hy
    have h1 := hle (k + 1)
    rw [hf, List.length_append] at h1
    rw [hrn, wrap64_id (by omega)]
    refine cond_f (by simp; omega) ?_
    rw [wrap64_id (by omega)]
    exact hI _ _ ⟨k + 1, by simp, by omega, by rw [hf]; simp, rfl⟩ (by simp; omega)
  · have hge := of_decide_eq_false hge
    rw [hpn] at hge
    have : k = ss.length := by omega
    subst this
    have h1 := hle ss.length
    refine Grow_nil (by omega) (by omega) fun g w3 ho3 hB3 => ?_
    refine loopP_rule (fun (s : Slc × Int × Unit) w4 => ∃ k : Nat, s.2.1 = k ∧ k ≤ ss.length ∧ Own cellE w4 w2.heap.size s.1 ((xss.take k).flatten) ∧ Below w2.heap.size w2 w4) (fun s => ss.length - s.2.1.toNat) ⟨0, rfl, by omega, by simpa using ho3, hB3⟩ ?_
    rintro ⟨t, i, _⟩ w4 ⟨k, rfl, hk, ho, hB⟩ I2 hI2
    dsimp only at *
    refine cond_of (fun hlt => ?_) (fun hge => ?_)
    · have hlt := of_decide_eq_true hlt
      rw [hpn] at hlt
      have hkl : k < ss.length := by omega
      have hx : ss[k]? = some ss[k] := List.getElem?_eq_getElem hkl
      have hy : xss[k]? = some (xss[k]'(by omega)) := List.getElem?_eq_getElem _
      refine (hp.ext hB).ix rfl (by omega) (by omega) fun hc => ?_
      refine ldSl_of (x := ss[k]) (by simpa using hc 0 _ rfl) ?_
      have hr := (hss k _ _ hx hy).ext hB
      have hf := flatten_take hy
      have h1 := hle (k + 1)
      rw [hf, List.length_append] at h1
      refine apK_own slT25 ho hr hB.size (by rw [by25]; omega) (by simp only [maxLen]; omega) fun r w5 ho5 hg5 hr5 => ?_
      rw [wrap64_id (by omega)]
      exact hI2 _ _ ⟨k + 1, by simp, by omega, by rw [hf]; exact ho5, hB.grown hg5 hB.size fun g hg => (ho.lt g hg).1⟩ (by simp; omega)
    · have hge := of_decide_eq_false hge
      rw [hpn] at hge
      have : k = ss.length := by omega
      subst this
      rw [hsl, List.take_length] at ho
      exact hK _ _ ho hB

/-! ### Insert, Delete, Erase, Resize -/
theorem manyL_bounds {n : Nat} {col k : Int} : 0 ≤ manyL n col k ∧ (manyL n col k ≠ 0 → 0 ≤ col ∧ col + manyL n col k ≤ n) := by
  unfold manyL
  split
  · exact ⟨Int.le_refl _, fun h => absurd rfl h⟩
  · exact ⟨by omega, fun _ => ⟨by omega, by omega⟩⟩

theorem rdAll3 {w : World} {a b c : Slc} {xs ys zs : List Cell} (ha : Rd cellE w a xs) (hb : Rd cellE w b ys) (hc : Rd cellE w c zs) : RdAll w [a, b, c] [xs, ys, zs] := by
  refine ⟨rfl, fun i s l hs hl => ?_⟩
  match i, hs, hl with
  | 0, hs, hl => cases hs; cases hl; exact ha
  | 1, hs, hl => cases hs; cases hl; exact hb
  | 2, hs, hl => cases hs; cases hl; exact hc
  | i + 3, hs, hl => cases hs
theorem rdAll2 {w : World} {a b : Slc} {xs ys : List Cell} (ha : Rd cellE w a xs) (hb : Rd cellE w b ys) : RdAll w [a, b] [xs, ys] := by
  refine ⟨rfl, fun i s l hs hl => ?_⟩
  match i, hs, hl with
  | 0, hs, hl => cases hs; cases hl; exact ha
  | 1, hs, hl => cases hs; cases hl; exact hb
  | i + 2, hs, hl => cases hs
/-- A row that was laid for a list of arguments. -/
theorem rd_lits {T : Type} {E : El T} {w : World} {g : Nat} {ys : List T} {vs : List Value} (hb : Blk w g E.t vs) (hm : ys.length ≤ maxLen) (hy : flat E ys = vs) : Rd E w ⟨some ⟨g, 0, none⟩, ys.length, ys.length⟩ ys :=
  (Own.of_blk (E := E) (base := 0) (Nat.zero_le _) hb (Nat.le_refl _) hm (by rw [← hy, flat_length]) (by rw [← hy, List.take_of_length_le (by rw [flat_length]; exact Nat.le_refl _)])).rd

theorem Insert_spec {l : Slc} {xs : List Cell} {col k : Int} {a : Attr} {w : World} {K : Slc → World → Prop} (h : Rd cellE w l xs) (hl : xs.length ≤ 10000)
    (hK : ∀ s w', Own cellE w' w.heap.size s (insL xs col k a) → Below w.heap.size w w' → K s w') : c_line_Line_Insert l col k a w K := by
  refine call_line_Line_Insert _ _ _ _ ?_
  unfold sh_line_Line_Insert
  refine nw_blk fun w1 hb1 hB1 hs1 => ?_
  refine Mend_spec (h.ext hB1) (by omega) fun m w2 ho2 hB2 => ?_
  have hml := mendL_length xs
  have hln : l.n = xs.length := h.n
  have hB02 : Below w.heap.size w w2 := hB1.trans (hB2.mono (by omega))
  have hb2 := hb1.ext hB2
  have ho2 : Own cellE w2 w.heap.size m (mendL xs) := ho2.base (by omega)
  obtain ⟨hc0, hc1⟩ := manyL_bounds (n := xs.length) (col := col) (k := k)
  refine many_spec hln (by omega) ?_
  unfold insL at hK
  generalize manyL xs.length col k = c at *
  refine cond_of (fun e => ?_) (fun e => ?_)
  · have e := eq_of_beq e
    simp only [if_pos e] at hK
    exact hK _ _ ho2 hB02
  · have e := beq_eq_false_iff_ne.1 e
    simp only [if_neg e] at hK
    obtain ⟨hc1, hc2⟩ := hc1 e
    refine ho2.rd.slK (l := 0) (m := col.toNat) rfl (.inl ⟨rfl, rfl⟩) (.inr (by simp; omega)) (by omega) (by omega) fun hp => ?_
    refine ldS_of (x := a) hb2.drew.cells ?_
    rw [hln, wrap64_id (by omega)]
    refine ho2.rd.slK (l := col.toNat) (m := xs.length - c.toNat) rfl (.inr (by simp; omega)) (.inr (by simp; omega)) (by omega) (by omega) fun hq => ?_
    refine blanks_spec (by omega) fun b w4 ho4 hB4 => ?_
    have hB04 : Below w.heap.size w w4 := hB02.drew.trans (hB4.mono hB02.size)
    refine nw_blk fun w5 hb5 hB5 hs5 => ?_
    have hB05 : Below w.heap.size w w5 := hB04.trans (hB5.mono hB04.size)
    have hB45 : Below w2.drew.heap.size w2.drew w5 := hB4.trans (hB5.mono hB4.size)
    have hA := rdAll3 (hp.drew.ext hB45) (ho4.rd.ext hB5) (hq.drew.ext hB45)
    refine Concat_spec ?_ hA ?_ (by simp) fun r w6 ho6 hB6 => ?_
    · exact rd_lits (E := slE) (ys := [_, _, _]) hb5 (by simp [maxLen]) rfl
    · simp only [List.flatten_cons, List.flatten_nil, List.length_append, List.length_nil, List.length_drop, List.length_take, List.length_replicate]
      omega
    have hB06 : Below w.heap.size w w6 := hB05.trans (hB6.mono hB05.size)
    refine Mend_spec ho6.rd ?_ fun s w7 ho7 hB7 => ?_
    · simp only [List.flatten_cons, List.flatten_nil, List.length_append, List.length_nil, List.length_drop, List.length_take, List.length_replicate]
      omega
    refine hK s w7 ?_ (hB06.trans (hB7.mono hB06.size))
    simp only [List.flatten_cons, List.flatten_nil, List.append_nil, List.drop_zero, ← List.append_assoc] at ho7
    exact ho7.base hB06.size

theorem Delete_spec {l : Slc} {xs : List Cell} {col k : Int} {a : Attr} {w : World} {K : Slc → World → Prop} (h : Rd cellE w l xs) (hl : xs.length ≤ 10000)
    (hK : ∀ s w', Own cellE w' w.heap.size s (delL xs col k a) → Below w.heap.size w w' → K s w') : c_line_Line_Delete l col k a w K := by
  refine call_line_Line_Delete _ _ _ _ ?_
  unfold sh_line_Line_Delete
  refine nw_blk fun w1 hb1 hB1 hs1 => ?_
  refine Mend_spec (h.ext hB1) (by omega) fun m w2 ho2 hB2 => ?_
  have hml := mendL_length xs
  have hln : l.n = xs.length := h.n
  have hB02 : Below w.heap.size w w2 := hB1.trans (hB2.mono (by omega))
  have hb2 := hb1.ext hB2
  have ho2 : Own cellE w2 w.heap.size m (mendL xs) := ho2.base (by omega)
  obtain ⟨hc0, hc1⟩ := manyL_bounds (n := xs.length) (col := col) (k := k)
  refine many_spec hln (by omega) ?_
  unfold delL at hK
  generalize manyL xs.length col k = c at *
  refine cond_of (fun e => ?_) (fun e => ?_)
  · have e := eq_of_beq e
    simp only [if_pos e] at hK
    exact hK _ _ ho2 hB02
  · have e := beq_eq_false_iff_ne.1 e
    simp only [if_neg e] at hK
    obtain ⟨hc1, hc2⟩ := hc1 e
    refine ho2.rd.slK (l := 0) (m := col.toNat) rfl (.inl ⟨rfl, rfl⟩) (.inr (by simp; omega)) (by omega) (by omega) fun hp => ?_
    rw [wrap64_id (by omega)]
    refine ho2.rd.slK (l := (col + c).toNat) (m := (mendL xs).length) rfl (.inr (by simp; omega)) (.inl ⟨rfl, rfl⟩) (by omega) (by omega) fun hq => ?_
    refine ldS_of (x := a) hb2.drew.cells ?_
    refine blanks_spec (by omega) fun b w4 ho4 hB4 => ?_
    have hB04 : Below w.heap.size w w4 := hB02.drew.trans (hB4.mono hB02.size)
    refine nw_blk fun w5 hb5 hB5 hs5 => ?_
    have hB05 : Below w.heap.size w w5 := hB04.trans (hB5.mono hB04.size)
    have hB45 : Below w2.drew.heap.size w2.drew w5 := hB4.trans (hB5.mono hB4.size)
    have hA := rdAll3 (hp.drew.ext hB45) (hq.drew.ext hB45) (ho4.rd.ext hB5)
    refine Concat_spec ?_ hA ?_ (by simp) fun r w6 ho6 hB6 => ?_
    · exact rd_lits (E := slE) (ys := [_, _, _]) hb5 (by simp [maxLen]) rfl
    · simp only [List.flatten_cons, List.flatten_nil, List.length_append, List.length_nil, List.length_drop, List.length_take, List.length_replicate]
      omega
    have hB06 : Below w.heap.size w w6 := hB05.trans (hB6.mono hB05.size)
    refine Mend_spec ho6.rd ?_ fun s w7 ho7 hB7 => ?_
    · simp only [List.flatten_cons, List.flatten_nil, List.length_append, List.length_nil, List.length_drop, List.length_take, List.length_replicate]
      omega
    refine hK s w7 ?_ (hB06.trans (hB7.mono hB06.size))
    simp only [List.flatten_cons, List.flatten_nil, List.append_nil, List.drop_zero, List.take_length, ← List.append_assoc] at ho7
    exact ho7.base hB06.size

theorem Resize_spec {l : Slc} {xs : List Cell} {cols : Int} {w : World} {K : Slc → World → Prop} (h : Rd cellE w l xs) (hl : xs.length ≤ 10000)
    (hK : ∀ s w', Own cellE w' w.heap.size s (resL xs cols) → Below w.heap.size w w' → K s w') : c_line_Line_Resize l cols w K := by
  refine call_line_Line_Resize _ _ ?_
  unfold sh_line_Line_Resize
  refine Mend_spec h (by omega) fun m w2 ho2 hB2 => ?_
  have hml := mendL_length xs
  have hmn : m.n = xs.length := by have := ho2.rd.n; rwa [hml] at this
  have e1 : (if (0 : Int) > cols then (0 : Int) else cols) = max 0 cols := by omega
  have e2 : (if (1000 : Int) < max 0 cols then (1000 : Int) else max 0 cols) = min 1000 (max 0 cols) := by omega
  rw [e1, e2, hmn]
  unfold resL at hK
  have hc : 0 ≤ min 1000 (max 0 cols) := by omega
  have hc' : min 1000 (max 0 cols) ≤ 1000 := by omega
  generalize min 1000 (max 0 cols) = c at *
  refine cond_of (fun e => ?_) (fun e => ?_)
  · have e := of_decide_eq_true e
    simp only [if_pos e] at hK
    refine ho2.rd.slK (l := 0) (m := c.toNat) rfl (.inl ⟨rfl, rfl⟩) (.inr (by simp; omega)) (by omega) (by omega) fun hp => ?_
    refine Mend_spec hp ?_ fun s w3 ho3 hB3 => hK s w3 ?_ (hB2.trans (hB3.mono hB2.size))
    · simp; omega
    · rw [List.drop_zero] at ho3
      exact ho3.base hB2.size
  · have e := of_decide_eq_false e
    simp only [if_neg e] at hK
    rw [wrap64_id (by omega)]
    refine blanks_spec (by omega) fun b w3 ho3 hB3 => ?_
    have hB03 : Below w.heap.size w w3 := hB2.trans (hB3.mono hB2.size)
    refine nw_blk fun w5 hb5 hB5 hs5 => ?_
    have hB05 : Below w.heap.size w w5 := hB03.trans (hB5.mono hB03.size)
    have hA := rdAll2 ((ho2.rd.ext hB3).ext hB5) (ho3.rd.ext hB5)
    refine Concat_spec ?_ hA ?_ (by simp) fun r w6 ho6 hB6 => ?_
    · exact rd_lits (E := slE) (ys := [_, _]) hb5 (by simp [maxLen]) (by rw [← hmn]; rfl)
    · simp only [List.flatten_cons, List.flatten_nil, List.length_append, List.length_nil, List.length_replicate]
      omega
    refine hK r w6 ?_ (hB05.trans (hB6.mono hB05.size))
    simp only [List.flatten_cons, List.flatten_nil, List.append_nil] at ho6
    exact ho6.base hB05.size

theorem Erase_spec {l : Slc} {xs : List Cell} {from_ to : Int} {a : Attr} {w : World} {K : Slc → World → Prop} (h : Rd cellE w l xs) (hl : xs.length ≤ 10000)
    (hK : ∀ s w', Own cellE w' w.heap.size s (eraP xs from_ to a) → Below w.heap.size w w' → K s w') : c_line_Line_Erase l from_ to a w K := by
  refine call_line_Line_Erase _ _ _ _ ?_
  unfold sh_line_Line_Erase
  refine nw_blk fun w1 hb1 hB1 hs1 => ?_
  refine Mend_spec (h.ext hB1) (by omega) fun m w2 ho2 hB2 => ?_
  have hml := mendL_length xs
  have hln : l.n = xs.length := h.n
  have hB02 : Below w.heap.size w w2 := hB1.trans (hB2.mono (by omega))
  have hb2 := hb1.ext hB2
  have hmb : ∀ g, m.blk = some g → w.heap.size < g := fun g hg => by have := (ho2.lt g hg).1; omega
  have ho2 : Own cellE w2 w.heap.size m (mendL xs) := ho2.base (by omega)
  have e1 : (if (0 : Int) > from_ then (0 : Int) else from_) = max 0 from_ := by omega
  have e2 : (if ((l.n : Nat) : Int) < to then ((l.n : Nat) : Int) else to) = min (xs.length : Int) to := by rw [hln]; omega
  rw [e1, e2]
  unfold eraP at hK
  have hlo : 0 ≤ max 0 from_ := by omega
  have hhi : min (xs.length : Int) to ≤ xs.length := by omega
  generalize max 0 from_ = lo at *
  generalize min (xs.length : Int) to = hi at *
  refine cond_of (fun e => ?_) (fun e => ?_)
  · have e := of_decide_eq_true e
    simp only [if_pos e] at hK
    exact hK _ _ ho2 hB02
  · have e := of_decide_eq_false e
    simp only [if_neg e] at hK
    refine loopP_rule (fun (s : Int × Unit) w3 => ∃ k : Nat, s.1 = k ∧ lo.toNat ≤ k ∧ k ≤ hi.toNat ∧ Own cellE w3 w.heap.size m (fillL (mendL xs) lo.toNat k (blankC a)) ∧ Blk w3 w.heap.size 23 (T_api_Attr.rep.cells a) ∧ Below w.heap.size w w3)
      (fun s => hi.toNat - s.1.toNat) ⟨lo.toNat, by simp; omega, by omega, by omega, by rw [fillL_none]; exact ho2, hb2, hB02⟩ ?_
    rintro ⟨i, _⟩ w3 ⟨k, rfl, hk1, hk2, ho, hb, hB⟩ I hI
    dsimp only at *
    have hfl := fillL_length (mendL xs) lo.toNat k (blankC a)
    refine cond_of (fun hlt => ?_) (fun hge => ?_)
    · have hlt := of_decide_eq_true hlt
      refine ldS_of (x := a) hb.cells ?_
      refine ho.rd.ix rfl (by omega) (by omega) fun _ => ?_
      refine ho.st0 (x := (fillL (mendL xs) lo.toNat k (blankC a))[((k : Int)).toNat]'(by omega)) (List.getElem?_eq_getElem _) (y := blankC a) rfl fun w4 ho4 hg4 hs4 => ?_
      rw [wrap64_id (by omega)]
      refine hI _ _ ⟨k + 1, by simp, by omega, by omega, ?_, hb.grown hg4 (fun e => by have := hmb _ e.symm; omega), hB.grown hg4 hB.size fun g hg => (ho.lt g hg).1⟩ (by simp; omega)
      rw [show ((k : Int)).toNat = k from rfl, fillL_set hk1] at ho4
      exact ho4
    · have hge := of_decide_eq_false hge
      have : k = hi.toNat := by omega
      subst this
      refine halves_spec ho (by omega) fun w6 ho6 hc6 => ?_
      exact hK m w6 ho6 (hB.trans (hc6.below hB.size fun i hi e => by have := hmb i e; omega))

end Go.Proofs.YtgejghejnibocaaDoor
