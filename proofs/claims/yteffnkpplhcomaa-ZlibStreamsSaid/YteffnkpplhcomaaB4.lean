/- The program's tables of codes: New, Read, Code, Fixed. -/
import Derived.Test.YteffnkpplhcomaaB3
namespace Go.Proofs.Yteffnkpplhcomaa
open Go.Vc Go.RowKit

def badRoom (ls : List UInt8) : Prop := ¬ (roomN ls = 32768 ∨ roomN ls = 0 ∨ (roomN ls = 16384 ∧ cntK ls 1 = 1))
instance (ls : List UInt8) : Decidable (badRoom ls) := by unfold badRoom; infer_instance
def badLens (ls : List UInt8) : Prop := ls.length > 320 ∨ ∃ x ∈ ls, 15 < x.toNat

theorem New_rest {s : Slc} {ls : List UInt8} {w w4 : World} {t13 t16 : Slc} {g : Nat} {K : Option Addr → Int → World → Prop} (h : Rd E_uint8 w s ls) (hsm : ls.length ≤ 320) (hB : Below w.heap.size w w4) (ho13 : Own E_uint8 w4 w.heap.size t13 ls) (ho16 : Own E_uint32 w4 w.heap.size t16 (List.replicate ls.length 0))
    (hb : Blk w4 g ty_huff_Table (tabCells (fun _ => 0) ⟨none, 0, 0⟩ t16 t13 0)) (hg : w.heap.size ≤ g)
    (hK1 : badLens ls → ∀ w', Below w.heap.size w w' → K none 1 w') (hK2 : ¬ badLens ls → badRoom ls → ∀ w', Below w.heap.size w w' → K none 3 w')
    (hK3 : ¬ badLens ls → ¬ badRoom ls → ∀ f w', TabM w' w.heap.size f ls → Below w.heap.size w w' → K (some ⟨f.g, 0, none⟩) 0 w') :
    loopP (σ := Int × Unit) (fun I1 s_1 w5 =>
             cond (decide (s_1.1 < ((s.n : Nat) : Int)))
               (ixK s s_1.1 1 fun t23 =>
                ldI .u8 t23 w5 fun t24 =>
                cond (decide (t24 > (15 : Int)))
                  (K none 1 w5)
                  (cond (decide (t24 > (0 : Int)))
                     (ixA ((⟨g, 0, none⟩ : Addr).add 0) 16 t24 1 fun t33 =>
                      ldI .i64 t33 w5.drew fun t34 =>
                      ixA ((⟨g, 0, none⟩ : Addr).add 0) 16 t24 1 fun t38 =>
                      stK t38 [(.int .i64 (IntKind.i64.wrap (t34 + (1 : Int))))] w5.drew fun w6 =>
                      ldI .i64 ((⟨g, 0, none⟩ : Addr).add 19) w6 fun t43 =>
                      stK ((⟨g, 0, none⟩ : Addr).add 19) [(.int .i64 (if (IntKind.i64.wrap t24) > t43 then (IntKind.i64.wrap t24) else t43))] w6 fun w7 =>
                      I1 ((IntKind.i64.wrap (s_1.1 + (1 : Int))), ()) w7)
                     (I1 ((IntKind.i64.wrap (s_1.1 + (1 : Int))), ()) w5)))
               (joinP (σ := Unit) (fun s_1 w8 =>
                  c_huff_Table_deal (some (⟨g, 0, none⟩ : Addr)) w8 fun w9 =>
                  K (some (⟨g, 0, none⟩ : Addr)) 0 w9) fun J2 =>
                c_huff_room s w5 fun t51 w10 =>
                cond (t51 != (32768 : Int))
                  (cond (t51 != (0 : Int))
                     (cond (t51 == (16384 : Int))
                        (ixA ((⟨g, 0, none⟩ : Addr).add 0) 16 1 1 fun t65 =>
                         ldI .i64 t65 w10 fun t66 =>
                         cond (!(t66 == (1 : Int)))
                           (K none 3 w10)
                           (J2 (()) w10))
                        (K none 3 w10))
                     (J2 (()) w10))
                  (J2 (()) w10))) (0, ()) w4 := by
  rw [h.n]
  have hs4 := hB.size
  refine loopP_rule (fun (s : Int × Unit) w5 => ∃ i : Nat, s.1 = i ∧ i ≤ ls.length ∧ Blk w5 g ty_huff_Table (tabCells (cntK (ls.take i)) ⟨none, 0, 0⟩ t16 t13 (lastK (ls.take i))) ∧ Chg (fun k => k = g) w4 w5 ∧ (∀ x ∈ ls.take i, x.toNat ≤ 15)) (fun s => ls.length - s.1.toNat)
    ⟨0, rfl, by omega, ?_, Chg.refl _ _, fun x hx => by simp at hx⟩ ?_
  · have e : cntK ([] : List UInt8) = fun _ => 0 := funext fun k => cntK_nil k
    rw [List.take_zero, e]
    exact hb
  rintro ⟨i, _⟩ w5 ⟨i, rfl, hi, hb5, hc5, hsm5⟩ I hI
  dsimp only at *
  have hB5 : Below w.heap.size w w5 := hB.trans (hc5.below hs4 fun j hj e => by omega)
  refine cond_of (fun hlt => ?_) (fun hge => ?_)
  · have hlt := of_decide_eq_true hlt
    obtain ⟨x, hx, hxs⟩ := get_of (xs := ls) (k := i) (by omega)
    refine (h.ext hB5).ix rfl (by omega) (by omega) fun hc => ?_
    rw [hxs] at hc
    refine ldB8 (b := x) hc ?_
    have h8 := x.toNat_lt
    refine cond_of (fun hbig => ?_) (fun hsmall => ?_)
    · have hbig := of_decide_eq_true hbig
      exact hK1 (.inr ⟨x, List.mem_of_getElem? hx, by omega⟩) _ hB5
    · have hsmall := of_decide_eq_false hsmall
      have ht : ls.take (i + 1) = ls.take i ++ [x] := by rw [List.take_add_one, hx]; rfl
      have hsm' : ∀ y ∈ ls.take (i + 1), y.toNat ≤ 15 := fun y hy => by
        rw [ht] at hy
        rcases List.mem_append.1 hy with hy | hy
        · exact hsm5 y hy
        · rw [List.mem_singleton.1 hy]; omega
      have hlast : lastK (ls.take (i + 1)) = max (lastK (ls.take i)) x.toNat := by rw [ht, lastK_append]
      have hl15 := lastK_le hsm5
      refine cond_of (fun hpos => ?_) (fun hzero => ?_)
      · have hpos := of_decide_eq_true hpos
        have hcn := cntK_le (ls.take i) x.toNat
        simp only [List.length_take] at hcn
        refine ⟨⟨by omega, by omega⟩, ?_⟩
        have hcell : ∀ {w' : World} {f : Nat → Nat} {so co lo : Slc} {la : Nat}, Blk w' g ty_huff_Table (tabCells f so co lo la) → w'.cell? (((⟨g, 0, none⟩ : Addr).add 0).add (((x.toNat : Nat) : Int).toNat * 1)) = some (.int .i64 (f x.toNat)) := fun hb => by
          have := hb.cells x.toNat _ (tab_get _ _ _ _ _ _ (by omega : x.toNat < 16))
          simpa using this
        refine ldI_of (x := ((cntK (ls.take i) x.toNat : Nat) : Int)) (hcell hb5.drew) ?_
        refine ⟨⟨by omega, by omega⟩, ?_⟩
        rw [wrap64_id (x := ((cntK (ls.take i) x.toNat : Nat) : Int) + 1) (by omega)]
        have ea : (((⟨g, 0, none⟩ : Addr).add 0).add (((x.toNat : Nat) : Int).toNat * 1)) = ⟨g, x.toNat, none⟩ := by
          rw [add_zero, add_mk]; simp
        rw [ea]
        refine stK_blk hb5.drew (by rw [tab_len]; show x.toNat + 1 ≤ 20; omega) fun w6 hb6 hg6 hs6 => ?_
        have e1 : ((cntK (ls.take i) x.toNat : Nat) : Int) + 1 = ((cntK (ls.take i) x.toNat + 1 : Nat) : Int) := rfl
        rw [e1, tab_put _ _ _ _ _ _ _ (by omega)] at hb6
        refine ldI_of (x := ((lastK (ls.take i) : Nat) : Int)) (hb6.cells 19 _ rfl) ?_
        rw [wrap_nat .i64 (x := x.toNat) (by show _ < 2 ^ 63; omega), add_mk]
        refine stK_blk hb6 (by rw [tab_len]; show 0 + 19 + 1 ≤ 20; decide) fun w7 hb7 hg7 hs7 => ?_
        rw [wrap64_id (by omega)]
        refine hI _ _ ⟨i + 1, by simp, by omega, ?_, ?_, hsm'⟩ (by simp; omega)
        · have ef : cntK (ls.take (i + 1)) = fun j => if j = x.toNat then cntK (ls.take i) x.toNat + 1 else cntK (ls.take i) j := funext fun j => by
            rw [cntK_take_succ ls j i hx]
            by_cases hj : j = x.toNat
            · subst hj
              rw [if_pos ⟨by omega, rfl⟩, if_pos rfl]
            · rw [if_neg (fun hh => hj hh.2.symm), if_neg hj]
          have em : (if ((x.toNat : Nat) : Int) > ((lastK (ls.take i) : Nat) : Int) then ((x.toNat : Nat) : Int) else ((lastK (ls.take i) : Nat) : Int)) = ((lastK (ls.take (i + 1)) : Nat) : Int) := by
            rw [hlast]
            split <;> omega
          rw [em] at hb7
          rw [ef]
          exact hb7
        · exact ((hc5.trans (Chg.of_ext (S := fun k => k = g) ((Below.refl _ w5).drew)) fun i _ hi => hi).trans (Chg.gg hg6) fun i _ hi => hi).trans (Chg.gg hg7) fun i _ hi => hi
      · have hzero := of_decide_eq_false hzero
        have hx0 : x.toNat = 0 := by omega
        rw [wrap64_id (by omega)]
        refine hI _ _ ⟨i + 1, by simp, by omega, ?_, hc5, hsm'⟩ (by simp; omega)
        have ef : cntK (ls.take (i + 1)) = cntK (ls.take i) := funext fun j => by
          rw [cntK_take_succ ls j i hx, if_neg (fun hh => hh.1 (by omega))]
        rw [ef, hlast, hx0, Nat.max_zero]
        exact hb5
  · have hge := of_decide_eq_false hge
    have : i = ls.length := by omega
    subst this
    rw [List.take_length] at hb5 hsm5
    have hgood : ¬ badLens ls := by
      rintro (h1 | ⟨x, hx, h2⟩)
      · omega
      · have := hsm5 x hx; omega
    clear hI I hK1
    refine joinP_of fun J hJ => ?_
    have hr := roomN_le ls
    refine room_spec (h.ext hB5) (by omega) ?_
    have co5 : Own E_uint32 w5 w.heap.size t16 (List.replicate ls.length 0) := ho16.chg hc5 fun j hj e => by
      obtain ⟨cs, hcs⟩ := ho16.blk_t hj
      exact hcs.ne_t hb (by decide) e
    have lo5 : Own E_uint8 w5 w.heap.size t13 ls := ho13.chg hc5 fun j hj e => by
      obtain ⟨cs, hcs⟩ := ho13.blk_t hj
      exact hcs.ne_t hb (by decide) e
    have good : roomN ls ≤ 32768 → ¬ badRoom ls → J () w5 := fun h1 h2 => hJ _ _ (by
      refine deal_spec hb5 hg co5 lo5 hsm hsm5 h1 hB5.size fun so w9 ht hc9 => ?_
      refine hK3 hgood h2 ⟨g, so, t16, t13⟩ w9 ht (hB5.trans (hc9.below hB5.size fun j hj hs => ?_))
      rcases hs with e | e
      · omega
      · have := (ho16.lt j e).1; omega)
    refine cond_of (fun n1 => ?_) (fun n1 => ?_)
    · have n1 : roomN ls ≠ 32768 := by have := bne_iff_ne.1 n1; omega
      refine cond_of (fun n2 => ?_) (fun n2 => ?_)
      · have n2 : roomN ls ≠ 0 := by have := bne_iff_ne.1 n2; omega
        refine cond_of (fun n3 => ?_) (fun n3 => ?_)
        · have n3 : roomN ls = 16384 := by have := eq_of_beq n3; omega
          refine ⟨⟨by decide, by decide⟩, ?_⟩
          have hcell : w5.cell? (((⟨g, 0, none⟩ : Addr).add 0).add (((1 : Int)).toNat * 1)) = some (.int .i64 (cntK ls 1)) := by
            have := hb5.cells 1 _ rfl
            simpa using this
          refine ldI_of (x := ((cntK ls 1 : Nat) : Int)) hcell ?_
          refine cond_of (fun n4 => ?_) (fun n4 => ?_)
          · refine hK2 hgood ?_ _ hB5
            have n4 : cntK ls 1 ≠ 1 := by
              intro e; rw [e] at n4; simp at n4
            unfold badRoom; omega
          · refine good (by omega) ?_
            have n4 : cntK ls 1 = 1 := by
              have : (((cntK ls 1 : Nat) : Int) == 1) = true := by simpa using n4
              have := eq_of_beq this
              omega
            unfold badRoom; omega
        · have n3 : roomN ls ≠ 16384 := by have := beq_eq_false_iff_ne.1 n3; omega
          exact hK2 hgood (by unfold badRoom; omega) _ hB5
      · have n2 : roomN ls = 0 := by have := bne_eq_false_iff_eq.1 n2; omega
        exact good (by omega) (by unfold badRoom; omega)
    · have n1 : roomN ls = 32768 := by have := bne_eq_false_iff_eq.1 n1; omega
      exact good (by omega) (by unfold badRoom; omega)

theorem New_spec {s : Slc} {ls : List UInt8} {w : World} {K : Option Addr → Int → World → Prop} (h : Rd E_uint8 w s ls)
    (hK1 : badLens ls → ∀ w', Below w.heap.size w w' → K none 1 w') (hK2 : ¬ badLens ls → badRoom ls → ∀ w', Below w.heap.size w w' → K none 3 w')
    (hK3 : ¬ badLens ls → ¬ badRoom ls → ∀ f w', TabM w' w.heap.size f ls → Below w.heap.size w w' → K (some ⟨f.g, 0, none⟩) 0 w') : c_huff_New s w K := by
  refine call_huff_New _ ?_
  unfold sh_huff_New
  have hm := rdB_len h
  simp only [maxLen] at hm
  refine cond_of (fun c => ?_) (fun c => ?_)
  · have c := of_decide_eq_true c
    rw [h.n] at c
    exact hK1 (.inl (by omega)) _ (Below.refl _ _)
  have c := of_decide_eq_false c
  rw [h.n] at c
  have hsm : ls.length ≤ 320 := by omega
  have fr : ∀ {n : Nat} {k : Nat}, (⟨some ⟨n, 0, none⟩, 0, 0⟩ : Slc).blk = some k → k = n := fun hk => by cases hk; rfl
  have hBd : Below w.heap.size w w.drew := (Below.refl _ w).drew
  -- the copy of the lengths
  have cp : ∀ {w1 : World} {F : Slc → World → Prop} {t : Nat}, Below w.heap.size w w1 → Blk w1 t ty_uint8 [] → w.heap.size ≤ t → (∀ r w2, Own E_uint8 w2 w.heap.size r ls → Chg (fun k => k = t) w1 w2 → F r w2) → apK PG #[ty_sl_uint8, ty_sl_uint8] ty_sl_uint8 (⟨(some (⟨t, 0, none⟩ : Addr)), 0, 0⟩ : Slc) s w1 F := by
    intro w1 F t hB1 hb1 ht hF
    refine apB (own_empty (E := E_uint8) hb1 ht) (h.ext hB1) hB1.size (by simp; omega) fun r w2 ho hc hq => hF r w2 ?_ (hc.mono fun i _ hs => fr hs)
    rw [List.nil_append] at ho
    exact ho
  have mk : ∀ {w1 : World} {F : Slc → World → Prop}, Below w.heap.size w w1 → (∀ r w2, Own E_uint32 w2 w.heap.size r (List.replicate ls.length 0) → Below w1.heap.size w1 w2 → F r w2) → mkSl PG ty_sl_uint32 (.int .i64 ((s.n : Nat) : Int)) (.int .i64 ((s.n : Nat) : Int)) w1 F := by
    intro w1 F hB1 hF
    refine mkSl_of sT_sl_uint32 (x0 := (0 : Int)) rfl (n := ls.length) (by rw [h.n]) (by rw [h.n]) (by rw [by_sl_uint32]; omega) (by simp only [maxLen]; omega) fun w2 ho hB => hF _ w2 (ho.base hB1.size) hB
  refine ⟨?_, ?_⟩
  · refine nw_blk fun w1 hb1 hB1 hs1 => ?_
    refine ⟨?_, ?_⟩
    · have hB01 : Below w.heap.size w w1 := hBd.trans hB1
      refine cp hB01 hb1 (Nat.le_refl _) fun t13 w2 ho2 hc2 => ?_
      have hB02 : Below w.heap.size w w2 := hB01.trans (hc2.below hB01.size fun i hi e => by have e : i = w.heap.size := e; omega)
      refine mk hB02 fun t16 w3 ho3 hB3 => ?_
      have hB03 : Below w.heap.size w w3 := hB02.trans (hB3.mono hB02.size)
      refine nw_blk fun w4 hb4 hB4 hs4 => ?_
      exact New_rest h hsm (hB03.trans (hB4.mono hB03.size)) ((ho2.ext hB3).ext hB4) (ho3.ext hB4) hb4 hB03.size hK1 hK2 hK3
    · have hB01 : Below w.heap.size w w1 := hBd.trans hB1
      refine mk hB01 fun t16 w2 ho2 hB2 => ?_
      have hB02 : Below w.heap.size w w2 := hB01.trans (hB2.mono hB01.size)
      refine cp hB02 (hb1.ext hB2) (Nat.le_refl _) fun t13 w3 ho3 hc3 => ?_
      have hB03 : Below w.heap.size w w3 := hB02.trans (hc3.below hB02.size fun i hi e => by have e : i = w.heap.size := e; omega)
      have ho23 := ho2.chg hc3 fun j hj e => by
        obtain ⟨cs, hcs⟩ := ho2.blk_t hj
        exact hcs.ne_t (hb1.ext hB2) (by decide) e
      refine nw_blk fun w4 hb4 hB4 hs4 => ?_
      exact New_rest h hsm (hB03.trans (hB4.mono hB03.size)) (ho3.ext hB4) (ho23.ext hB4) hb4 hB03.size hK1 hK2 hK3
  · refine mk hBd fun t16 w1 ho1 hB1 => ?_
    have hB01 : Below w.heap.size w w1 := hBd.trans hB1
    refine nw_blk fun w2 hb2 hB2 hs2 => ?_
    have hB02 : Below w.heap.size w w2 := hB01.trans (hB2.mono hB01.size)
    refine cp hB02 hb2 hB01.size fun t13 w3 ho3 hc3 => ?_
    have hB03 : Below w.heap.size w w3 := hB02.trans (hc3.below hB02.size fun i hi e => by have e : i = w1.heap.size := e; have := hB01.size; omega)
    have ho13 := (ho1.ext hB2).chg hc3 fun j hj e => by
      obtain ⟨cs, hcs⟩ := (ho1.ext hB2).blk_t hj
      exact hcs.ne_t hb2 (by decide) e
    refine nw_blk fun w4 hb4 hB4 hs4 => ?_
    exact New_rest h hsm (hB03.trans (hB4.mono hB03.size)) (ho3.ext hB4) (ho13.ext hB4) hb4 hB03.size hK1 hK2 hK3

/-! ### Reading -/
section
variable {w : World} {base g : Nat} {s : Slc} {bs ls : List UInt8} {at_ : Nat} {f : TF}
theorem Read_spec {K : Int → Int → World → Prop} (hb : Blk w f.g ty_huff_Table (tabCells (cntK ls) f.so f.co f.lo (lastK ls))) (hso : Rd E_int w f.so (ints (sortedK ls 15))) (hsg : ∀ k, f.so.blk = some k → k ≠ g) (hsm : ls.length ≤ 320) (h15 : ∀ x ∈ ls, x.toNat ≤ 15) (hroom : roomN ls ≤ 32768) (h : RdrM w g s bs at_)
    (hK1 : ∀ y k w', readT ls bs at_ = .sym y k → at_ + k ≤ 8 * bs.length → y < ls.length → RdrM w' g s bs (at_ + k) → Chg (fun k => k = g) w w' → K y 0 w')
    (hK2 : ∀ w', readT ls bs at_ = .short → Below w.heap.size w w' → K 0 2 w') (hK3 : ∀ w', readT ls bs at_ = .form → Below w.heap.size w w' → K 0 3 w') : c_huff_Table_Read (some ⟨f.g, 0, none⟩) (some ⟨g, 0, none⟩) w K := by
  refine call_huff_Table_Read _ _ ?_
  unfold sh_huff_Table_Read
  have hle := h.le
  have hsmb := h.sm
  refine Left_spec h ?_
  obtain ⟨ah, hah⟩ : ∃ a, min 15 (8 * bs.length - at_) = a := ⟨_, rfl⟩
  have e0 : (if ((8 * bs.length - at_ : Nat) : Int) < 15 then ((8 * bs.length - at_ : Nat) : Int) else 15) = (ah : Int) := by split <;> omega
  simp only [e0]
  have hah15 : ah ≤ 15 := by omega
  have hahl : at_ + ah ≤ 8 * bs.length := by omega
  refine Peek_spec h.drew (fun m w2 e hm hl hB => ?_) (fun w2 hn hB => by omega)
  have : m = ah := by omega
  subst this
  have hB02 : Below w.heap.size w w2 := (Below.refl _ w).drew.trans hB
  have hsl : (sortedK ls 15).length = offK ls 16 := sortedK_length ls 15
  have hof : ∀ k, offK ls k ≤ k * 320 := by
    intro k
    induction k with
    | zero => simp [offK]
    | succ k ih => have := cntK_le ls k; rw [offK]; omega
  have hl15 := lastK_le h15
  refine loopP_rule (fun (s : Int × Int × Int × Int × Int × Unit) w3 => ∃ k : Nat, s.2.2.2.2.1 = ((k + 1 : Nat) : Int) ∧ k ≤ 15 ∧ s.1 = ((2 * msb bs at_ k : Nat) : Int) ∧ s.2.1 = ((firstK ls (k + 1) : Nat) : Int) ∧ s.2.2.1 = ((offK ls (k + 1) : Nat) : Int) ∧ (k ≤ m → s.2.2.2.1 = ((peekN bs at_ m / 2 ^ k : Nat) : Int)) ∧ firstK ls (k + 1) ≤ 2 * msb bs at_ k ∧ readT ls bs at_ = readGo ls bs at_ (16 - k) (k + 1) ∧ Below w.heap.size w w3)
    (fun s => 17 - s.2.2.2.2.1.toNat) ⟨0, rfl, by omega, rfl, by simp [firstK, cntK], by simp [offK, cntK], fun _ => by simp, by simp [firstK, cntK], rfl, hB02⟩ ?_
  rintro ⟨c, fi, of, v, k, _⟩ w3 ⟨k, rfl, hk, rfl, rfl, rfl, hv, hfirst, hT, hB3⟩ I hI
  dsimp only at *
  have hb3 := hb.ext hB3
  simp only [onPtr_some]
  refine ldI_of (x := ((lastK ls : Nat) : Int)) (hb3.cells 19 _ rfl) ?_
  rw [show 16 - k = (15 - k) + 1 by omega, readGo] at hT
  refine cond_of (fun hlast => ?_) (fun hlast => ?_)
  · have hlast : ((k + 1 : Nat) : Int) ≤ (lastK ls : Nat) := of_decide_eq_true hlast
    rw [if_neg (by omega), hah] at hT
    refine cond_of (fun hsh => ?_) (fun hsh => ?_)
    · have hsh : ((k + 1 : Nat) : Int) > (m : Int) := of_decide_eq_true hsh
      rw [if_pos (by omega)] at hT
      exact hK2 _ hT hB3
    · have hsh : ¬ ((k + 1 : Nat) : Int) > (m : Int) := of_decide_eq_false hsh
      rw [if_neg (by omega)] at hT
      have hv := hv (by omega)
      subst hv
      have hbit : bitsR .and .u32 ((peekN bs at_ m / 2 ^ k : Nat) : Int) 1 = ((peekN bs (at_ + k) 1 : Nat) : Int) := by
        have h1 : peekN bs at_ m / 2 ^ k < 2 ^ 32 := Nat.lt_of_le_of_lt (Nat.div_le_self _ _) (Nat.lt_of_lt_of_le (peekN_lt bs at_ m) (Nat.pow_le_pow_right (by decide) (by omega)))
        rw [show (1 : Int) = ((1 : Nat) : Int) from rfl, bits_and .u32 h1 (by decide), one_and, peekN_div bs at_ k m (by omega)]
        have := peekN_mod bs (at_ + k) 1 (m - k) (by omega)
        rw [Nat.pow_one] at this
        rw [this]
      have hbl := peekN_lt bs (at_ + k) 1
      have hml := msb_lt bs at_ k
      have hpk : 2 ^ k ≤ 2 ^ 15 := Nat.pow_le_pow_right (by decide) hk
      have hcode : bitsR .or .i64 ((2 * msb bs at_ k : Nat) : Int) (IntKind.i64.wrap ((peekN bs (at_ + k) 1 : Nat) : Int)) = ((msb bs at_ (k + 1) : Nat) : Int) := by
        rw [wrap_nat .i64 (by show _ < 2 ^ 63; omega), bits_or .i64 (by show _ < 2 ^ 63; omega) (by show _ < 2 ^ 63; omega), two_or _ _ (by omega)]
        rfl
      have hm1 := msb_lt bs at_ (k + 1)
      have hms : msb bs at_ (k + 1) = 2 * msb bs at_ k + peekN bs (at_ + k) 1 := rfl
      have hkr := kraft hroom (k := k + 1) (by omega)
      have hpk1 : 2 ^ (k + 1) ≤ 2 ^ 15 := Nat.pow_le_pow_right (by decide) (by omega)
      have hcell : w3.cell? (((⟨f.g, 0, none⟩ : Addr).add 0).add ((((k + 1 : Nat) : Int)).toNat * 1)) = some (.int .i64 (cntK ls (k + 1))) := by
        have := hb3.cells (k + 1) _ (tab_get _ _ _ _ _ _ (by omega : k + 1 < 16))
        simpa using this
      have hin : (0 : Int) ≤ ((k + 1 : Nat) : Int) ∧ ((k + 1 : Nat) : Int) < ((16 : Nat) : Int) := by omega
      refine ⟨by decide, hin, ?_⟩
      refine ldI_of (x := ((cntK ls (k + 1) : Nat) : Int)) hcell ?_
      simp only [hbit, hcode]
      rw [wrap64_id (x := ((msb bs at_ (k + 1) : Nat) : Int) - (firstK ls (k + 1) : Nat)) (by omega)]
      refine cond_of (fun hfound => ?_) (fun hno => ?_)
      · have hfound := of_decide_eq_true hfound
        rw [if_pos (by omega)] at hT
        have hr3 := h.ext hB3
        refine Bits_spec hr3 (fun m' w4 e hm' hl' hr4 hc4 => ?_) (fun w4 hn _ => by omega)
        have : m' = k + 1 := by omega
        subst this
        have hb4 := hb3.chg hc4 fun e => by
          have := hb3.ne_t hr3.blk (by decide)
          exact this e
        refine ldSl_of (x := f.so) (hb4.cells 16 _ rfl) ?_
        have hso4 := (hso.ext hB3).chg hc4 fun a ha e => hsg _ (slk.2 ⟨a, ha, rfl⟩) e
        have hoff := hof (k + 1)
        have hoff16 := hof 16
        have hj : msb bs at_ (k + 1) - firstK ls (k + 1) < cntK ls (k + 1) := by omega
        have hg := sortedK_get ls (k := k + 1) (m := 15) (by omega) (by omega) hj
        have hsy := symsK_length ls (k + 1) ls.length (Nat.le_refl _)
        rw [List.take_length] at hsy
        have hyy : (symsK ls (k + 1) ls.length)[msb bs at_ (k + 1) - firstK ls (k + 1)]? = some ((symsK ls (k + 1) ls.length)[msb bs at_ (k + 1) - firstK ls (k + 1)]'(by omega)) := List.getElem?_eq_getElem _
        obtain ⟨y, hy⟩ : ∃ y, (symsK ls (k + 1) ls.length)[msb bs at_ (k + 1) - firstK ls (k + 1)]? = some y := ⟨_, hyy⟩
        rw [hy] at hg
        obtain ⟨_, hyl, _, _⟩ := symsK_mem ls (k + 1) ls.length (Nat.le_refl _) _ _ hy
        have hgl := (List.getElem?_eq_some_iff.1 hg).1
        rw [wrap64_id (x := ((offK ls (k + 1) : Nat) : Int) + (msb bs at_ (k + 1) : Nat)) (by omega), wrap64_id (by omega)]
        have ei : ((offK ls (k + 1) : Nat) : Int) + (msb bs at_ (k + 1) : Nat) - (firstK ls (k + 1) : Nat) = ((offK ls (k + 1) + (msb bs at_ (k + 1) - firstK ls (k + 1)) : Nat) : Int) := by omega
        rw [ei]
        refine hso4.ix rfl (by omega) (by simp only [ints, List.length_map]; omega) fun hc => ?_
        have hgi : (ints (sortedK ls 15))[offK ls (k + 1) + (msb bs at_ (k + 1) - firstK ls (k + 1))]? = some (y : Int) := by
          unfold ints
          rw [List.getElem?_map, hg]
          rfl
        have hgx : ∀ h', (ints (sortedK ls 15))[(((offK ls (k + 1) + (msb bs at_ (k + 1) - firstK ls (k + 1)) : Nat) : Int)).toNat]'h' = (y : Int) := fun h' => by
          have := List.getElem?_eq_getElem (l := ints (sortedK ls 15)) (i := offK ls (k + 1) + (msb bs at_ (k + 1) - firstK ls (k + 1))) h'
          rw [hgi] at this
          exact (Option.some.inj this).symm
        rw [hgx] at hc
        refine ldI_of (x := (y : Int)) (by simpa using hc 0 _ rfl) ?_
        refine hK1 y (k + 1) w4 ?_ hl' hyl hr4 ((Chg.of_ext (S := fun k => k = g) hB3).trans hc4 fun i _ hi => hi)
        rw [hT, List.getD_eq_getElem?_getD, hg]
        rfl
      · have hno := of_decide_eq_false hno
        rw [if_neg (by omega)] at hT
        have hoff := hof (k + 1)
        refine ⟨hin, ?_⟩
        refine ldI_of (x := ((cntK ls (k + 1) : Nat) : Int)) hcell ⟨hin, ?_⟩
        refine ldI_of (x := ((cntK ls (k + 1) : Nat) : Int)) hcell ⟨by decide, by decide, ?_⟩
        have hcl := cntK_le ls (k + 1)
        have m1 : min ((1 : Int)).toNat IntKind.i64.bits = 1 := by decide
        have m2 : min ((1 : Int)).toNat IntKind.u32.bits = 1 := by decide
        rw [wrap64_id (x := ((firstK ls (k + 1) : Nat) : Int) + (cntK ls (k + 1) : Nat)) (by omega)]
        have ef : ((firstK ls (k + 1) : Nat) : Int) + (cntK ls (k + 1) : Nat) = ((firstK ls (k + 1) + cntK ls (k + 1) : Nat) : Int) := by omega
        rw [m1, m2, ef, mul_pow_nat, mul_pow_nat, wrap_nat .i64 (by show _ < 2 ^ 63; omega), wrap_nat .i64 (by show _ < 2 ^ 63; omega), fdiv_nat, wrap64_id (x := ((offK ls (k + 1) : Nat) : Int) + (cntK ls (k + 1) : Nat)) (by omega), wrap64_id (x := ((k + 1 : Nat) : Int) + 1) (by omega)]
        by_cases hk15 : k + 1 ≤ 15
        · refine hI _ _ ⟨k + 1, rfl, hk15, ?_, ?_, ?_, fun hkm => ?_, ?_, ?_, hB3⟩ (by simp; omega)
          · dsimp only; rw [Nat.pow_one, Nat.mul_comm]
          · dsimp only; rw [Nat.pow_one, Nat.mul_comm]; rfl
          · rfl
          · dsimp only; rw [Nat.div_div_eq_div_mul, ← Nat.pow_succ]
          · show 2 * (firstK ls (k + 1) + cntK ls (k + 1)) ≤ 2 * msb bs at_ (k + 1)
            omega
          · rw [hT, show 15 - k = 16 - (k + 1) by omega]
        · omega
  · have hlast : ¬ ((k + 1 : Nat) : Int) ≤ (lastK ls : Nat) := of_decide_eq_false hlast
    rw [if_pos (by omega)] at hT
    exact hK3 _ hT hB3

theorem Code_spec {y : Nat} {x : UInt8} {K : Int → Int → World → Prop} (h : TabM w base f ls) (hx : ls[y]? = some x) (hx0 : 0 < x.toNat)
    (hK : K ((revN (codeK ls x.toNat y) x.toNat : Nat) : Int) ((x.toNat : Nat) : Int) w.drew) : c_huff_Table_Code (some ⟨f.g, 0, none⟩) y w K := by
  refine call_huff_Table_Code _ _ ?_
  unfold sh_huff_Table_Code
  simp only [onPtr_some]
  have hy : y < ls.length := (List.getElem?_eq_some_iff.1 hx).1
  have hxs : ∀ h, ls[((y : Nat) : Int).toNat]'h = x := fun h' => by
    have := List.getElem?_eq_getElem (l := ls) (i := y) h'
    rw [hx] at this
    exact (Option.some.inj this).symm
  have hlon : f.lo.n = ls.length := h.lo.rd.n
  refine joinP_of fun J hJ => ?_
  refine cond_f (by simp) ?_
  refine ldSl_of (x := f.lo) (h.blk.cells 18 _ rfl) ?_
  rw [hlon]
  refine cond_f (by simp; omega) ?_
  refine ldSl_of (x := f.lo) (h.blk.cells 18 _ rfl) ?_
  refine h.lo.rd.ix rfl (by omega) (by omega) fun hc => ?_
  rw [hxs] at hc
  refine ldB8 (b := x) hc ?_
  refine cond_f (by simp; omega) (hJ _ _ ?_)
  have hd := h.drew
  have h15 := h.small x (List.mem_of_getElem? hx)
  refine ldSl_of (x := f.co) (hd.blk.cells 17 _ rfl) ?_
  refine hd.co.rd.ix rfl (by omega) (by rw [codesL_length]; omega) fun hc2 => ?_
  have hcx := codesL_get (k := 16) (i := 0) hx
  rw [if_pos ⟨hx0, .inl (by omega)⟩] at hcx
  have hcs : ∀ h', (codesL ls 16 0)[((y : Nat) : Int).toNat]'h' = ((revN (codeK ls x.toNat y) x.toNat : Nat) : Int) := fun h' => by
    have := List.getElem?_eq_getElem (l := codesL ls 16 0) (i := y) h'
    rw [hcx] at this
    exact (Option.some.inj this).symm
  rw [hcs] at hc2
  refine ldI_of (x := ((revN (codeK ls x.toNat y) x.toNat : Nat) : Int)) (by simpa using hc2 0 _ rfl) ?_
  refine ldSl_of (x := f.lo) (hd.blk.cells 18 _ rfl) ?_
  refine hd.lo.rd.ix rfl (by omega) (by omega) fun hc3 => ?_
  rw [hxs] at hc3
  refine ldB8 (b := x) hc3 ?_
  have h8 := x.toNat_lt
  rw [wrap_nat .i64 (x := x.toNat) (by show _ < 2 ^ 63; omega)]
  exact hK
end

end Go.Proofs.Yteffnkpplhcomaa
