/- The program's Encode walked to its end. What is encoded is decoded, plain. An encoded file decoded, plain; a turned bit; other chunks between. The laws of PNG that speak of the program alone: known, PngSums, PngOrders. The laws PngSums and PngOrders. The law PngOrders. Arguments opened: structs that hold a slice of bytes; heads; chunks. The document's chunks and heads walked. The law PngHeads. -/
import Derived.Test.YtmagnpcgpinmcaaGreatP3
import Derived.Test.YtmagnpcgpinmcaaGreatP2
import Derived.Test.YtmagnpcgpinmcaaGreatP1
set_option linter.unusedVariables false
set_option linter.unusedVariables false
namespace Go.Proofs.YtmagnpcgpinmcaaGreat
open Go.Vc Go.RowKit
set_option maxRecDepth 400000
theorem rowPix_le (W : Nat) (P : List UInt8) (r : PassP × Nat × Nat) (n : Nat) : (rowPix W P r n).length ≤ 4 * n := by
  unfold rowPix
  induction n with
  | zero => simp
  | succ n ih =>
    rw [List.range_succ, List.flatMap_append, List.length_append]
    simp only [List.flatMap_cons, List.flatMap_nil, List.append_nil, List.length_take, List.length_drop]
    omega
theorem enc_len (W : Nat) (P : List UInt8) (kd : Nat) : ∀ (L : List (PassP × Nat × Nat)) (st : List UInt8 × List UInt8), (∀ r ∈ L, r.2.2 ≤ W) → (L.foldl (encRow W P kd) st).1.length ≤ st.1.length + L.length * (1 + 4 * W)
  | [], st, _ => by simp
  | r :: L, st, h => by
    rw [List.foldl_cons, List.length_cons, Nat.add_mul, Nat.one_mul]
    have ih := enc_len W P kd L (encRow W P kd st r) fun q hq => h q (List.mem_cons_of_mem _ hq)
    have hr := rowPix_le W P r r.2.2
    have hw := h r List.mem_cons_self
    have e : (encRow W P kd st r).1.length = st.1.length + 1 + (rowPix W P r r.2.2).length := by
      unfold encRow
      simp only [List.length_append, List.length_singleton, doP_length]
    omega
theorem flat_len2 (W H : Nat) : ∀ ps : List PassP, (ps.flatMap (rowsOf W H)).length ≤ ps.length * H
  | [] => by simp
  | p :: r => by
    have := flat_len2 W H r
    have h2 := (sizeP_le p W H).2
    rw [List.flatMap_cons, List.length_append, rowsOf_length, List.length_cons, Nat.add_mul, Nat.one_mul]
    omega
theorem rowsL_len2 {h : T_png_Head} {W H : Nat} (ho : HeadOk h W H) : (rowsL h).length ≤ 7 * H := by
  unfold rowsL
  rw [ho.wn, ho.hn]
  exact Nat.le_trans (flat_len2 W H (passesP h.Lace)) (Nat.mul_le_mul_right _ (passes_len h.Lace))
theorem rowsL_w {h : T_png_Head} {W H : Nat} (ho : HeadOk h W H) : ∀ r ∈ rowsL h, r.2.2 ≤ W := by
  intro r hr
  obtain ⟨L, R, e⟩ := List.append_of_mem hr
  rw [(rowsL_split ho e).w]
  exact (sizeP_le _ _ _).1
theorem encHead_ok {W H : Nat} (lace : Bool) (h1 : 1 ≤ W) (h2 : W ≤ 16384) (h3 : 1 ≤ H) (h4 : H ≤ 16384) : HeadOk (encHead W H lace) W H := ⟨rfl, rfl, h1, h2, h3, h4⟩
theorem enc_ahead {h : T_png_Head} {W H : Nat} (ho : HeadOk h W H) {P : List UInt8} (hl : P.length = 4 * W * H) (kd : Nat) {L R : List (PassP × Nat × Nat)} {r : PassP × Nat × Nat} (hL : rowsL h = L ++ r :: R) :
    aheadOf r.2.1 (L.foldl (encRow W P kd) ([], [])).2 = [] ∨ (aheadOf r.2.1 (L.foldl (encRow W P kd) ([], [])).2).length = 4 * r.2.2 := by
  have hra := rowsL_split ho hL
  unfold aheadOf
  by_cases h0 : r.2.1 = 0
  · rw [if_pos h0]; exact .inl rfl
  rw [if_neg h0]
  right
  rcases hra.last with e | ⟨L', e⟩
  · exact absurd e h0
  subst e
  rw [List.foldl_append]
  show (rowPix W P (r.1, r.2.1 - 1, r.2.2) r.2.2).length = _
  refine rowPix_len (r := (r.1, r.2.1 - 1, r.2.2)) hl r.2.2 fun x hx => ?_
  have hx' : x < (sizeP r.1 W H).1 := by rw [← hra.w]; exact hx
  have hy' : r.2.1 - 1 < (sizeP r.1 W H).2 := by have := hra.y; omega
  exact (pix_room hx' hy').1
section
variable {w : World}
theorem Encode_spec {s : Slc} {P : List UInt8} {W H : Nat} {lace : Bool} {kind : Int} (hP : Rd E_uint8 w s P) (hl : P.length = 4 * W * H) (hW1 : 1 ≤ W) (hW2 : W ≤ 1000) (hH1 : 1 ≤ H) (hH2 : H ≤ 1000) {K : Slc → World → Prop}
    (hK : ∀ t w', Go.Vc.Own E_uint8 w' w.heap.size t (encodeP W H P lace kind) → Below w.heap.size w w' → K t w') : c_png_Encode ⟨W, H, s⟩ lace kind w K := by
  refine call_png_Encode _ _ _ ?_
  unfold sh_png_Encode
  refine nw_blk fun w1 h1 hB1 hs1 => nw_blk fun w2 h2 hB2 hs2 => ?_
  have hB12 := below_t hB1 hB2
  have hm := h1.ext hB2
  refine ldI_of (x := (W : Int)) (hm.cells 0 _ rfl) (ldI_of (x := (H : Int)) (hm.cells 1 _ rfl) ?_)
  refine nw_blk fun w3 h3 hB3 hs3 => all_of h3 rfl fun w4 h4 hc4 hs4 => ?_
  have hB24 : Below w2.heap.size w2 w4 := below_one hB3 hc4 (Nat.le_refl _)
  have hB4 := below_t hB12 hB24
  have hm4 := hm.ext hB24
  have hk4 := h2.ext hB24
  have hho := encHead_ok (W := W) (H := H) lace hW1 (by omega) hH1 (by omega)
  refine joinP_of fun J1 hJ1 => ?_
  have main1 : ∀ w5, Blk w5 w2.heap.size ty_png_Head (T_png_Head.rep.cells (encHead W H lace)) → Blk w5 w.heap.size ty_api_Matrix (T_api_Matrix.rep.cells ⟨W, H, s⟩) → Blk w5 w1.heap.size ty_int [.int .i64 kind] → Below w.heap.size w w5 → J1 () w5 := by
    intro w5 hh5 hm5 hk5 hB5
    refine hJ1 _ _ (joinP_of fun J2 hJ2 => ?_)
    have main2 : ∀ w6, Blk w6 w2.heap.size ty_png_Head (T_png_Head.rep.cells (encHead W H lace)) → Blk w6 w.heap.size ty_api_Matrix (T_api_Matrix.rep.cells ⟨W, H, s⟩) → Blk w6 w1.heap.size ty_int [.int .i64 ((kindOf kind : Nat) : Int)] → Below w.heap.size w w6 → J2 () w6 := by
      intro w6 hh6 hm6 hk6 hB6
      refine hJ2 _ _ ?_
      refine nw_blk fun w7 h7 hB7 hs7 => nw_blk fun w8 h8 hB8 hs8 => ?_
      have hB68 := below_t hB7 hB8
      have hB08 := below_t hB6 hB68
      refine ldS_of (r := T_png_Head.rep) (x := encHead W H lace) (hh6.ext hB68).cells ?_
      have hs6 := hB6.size
      have h26 := hh6.lt
      have hkd : kindOf kind ≤ 4 := by unfold kindOf; split <;> omega
      have hI0 : EnI w W H s (kindOf kind) w7.heap.size w6.heap.size w.heap.size w1.heap.size ([], []) w8 :=
        ⟨hm6.ext hB68, hk6.ext hB68, ⟨⟨none, 0, 0⟩, ⟨none, 0, 0⟩, h8, Own.nil _ _ _, h7.ext hB8, Own.nil _ _ _, fun k hk => by cases hk⟩, hB08⟩
      refine rows_spec hho (fun L w9 => EnI w W H s (kindOf kind) w7.heap.size w6.heap.size w.heap.size w1.heap.size (L.foldl (encRow W P (kindOf kind)) ([], [])) w9 ∧ Blk w9 w2.heap.size ty_png_Head (T_png_Head.rep.cells (encHead W H lace))) (fun _ => False) ⟨hI0, hh6.ext hB68⟩ ?_ ?_ ?_ (fun _ h => h.elim)
      · rintro L wa wb ⟨⟨a1, a2, ⟨sa, sl, a3, a4, a5, a6, a7⟩, a8⟩, b⟩ hB
        exact ⟨⟨a1.ext hB, a2.ext hB, ⟨sa, sl, a3.ext hB, a4.ext hB, a5.ext hB, a6.ext hB, a7⟩, below_t a8 hB⟩, b.ext hB⟩
      · rintro L r R wa hL ⟨a, b⟩ hsa J hj1 hj0
        refine callR_plain (by kernel_rfl) ?_
        have hlen := enc_len W P (kindOf kind) L ([], []) (fun q hq => rowsL_w hho q (by rw [hL]; exact List.mem_append.2 (.inl hq)))
        have hLl : L.length ≤ 7 * H := by have := rowsL_len2 hho; rw [hL, List.length_append] at this; omega
        have hlw : L.length * (1 + 4 * W) ≤ 7000 * 4001 := Nat.mul_le_mul (by omega) (by omega)
        have hcall : c_png_Encode_1 (passT r.1) (r.2.1 : Int) (r.2.2 : Int) ⟨w7.heap.size, 0, none⟩ ⟨w.heap.size, 0, none⟩ ⟨w1.heap.size, 0, none⟩ ⟨w6.heap.size, 0, none⟩ wa J := by
          refine encRow1_spec hho hP hl hkd (by omega) (by omega) (by omega) hL (enc_ahead hho hl (kindOf kind) hL) (by simp only [List.length_nil] at hlen; omega) a fun wb row hI hrow hch => ?_
          obtain ⟨sa, sl, q1, _, q2, _⟩ := a.ex
          refine hj1 wb ⟨?_, ?_⟩ ?_ hch.size
          · rw [List.foldl_append]; exact hI
          · refine b.chg hch fun e => ?_
            rcases e with e | e | e
            · omega
            · omega
            · rcases hrow with h | ⟨k, cs, h, hk⟩
              · rw [h] at e; cases e
              · rw [h] at e
                cases e
                exact b.ne_t hk (by decide) rfl
          · refine keepT_of hch fun k hk => ?_
            rcases hk with rfl | rfl | hk
            · exact ⟨_, _, q1, by decide, by decide⟩
            · exact ⟨_, _, q2, by decide, by decide⟩
            · rcases hrow with h | ⟨k', cs, h, hk'⟩
              · rw [h] at hk; cases hk
              · rw [h] at hk
                cases hk
                exact ⟨_, _, hk', by decide, by decide⟩
        refine Calls.mono hcall ?_
        rintro e w' ⟨r, rfl, hk⟩
        exact ⟨r, rfl, hk⟩
      · rintro w9 ⟨⟨a1, a2, ⟨sa, sl, a3, a4, a5, a6, a7⟩, a8⟩, b⟩
        have hall : ((rowsL (encHead W H lace)).foldl (encRow W P (kindOf kind)) ([], [])).1 = encAll W H P lace kind := rfl
        rw [hall] at a6
        have hlen := enc_len W P (kindOf kind) (rowsL (encHead W H lace)) ([], []) (rowsL_w hho)
        rw [hall] at hlen
        have hLl := rowsL_len2 hho
        have hlw : (rowsL (encHead W H lace)).length * (1 + 4 * W) ≤ 7000 * 4001 := Nat.mul_le_mul (by omega) (by omega)
        have hal : (encAll W H P lace kind).length ≤ 28007000 := by simp only [List.length_nil] at hlen; omega
        have hBd := below_drew w9
        obtain ⟨lb, hlb⟩ : ∃ lb : UInt8, lb = if lace then 1 else 0 := ⟨_, rfl⟩
        have hlace : (encHead W H lace).Lace = ((lb.toNat : Nat) : Int) := by rw [hlb]; cases lace <;> rfl
        obtain ⟨lv, hlv⟩ : ∃ lv : Int, lv = ((lb.toNat : Nat) : Int) := ⟨_, rfl⟩
        have cm0 : ∀ {w'}, Below w9.heap.size w9 w' → w'.cell? ((⟨w.heap.size, 0, none⟩ : Addr).add 0) = some (.int .i64 (W : Int)) := fun hB => (a1.ext hB).cells 0 _ rfl
        have cm1 : ∀ {w'}, Below w9.heap.size w9 w' → w'.cell? ((⟨w.heap.size, 0, none⟩ : Addr).add 1) = some (.int .i64 (H : Int)) := fun hB => (a1.ext hB).cells 1 _ rfl
        have ch4 : ∀ {w'}, Below w9.heap.size w9 w' → w'.cell? ((⟨w2.heap.size, 0, none⟩ : Addr).add 4) = some (.int .i64 lv) := fun hB => by
          have := (b.ext hB).cells 4 _ rfl
          rw [hlace] at this
          rw [hlv]
          exact this
        refine ldI_of (cm0 hBd) (ldI_of (cm1 hBd) (ldI_of (ch4 hBd) ?_))
        have uW : IntKind.u32.wrap (W : Int) = (W : Int) := wrap_nat .u32 (show W < 2 ^ 32 by omega)
        have uH : IntKind.u32.wrap (H : Int) = (H : Int) := wrap_nat .u32 (show H < 2 ^ 32 by omega)
        rw [uW, uH]
        have hlb1 : lb.toNat ≤ 1 := by rw [hlb]; cases lace <;> decide
        have uL : IntKind.u8.wrap lv = lv := by rw [hlv]; exact wrap_nat .u8 (show lb.toNat < 2 ^ 8 by omega)
        rw [uL]
        have hl5 : ∀ {w' : World} {t5 : Nat}, Blk w' t5 ty_uint8 [(.int .u8 8), (.int .u8 6), (.int .u8 0), (.int .u8 0), (.int .u8 lv)] → Rd E_uint8 w' ⟨some ⟨t5, 0, none⟩, 5, 5⟩ [8, 6, 0, 0, lb] := fun h => by
          rw [hlv] at h
          exact rd_lits (E := E_uint8) (ys := [8, 6, 0, 0, lb]) h (by simp [maxLen]) rfl
        have tail : ∀ (q30 q34 q38 : Addr) w12, Rd E_uint8 w12 ⟨some q30, 4, 4⟩ (be4 W) → Rd E_uint8 w12 ⟨some q34, 4, 4⟩ (be4 H) → Rd E_uint8 w12 ⟨some q38, 5, 5⟩ [8, 6, 0, 0, lb] → Below w9.heap.size w9 w12 →
            nw ty_sl_uint8 [(.slice (⟨some q30, 4, 4⟩ : Slc).a (⟨some q30, 4, 4⟩ : Slc).n (⟨some q30, 4, 4⟩ : Slc).c), (.slice (⟨some q34, 4, 4⟩ : Slc).a (⟨some q34, 4, 4⟩ : Slc).n (⟨some q34, 4, 4⟩ : Slc).c), (.slice (some q38) 5 5)] w12 fun t39 w13 =>
            c_slices_Concat_byte_byte (⟨(some t39), 3, 3⟩ : Slc) w13 fun t40 w14 =>
            ldSl (⟨w6.heap.size, 0, none⟩ : Addr) w14 fun t43 =>
            c_zlib_Pack t43 false w14 fun t44 w15 =>
            nw ty_png_Chunk [(.string (⟨#[73, 72, 68, 82]⟩ : ByteArray)), (.slice t40.a t40.n t40.c), (.string (⟨#[73, 68, 65, 84]⟩ : ByteArray)), (.slice t44.a t44.n t44.c), (.string (⟨#[73, 69, 78, 68]⟩ : ByteArray)), (.slice none 0 0)] w15 fun t47 w16 =>
            c_png_Lay (⟨(some t47), 3, 3⟩ : Slc) w16 fun t48 w17 => K t48 w17 := by
          intro q30 q34 q38 w12 h30 h34 h38 hB12'
          refine ConcatB3 (a := ⟨some q30, 4, 4⟩) (b := ⟨some q34, 4, 4⟩) (c := ⟨some q38, 5, 5⟩) h30 h34 h38 (by rw [be4_len, be4_len]; simp only [List.length_cons, List.length_nil]; omega) fun t40 w14 h40 hB14 => ?_
          have hB914 := below_t hB12' hB14
          refine ldSl_of (x := sl) (at_cell (a5.ext hB914)) ?_
          refine Pack_spec (a6.ext hB914).rd (by omega) fun t44 body w15 h44 hb0 _ hB15 => ?_
          have hb0 := hb0 rfl
          subst hb0
          have hble := (body_le (fixed := false) (body := storeL (encAll W H P lace kind)) (bs := encAll W H P lace kind) ⟨fun _ => rfl, fun h => by cases h⟩).1
          refine nw_blk fun w16 h16 hB16 hs16 => ?_
          have hB1416 := below_t hB15 hB16
          have hrd : Rd E_png_Chunk w16 ⟨some ⟨w15.heap.size, 0, none⟩, 3, 3⟩ [⟨strB ihdrL, t40⟩, ⟨strB idatL, t44⟩, ⟨strB iendL, ⟨none, 0, 0⟩⟩] := rd_lits (E := E_png_Chunk) (ys := [⟨strB ihdrL, t40⟩, ⟨strB idatL, t44⟩, ⟨strB iendL, ⟨none, 0, 0⟩⟩]) h16 (by simp [maxLen]) rfl
          have hC : ChsA w16 [⟨strB ihdrL, t40⟩, ⟨strB idatL, t44⟩, ⟨strB iendL, ⟨none, 0, 0⟩⟩] (encCh W H P lace kind) := by
            refine ⟨rfl, fun i x c hx hc => ?_⟩
            match i, hx, hc with
            | 0, hx, hc => cases hx; cases hc; exact ⟨rfl, by have := (h40.ext hB1416).rd; rw [hlb] at this; exact this⟩
            | 1, hx, hc => cases hx; cases hc; exact ⟨rfl, (h44.ext hB16).rd⟩
            | 2, hx, hc => cases hx; cases hc; exact ⟨rfl, Rd.nil _ _⟩
            | i + 3, hx, hc => simp at hx
          have hds : dsum (encCh W H P lace kind) ≤ 1000000000 := by
            have hp : (packL (storeL (encAll W H P lace kind)) (encAll W H P lace kind)).length = 6 + (storeL (encAll W H P lace kind)).length := by
              unfold packL
              simp only [List.length_append, be4_len, List.length_cons, List.length_nil]
              omega
            unfold dsum encCh
            simp only [List.map_cons, List.map_nil, List.sum_cons, List.sum_nil, List.length_append, be4_len, List.length_cons, List.length_nil, hp]
            omega
          refine Lay_spec hrd hC (by unfold encCh; simp only [List.length_cons, List.length_nil]; omega) hds fun t48 w17 h48 hB17 => ?_
          have hB916 := below_t hB914 hB1416
          exact hK t48 w17 (h48.base (by have := hB916.size; have := a8.size; omega)) (below_t (below_t a8 hB916) hB17)
        refine ⟨?_, ?_⟩
        · refine big_spec (by omega) fun t30 w10 h30 hB10 => ?_
          have hB910 := below_t hBd hB10
          refine ⟨ch4 hB910, cm1 hB910, ?_, ?_⟩
          · refine big_spec (by omega) fun t34 w11 h34 hB11 => ?_
            have hB911 := below_t hB910 hB11
            refine ⟨ch4 hB911, nw_blk fun w12 h12 hB12' hs12 => ?_⟩
            have hB912 := below_t hB911 hB12'
            refine ⟨cm1 hB912, cm0 hB912, ?_⟩
            exact tail t30 t34 _ w12 ((h30.ext hB11).ext hB12') (h34.ext hB12') (hl5 h12) hB912
          · refine nw_blk fun w12 h12 hB12' hs12 => ?_
            have hB912 := below_t hB910 hB12'
            refine ⟨cm1 hB912, cm0 hB912, big_spec (by omega) fun t34 w11 h34 hB11 => ?_⟩
            have hB911 := below_t hB912 hB11
            exact ⟨ch4 hB911, tail t30 t34 _ w11 ((h30.ext hB12').ext hB11) h34 (hl5 (h12.ext hB11)) hB911⟩
        · refine nw_blk fun w12 h12 hB12' hs12 => ?_
          have hB912 := below_t hBd hB12'
          refine ⟨cm1 hB912, cm0 hB912, big_spec (by omega) fun t30 w10 h30 hB10 => ?_⟩
          have hB910 := below_t hB912 hB10
          refine ⟨ch4 hB910, cm1 hB910, big_spec (by omega) fun t34 w11 h34 hB11 => ?_⟩
          have hB911 := below_t hB910 hB11
          exact ⟨ch4 hB911, tail t30 t34 _ w11 (h30.ext hB11) h34 (hl5 ((h12.ext hB10).ext hB11)) hB911⟩
    refine ldI_of (x := kind) (at_cell hk5) ?_
    have hset : kindOf kind = 0 → stK ⟨w1.heap.size, 0, none⟩ [(.int .i64 0)] w5 fun w33 => J2 () w33 := by
      intro h0
      refine all_of hk5 rfl fun w6 h6 hc6 hs6 => ?_
      rw [h0] at main2
      exact main2 w6 (hh5.chg hc6 (by omega)) (hm5.chg hc6 (by omega)) h6 (below_one hB5 hc6 (by omega))
    refine cond_of (fun e => ?_) fun e1 => ?_
    · have e := of_decide_eq_true e
      exact hset (by unfold kindOf; rw [if_pos (.inl e)])
    have e1 := of_decide_eq_false e1
    refine ldI_of (x := kind) (at_cell hk5) (cond_of (fun e => ?_) fun e2 => ?_)
    · have e := of_decide_eq_true e
      exact hset (by unfold kindOf; rw [if_pos (.inr e)])
    have e2 := of_decide_eq_false e2
    have hkk : ((kindOf kind : Nat) : Int) = kind := by unfold kindOf; rw [if_neg (by omega)]; omega
    rw [hkk] at main2
    exact main2 w5 hh5 hm5 hk5 hB5
  cases lace with
  | true =>
    refine cond_t rfl ?_
    rw [add_mk]
    refine stK_blk h4 (by simp) fun w5 hb5 hg5 hs5 => ?_
    have hc5 : Chg (fun k => k = w2.heap.size) w4 w5 := Chg.gg hg5
    exact main1 w5 hb5 (hm4.chg hc5 (by omega)) (hk4.chg hc5 (by omega)) (below_one hB4 hc5 (by omega))
  | false => exact cond_f rfl (main1 w4 h4 hm4 hk4 hB4)
end
end Go.Proofs.YtmagnpcgpinmcaaGreat

set_option linter.unusedVariables false
namespace Go.Proofs.YtmagnpcgpinmcaaGreat
open Go.Vc
set_option maxRecDepth 400000
/-! ### Packed bytes -/
theorem unpack_pack {bs : List UInt8} {most : Nat} (hm : bs.length ≤ most) : unErr most (packL (storeL bs) bs) = 0 ∧ unOut most (packL (storeL bs) bs) = bs ∧ unUsed most (packL (storeL bs) bs) = (packL (storeL bs) bs).length := by
  have hbd : isBody false (storeL bs) bs := ⟨fun _ => rfl, fun h => by cases h⟩
  obtain ⟨c', p', hch, h5, hh, hp⟩ := body_run (tail := be4 (adlN bs) ++ []) (most := most) hbd hm
  have hpk : packL (storeL bs) bs = [120, 1] ++ storeL bs ++ be4 (adlN bs) ++ [] := by unfold packL; rw [List.append_nil]
  obtain ⟨u1, u2, u3⟩ := unRun_spec most (packL (storeL bs) bs)
  have hd : (packL (storeL bs) bs).drop 2 = storeL bs ++ (be4 (adlN bs) ++ []) := by rw [hpk, packed_drop]
  rw [hd] at u1 u2
  have hs5 := step1_five (most := most) (B := storeL bs ++ (be4 (adlN bs) ++ [])) (a := p') h5
  obtain ⟨e1, e2⟩ := Ch.same u1 hch (fun c' a' e => by rw [u2] at e; exact u3 _ _ e) (fun c' a' e => by rw [hs5] at e; cases e)
  have e3 : (unRun most (packL (storeL bs) bs)).2.2 = .short := by rw [← u2, e1, e2, hs5]
  have ez := zerr_of (more := []) (s := be4 (adlN bs)) h5 hp rfl hh
  rw [if_pos (big_be4 (adlN_lt bs)), ← hpk] at ez
  refine ⟨?_, ?_, ?_⟩
  · unfold unErr
    rw [e1, e2, e3]
    exact ez
  · unfold unOut
    rw [e1, hh]
  · unfold unUsed
    rw [e2, hp, hpk]
    simp only [List.length_append, be4_len, List.length_cons, List.length_nil]
    omega

/-! ### Chunks that are laid -/
structure ChGood (c : ChL) : Prop where
  k : c.kind.length = 4
  l : c.kind.all letterP = true
  d : c.data.length < 2 ^ 31
theorem kind4_good {c : ChL} (h : ChGood c) : kind4 c.kind = c.kind := by
  unfold kind4
  rw [h.k, List.take_of_length_le (by rw [h.k]; exact Nat.le_refl _)]
  simp
theorem chunkP_lay {c : ChL} (h : ChGood c) (rest : List UInt8) : chunkP (layC c ++ rest) = .ok c (12 + c.data.length) ∧ (layC c ++ rest).drop (12 + c.data.length) = rest := by
  have hk := h.k
  have hd := h.d
  have hl : (layC c ++ rest).length = 12 + c.data.length + rest.length := by rw [List.length_append, layC_len]
  have e0 : layC c ++ rest = be4 c.data.length ++ (c.kind ++ (c.data ++ (be4 (crcN (c.kind ++ c.data)) ++ rest))) := by
    unfold layC
    rw [kind4_good h]
    simp [List.append_assoc]
  have e4 : (layC c ++ rest).take 4 = be4 c.data.length := by rw [e0]; exact List.take_left' (be4_len _)
  have d4 : (layC c ++ rest).drop 4 = c.kind ++ (c.data ++ (be4 (crcN (c.kind ++ c.data)) ++ rest)) := by rw [e0]; exact List.drop_left' (be4_len _)
  have d8 : (layC c ++ rest).drop 8 = c.data ++ (be4 (crcN (c.kind ++ c.data)) ++ rest) := by
    rw [show (8 : Nat) = 4 + 4 from rfl, ← List.drop_drop, d4]
    exact List.drop_left' hk
  have dn : (layC c ++ rest).drop (8 + c.data.length) = be4 (crcN (c.kind ++ c.data)) ++ rest := by
    rw [← List.drop_drop, d8]
    exact List.drop_left' rfl
  have hn : bigN ((layC c ++ rest).take 4) = c.data.length := by rw [e4, big_be4 (by omega)]
  have t8 : ((layC c ++ rest).take 8).drop 4 = c.kind := by
    rw [List.drop_take, d4]
    exact List.take_left' hk
  have tn4 : ((layC c ++ rest).take (8 + c.data.length)).drop 4 = c.kind ++ c.data := by
    rw [List.drop_take, d4, ← List.append_assoc]
    exact List.take_left' (by rw [List.length_append]; omega)
  have tn8 : ((layC c ++ rest).take (8 + c.data.length)).drop 8 = c.data := by
    rw [List.drop_take, d8]
    exact List.take_left' (by omega)
  refine ⟨?_, ?_⟩
  · unfold chunkP
    rw [hn, t8, tn4, tn8, dn, if_neg (by omega), if_neg (by omega), if_neg (by omega), if_neg (by rw [h.l]; simp), if_neg (by omega), if_neg]
    intro hne
    refine hne ?_
    have : (be4 (crcN (c.kind ++ c.data)) ++ rest).take 4 = be4 (crcN (c.kind ++ c.data)) := List.take_left' (be4_len _)
    rw [this, big_be4 (crcN_lt _)]
  · rw [show 12 + c.data.length = 8 + c.data.length + 4 by omega, ← List.drop_drop, dn]
    exact List.drop_left' (be4_len _)
theorem chunksF_lay (rest : List UInt8) : ∀ (L : List ChL) (e : ChL) (f : Nat), (∀ c ∈ L, ChGood c ∧ c.kind ≠ iendL) → ChGood e → e.kind = iendL → L.length < f → chunksF false f (L.flatMap layC ++ (layC e ++ rest)) = (0, L ++ [e])
  | [], e, f + 1, _, he, hk, _ => by
    rw [List.flatMap_nil, List.nil_append, chunksF, (chunkP_lay he rest).1]
    simp [hk]
  | c :: L, e, f + 1, hL, he, hk, hf => by
    obtain ⟨hc, hck⟩ := hL c List.mem_cons_self
    rw [List.flatMap_cons, List.append_assoc, chunksF, (chunkP_lay hc _).1]
    have ih := chunksF_lay rest L e f (fun d hd => hL d (List.mem_cons_of_mem _ hd)) he hk (by rw [List.length_cons] at hf; omega)
    dsimp only
    rw [(chunkP_lay hc _).2, ih]
    simp [hck]
theorem signP_lay (b : List UInt8) : signP (signL ++ b) = 0 ∧ (signL ++ b).drop 8 = b := by
  refine ⟨?_, List.drop_left' rfl⟩
  unfold signP
  have h1 : (signL ++ b).take 8 = signL := List.take_left' rfl
  have hl : (signL ++ b).length = 8 + b.length := by rw [List.length_append]; rfl
  rw [h1, hl, List.take_of_length_le (show signL.length ≤ 8 + b.length by show 8 ≤ _; omega), if_neg (by simp), if_neg (by omega)]
theorem chunksP_lay (L : List ChL) (e : ChL) (rest : List UInt8) (hL : ∀ c ∈ L, ChGood c ∧ c.kind ≠ iendL) (he : ChGood e) (hk : e.kind = iendL) : chunksP false (signL ++ (L.flatMap layC ++ (layC e ++ rest))) = (0, L ++ [e]) := by
  obtain ⟨h1, h2⟩ := signP_lay (L.flatMap layC ++ (layC e ++ rest))
  have hlen : L.length < (signL ++ (L.flatMap layC ++ (layC e ++ rest))).length := by
    have : L.length ≤ (L.flatMap layC).length := by
      clear h1 h2 hL
      induction L with
      | nil => simp
      | cons c L ih => rw [List.flatMap_cons, List.length_append, layC_len, List.length_cons]; omega
    simp only [List.length_append]
    show _ < 8 + _
    omega
  have hc := chunksF_lay rest L e _ hL he hk hlen
  unfold chunksP
  rw [h1, h2, if_neg (by decide), hc, if_neg (by simp)]
theorem chunksP_one (c : ChL) (rest : List UInt8) (hc : ChGood c) : chunksP true (signL ++ (layC c ++ rest)) = (0, [c]) := by
  obtain ⟨h1, h2⟩ := signP_lay (layC c ++ rest)
  have hl : (signL ++ (layC c ++ rest)).length = ((layC c ++ rest).length + 7) + 1 := by rw [List.length_append]; show 8 + _ = _; omega
  have hf : chunksF true (((layC c ++ rest).length + 7) + 1) (layC c ++ rest) = (0, [c]) := by
    rw [chunksF, (chunkP_lay hc _).1]
    rfl
  unfold chunksP
  rw [h1, h2, hl, hf, if_neg (by decide), if_neg (by simp)]

/-! ### The head -/
def headD (W H : Nat) (lace : Bool) : List UInt8 := be4 W ++ be4 H ++ [8, 6, 0, 0, if lace then 1 else 0]
theorem headP_enc {W H : Nat} (lace : Bool) (h1 : 1 ≤ W) (h2 : W ≤ 16384) (h3 : 1 ≤ H) (h4 : H ≤ 16384) : headP ⟨ihdrL, headD W H lace⟩ = (0, encHead W H lace) := by
  have hof : headOf (headD W H lace) = encHead W H lace := by
    have e1 : (headD W H lace).take 4 = be4 W := by unfold headD; rw [List.append_assoc]; exact List.take_left' (be4_len _)
    have e2 : ((headD W H lace).drop 4).take 4 = be4 H := by
      unfold headD
      rw [List.append_assoc, List.drop_left' (be4_len _)]
      exact List.take_left' (be4_len _)
    unfold headOf
    rw [e1, e2, big_be4 (by omega), big_be4 (by omega)]
    unfold encHead
    have g8 : (headD W H lace)[8]? = some 8 := rfl
    have g9 : (headD W H lace)[9]? = some 6 := rfl
    have g12 : (headD W H lace)[12]? = some (if lace then 1 else 0) := rfl
    rw [g8, g9, g12]
    cases lace <;> rfl
  have hck : checkP (encHead W H lace) = 0 := by
    unfold checkP encHead
    dsimp only
    rw [if_neg (by omega)]
    have hd : depthOk (⟨W, H, 8, 6, if lace then 1 else 0⟩ : T_png_Head) = true := by unfold depthOk; simp
    rw [hd]
    rw [if_neg]
    cases lace <;> decide
  unfold headP
  rw [hof, hck]
  rw [if_neg, if_neg (by decide)]
  intro h
  rcases h with h | h | h | h
  · exact h rfl
  · exact h rfl
  · exact h rfl
  · exact h rfl
theorem ihdr_good (W H : Nat) (lace : Bool) : ChGood ⟨ihdrL, headD W H lace⟩ := ⟨rfl, (by decide : ihdrL.all letterP = true), by show (13 : Nat) < 2 ^ 31; decide⟩
theorem iend_good : ChGood ⟨iendL, []⟩ := ⟨rfl, by decide, by decide⟩
theorem idat_good {d : List UInt8} (h : d.length < 2 ^ 31) : ChGood ⟨idatL, d⟩ := ⟨rfl, (by decide : idatL.all letterP = true), h⟩

/-! ### Rows -/
def encBytes (W : Nat) (P : List UInt8) (kd : Nat) : List UInt8 → List (PassP × Nat × Nat) → List UInt8
  | _, [] => []
  | ah, r :: L => (UInt8.ofNat kd :: doP kd (rowPix W P r r.2.2) (aheadOf r.2.1 ah) 4) ++ encBytes W P kd (rowPix W P r r.2.2) L
theorem enc_fold (W : Nat) (P : List UInt8) (kd : Nat) : ∀ (L : List (PassP × Nat × Nat)) (acc ah : List UInt8), (L.foldl (encRow W P kd) (acc, ah)).1 = acc ++ encBytes W P kd ah L
  | [], acc, ah => by simp [encBytes]
  | r :: L, acc, ah => by
    rw [List.foldl_cons]
    show (L.foldl (encRow W P kd) (acc ++ [UInt8.ofNat kd] ++ doP kd (rowPix W P r r.2.2) (aheadOf r.2.1 ah) 4, rowPix W P r r.2.2)).1 = _
    rw [enc_fold W P kd L, encBytes]
    simp [List.append_assoc]
def putK (P : List UInt8) (ks : List Nat) (m : List UInt8) : List UInt8 := ks.foldl (fun m k => set4 m k ((P.drop k).take 4)) m
def rowKs (W : Nat) (r : PassP × Nat × Nat) (n : Nat) : List Nat := (List.range n).map fun x => pixAt W r.1 r.2.1 x
theorem rowPix_get (W : Nat) (P : List UInt8) (r : PassP × Nat × Nat) {W' H : Nat} (hl : P.length = 4 * W' * H) : ∀ n, (∀ x, x < n → pixAt W r.1 r.2.1 x + 4 ≤ P.length) → ∀ x, x < n → ((rowPix W P r n).drop (4 * x)).take 4 = (P.drop (pixAt W r.1 r.2.1 x)).take 4
  | 0, _, x, hx => by omega
  | n + 1, hn, x, hx => by
    have hlen : (rowPix W P r n).length = 4 * n := by
      clear hx
      have : ∀ k, k ≤ n → (rowPix W P r k).length = 4 * k := by
        intro k
        induction k with
        | zero => intro _; simp [rowPix]
        | succ k ih =>
          intro hk
          have := hn k (by omega)
          rw [rowPix_succ, List.length_append, ih (by omega), List.length_take, List.length_drop]
          omega
      exact this n (Nat.le_refl _)
    rw [rowPix_succ]
    rcases Nat.lt_or_ge x n with h | h
    · rw [List.drop_append_of_le_length (by omega), List.take_append_of_le_length (by rw [List.length_drop]; omega)]
      exact rowPix_get W P r hl n (fun y hy => hn y (by omega)) x h
    · obtain rfl : x = n := by omega
      rw [List.drop_left' hlen, List.take_of_length_le (by rw [List.length_take]; omega)]
theorem sample8 {row : List UInt8} {i : Nat} {x : UInt8} (h : row[i]? = some x) : sampleN row 8 i = x.toNat := by
  unfold sampleN
  rw [if_neg (by decide), Nat.mul_div_cancel i (by decide), h, Nat.mul_mod_left]
  show x.toNat / 2 ^ 0 % 2 ^ 8 = _
  have := x.toNat_lt
  rw [Nat.pow_zero, Nat.div_one]
  omega
theorem samples8 {row : List UInt8} : samplesP row 8 row.length = row.map (·.toNat) := by
  refine List.ext_getElem? fun i => ?_
  unfold samplesP
  rw [List.getElem?_map, List.getElem?_map]
  rcases Nat.lt_or_ge i row.length with h | h
  · rw [List.getElem?_range h, List.getElem?_eq_getElem h]
    exact congrArg some (sample8 (List.getElem?_eq_getElem h))
  · rw [List.getElem?_eq_none (by simpa using h), List.getElem?_eq_none h]
    rfl
/-- A file whose head is an encoded one's. -/
structure FEnc (F : FilL) (W H : Nat) (lace : Bool) : Prop where
  h : F.h = encHead W H lace
  t : F.hasT = false
theorem color_enc {F : FilL} {W H : Nat} {lace : Bool} (hF : FEnc F W H lace) (a b c d : UInt8) : colorP F [a.toNat, b.toNat, c.toNat, d.toNat] = some [a, b, c, d] := by
  have hc : F.h.Color = 6 := by rw [hF.h]; rfl
  have hd : F.h.Depth = 8 := by rw [hF.h]; rfl
  have he : ∀ v : UInt8, eightP F.h.Depth v.toNat = v := fun v => by
    unfold eightP
    rw [hd, if_pos rfl]
    exact UInt8.toNat_inj.1 (by rw [UInt8.toNat_ofNat']; have := v.toNat_lt; omega)
  unfold colorP
  dsimp only
  rw [hF.t, Bool.false_and, if_neg (by rw [hc]; decide), if_neg (by rw [hc]; decide), if_neg (by decide), if_pos (Or.inr hc)]
  show some [eightP F.h.Depth a.toNat, eightP F.h.Depth b.toNat, eightP F.h.Depth c.toNat, eightP F.h.Depth d.toNat] = _
  rw [he, he, he, he]
theorem putRow_enc {F : FilL} {W H : Nat} {lace : Bool} (hF : FEnc F W H lace) {P : List UInt8} (hl : P.length = 4 * W * H) (r : PassP × Nat × Nat) {n : Nat} (hn : ∀ x, x < n → pixAt W r.1 r.2.1 x + 4 ≤ P.length) : ∀ (k : Nat) (m : List UInt8), k ≤ n →
    putRow F r.1 r.2.1 ((rowPix W P r n).map (·.toNat)) k m = some (putK P (rowKs W r k) m)
  | 0, m, _ => rfl
  | k + 1, m, hk => by
    have hsm : samplesOf F.h.Color = 4 := by rw [hF.h]; rfl
    have hW : F.h.W.toNat = W := by rw [hF.h]; rfl
    rw [putRow, putRow_enc hF hl r hn k m (by omega)]
    dsimp only
    rw [hsm, hW]
    obtain ⟨a, b, c, d, ht, _⟩ := take4_of (hn k (by omega))
    have hs4 : (((rowPix W P r n).map (·.toNat)).drop (4 * k)).take 4 = [a.toNat, b.toNat, c.toNat, d.toNat] := by
      rw [← List.map_drop, ← List.map_take, rowPix_get W P r hl n hn k (by omega), ht]
      rfl
    rw [hs4, color_enc hF]
    show some (set4 _ _ [a, b, c, d]) = _
    unfold putK rowKs
    rw [List.range_succ, List.map_append, List.foldl_append, ← ht]
    rfl
def allKs (W : Nat) (L : List (PassP × Nat × Nat)) : List Nat := L.flatMap fun r => rowKs W r r.2.2
theorem rows_enc {F : FilL} {W H : Nat} {lace : Bool} (hF : FEnc F W H lace) (hW : W ≤ 16384) {P : List UInt8} (hl : P.length = 4 * W * H) {kd : Nat} (hk : kd ≤ 4) (rest : List UInt8) : ∀ (L : List (PassP × Nat × Nat)) (ah m : List UInt8), (∀ r ∈ L, 1 ≤ r.2.2 ∧ r.2.2 ≤ W ∧ ∀ x, x < r.2.2 → pixAt W r.1 r.2.1 x + 4 ≤ P.length) →
    ∃ ah', rowsRun F L ⟨encBytes W P kd ah L ++ rest, ah, m⟩ = some ⟨rest, ah', putK P (allKs W L) m⟩
  | [], ah, m, _ => ⟨ah, rfl⟩
  | r :: L, ah, m, h => by
    obtain ⟨hr1, hr2, hr3⟩ := h r List.mem_cons_self
    have hsm : samplesOf F.h.Color = 4 := by rw [hF.h]; rfl
    have hdep : F.h.Depth = 8 := by rw [hF.h]; rfl
    have hrow : rowB F.h r.2.2 = 4 * r.2.2 := by
      unfold rowB rowP
      rw [hsm, hdep, if_neg (by have : isDepthP 8 = true := by decide
                                rw [this]; simp; omega)]
      have e : ((r.2.2 : Int) * ((4 : Nat) : Int) * 8 + 7) / 8 = 4 * (r.2.2 : Int) := by omega
      rw [e]
      omega
    have hstep : stepN F.h = 4 := by unfold stepN; rw [hsm, hdep]; rfl
    have hpl : (rowPix W P r r.2.2).length = 4 * r.2.2 := by
      rw [hl] at hr3
      exact rowPix_len hl r.2.2 hr3
    have hdo : (doP kd (rowPix W P r r.2.2) (aheadOf r.2.1 ah) 4).length = 4 * r.2.2 := by rw [doP_length, hpl]
    have hone : rowStep F r ⟨encBytes W P kd ah (r :: L) ++ rest, ah, m⟩ = some ⟨encBytes W P kd (rowPix W P r r.2.2) L ++ rest, rowPix W P r r.2.2, putK P (rowKs W r r.2.2) m⟩ := by
      have hkd : (UInt8.ofNat kd).toNat = kd := by rw [UInt8.toNat_ofNat']; omega
      have hE : encBytes W P kd ah (r :: L) = (UInt8.ofNat kd :: doP kd (rowPix W P r r.2.2) (aheadOf r.2.1 ah) 4) ++ encBytes W P kd (rowPix W P r r.2.2) L := rfl
      unfold rowStep
      rw [hE, List.cons_append, List.cons_append]
      dsimp only
      rw [hkd, if_neg (by omega), hrow, hstep, List.append_assoc, List.take_left' hdo, List.drop_left' hdo, undo_do kd _ _ 4 (by decide)]
      have hsam : samplesP (rowPix W P r r.2.2) F.h.Depth.toNat (samplesOf F.h.Color * r.2.2) = (rowPix W P r r.2.2).map (·.toNat) := by
        rw [hsm, hdep, ← hpl]
        exact samples8
      rw [hsam, putRow_enc hF hl r hr3 r.2.2 m (Nat.le_refl _)]
      rfl
    obtain ⟨ah', ih⟩ := rows_enc hF hW hl hk rest L (rowPix W P r r.2.2) (putK P (rowKs W r r.2.2) m) fun q hq => h q (List.mem_cons_of_mem _ hq)
    refine ⟨ah', ?_⟩
    rw [rowsRun, hone]
    dsimp only
    rw [ih]
    unfold putK allKs
    rw [List.flatMap_cons, List.foldl_append]
theorem putK_get (P : List UInt8) : ∀ (ks : List Nat) (m : List UInt8), m.length = P.length → (∀ k ∈ ks, k + 4 ≤ P.length) → (putK P ks m).length = P.length ∧ ∀ j, (putK P ks m)[j]? = if ∃ k ∈ ks, k ≤ j ∧ j < k + 4 then P[j]? else m[j]?
  | [], m, hm, _ => ⟨hm, fun j => by rw [if_neg (by simp)]; rfl⟩
  | k :: ks, m, hm, h => by
    have hk := h k List.mem_cons_self
    have hs : (set4 m k ((P.drop k).take 4)).length = P.length := by
      unfold set4
      simp only [List.length_append, List.length_take, List.length_drop]
      omega
    obtain ⟨i1, i2⟩ := putK_get P ks (set4 m k ((P.drop k).take 4)) hs fun q hq => h q (List.mem_cons_of_mem _ hq)
    refine ⟨i1, fun j => ?_⟩
    show (putK P ks (set4 m k ((P.drop k).take 4)))[j]? = _
    rw [i2 j]
    by_cases h1 : ∃ q ∈ ks, q ≤ j ∧ j < q + 4
    · obtain ⟨q, hq, hj⟩ := h1
      rw [if_pos ⟨q, hq, hj⟩, if_pos ⟨q, List.mem_cons_of_mem _ hq, hj⟩]
    · rw [if_neg h1]
      have hg : (set4 m k ((P.drop k).take 4))[j]? = if k ≤ j ∧ j < k + 4 then P[j]? else m[j]? := by
        unfold set4
        have l1 : (m.take k).length = k := by rw [List.length_take]; omega
        have l2 : ((P.drop k).take 4).length = 4 := by rw [List.length_take, List.length_drop]; omega
        by_cases c1 : j < k
        · rw [if_neg (by omega), List.append_assoc, List.getElem?_append_left (by omega), List.getElem?_take_of_lt c1]
        · rw [List.append_assoc, List.getElem?_append_right (by omega), l1]
          by_cases c2 : j < k + 4
          · rw [if_pos (by omega), List.getElem?_append_left (by omega), List.getElem?_take_of_lt (by omega), List.getElem?_drop]
            congr 1
            omega
          · rw [if_neg (by omega), List.getElem?_append_right (by omega), l2, List.getElem?_drop]
            congr 1
            omega
      rw [hg]
      by_cases h2 : k ≤ j ∧ j < k + 4
      · rw [if_pos h2, if_pos ⟨k, List.mem_cons_self, h2⟩]
      · rw [if_neg h2, if_neg]
        rintro ⟨q, hq, hj⟩
        rcases List.mem_cons.1 hq with rfl | hq
        · exact h2 hj
        · exact h1 ⟨q, hq, hj⟩
/-- Each pixel is in a pass. -/
theorem adam7 : ∀ a : Nat, a < 8 → ∀ b : Nat, b < 8 → ∃ p ∈ passesL, p.x ≤ a ∧ (a - p.x) % p.dx = 0 ∧ p.y ≤ b ∧ (b - p.y) % p.dy = 0 ∧ 8 % p.dx = 0 ∧ 8 % p.dy = 0 := by decide +kernel
theorem div_step {X a x dx : Nat} (ha : a = X % 8) (hx : x ≤ a) (h : (a - x) % dx = 0) (h8 : 8 % dx = 0) : (X - x) % dx = 0 := by
  have e : X - x = 8 * (X / 8) + (a - x) := by omega
  rw [e, Nat.add_mod, Nat.mul_mod, h8, Nat.zero_mul, h]
  simp
theorem covered {W H : Nat} {h : T_png_Head} (ho : HeadOk h W H) {X Y : Nat} (hX : X < W) (hY : Y < H) : ∃ r ∈ rowsL h, ∃ x, x < r.2.2 ∧ pixAt W r.1 r.2.1 x = 4 * (Y * W + X) := by
  have key : ∃ p ∈ passesP h.Lace, p.x ≤ X ∧ p.y ≤ Y ∧ (X - p.x) % p.dx = 0 ∧ (Y - p.y) % p.dy = 0 := by
    unfold passesP
    split
    · obtain ⟨p, hp, h1, h2, h3, h4, h5, h6⟩ := adam7 (X % 8) (Nat.mod_lt _ (by decide)) (Y % 8) (Nat.mod_lt _ (by decide))
      exact ⟨p, hp, by omega, by omega, div_step rfl h1 h2 h5, div_step rfl h3 h4 h6⟩
    · exact ⟨⟨0, 0, 1, 1⟩, by simp [onePass], Nat.zero_le _, Nat.zero_le _, Nat.mod_one _, Nat.mod_one _⟩
  obtain ⟨p, hp, h1, h2, h3, h4⟩ := key
  have hd := passes_dx h.Lace p hp
  have ex : (X - p.x) / p.dx * p.dx = X - p.x := Nat.div_mul_cancel (Nat.dvd_of_mod_eq_zero h3)
  have ey : (Y - p.y) / p.dy * p.dy = Y - p.y := Nat.div_mul_cancel (Nat.dvd_of_mod_eq_zero h4)
  have hsz : sizeP p W H = ((W - p.x - 1) / p.dx + 1, (H - p.y - 1) / p.dy + 1) := by unfold sizeP; rw [if_neg (by omega)]
  have hx : (X - p.x) / p.dx < (sizeP p W H).1 := by
    rw [hsz]
    exact Nat.lt_succ_of_le (Nat.div_le_div_right (by omega))
  have hy : (Y - p.y) / p.dy < (sizeP p W H).2 := by
    rw [hsz]
    exact Nat.lt_succ_of_le (Nat.div_le_div_right (by omega))
  refine ⟨(p, (Y - p.y) / p.dy, (sizeP p W H).1), ?_, (X - p.x) / p.dx, hx, ?_⟩
  · unfold rowsL
    rw [ho.wn, ho.hn]
    refine List.mem_flatMap.2 ⟨p, hp, ?_⟩
    unfold rowsOf
    exact List.mem_map.2 ⟨_, List.mem_range.2 hy, rfl⟩
  · unfold pixAt
    rw [ex, ey, show p.y + (Y - p.y) = Y by omega, Nat.add_assoc, show p.x + (X - p.x) = X by omega]
theorem rowsL_room {h : T_png_Head} {W H : Nat} (ho : HeadOk h W H) : ∀ r ∈ rowsL h, 1 ≤ r.2.2 ∧ r.2.2 ≤ W ∧ ∀ x, x < r.2.2 → pixAt W r.1 r.2.1 x + 4 ≤ 4 * W * H := by
  intro r hr
  obtain ⟨L, R, e⟩ := List.append_of_mem hr
  have ha := rowsL_split ho e
  refine ⟨by rw [ha.w]; exact sizeP_pos ha.y, by rw [ha.w]; exact (sizeP_le _ _ _).1, fun x hx => (pix_room (by rw [ha.w] at hx; exact hx) ha.y).1⟩
theorem pixels_enc {F : FilL} {W H : Nat} {lace : Bool} (hF : FEnc F W H lace) (h1 : 1 ≤ W) (h2 : W ≤ 16384) (h3 : 1 ≤ H) (h4 : H ≤ 16384) {P : List UInt8} (hl : P.length = 4 * W * H) (kind : Int) : pixelsP F (encAll W H P lace kind) = some P := by
  have ho : HeadOk F.h W H := by rw [hF.h]; exact encHead_ok lace h1 h2 h3 h4
  have hkd : kindOf kind ≤ 4 := by unfold kindOf; split <;> omega
  have hroom := rowsL_room ho
  rw [← hl] at hroom
  obtain ⟨ah', hrun⟩ := rows_enc hF h2 hl hkd [] (rowsL F.h) [] (List.replicate (4 * W * H) 0) hroom
  rw [List.append_nil] at hrun
  have hall : encAll W H P lace kind = encBytes W P (kindOf kind) [] (rowsL F.h) := by
    unfold encAll
    rw [enc_fold, List.nil_append, hF.h]
  unfold pixelsP
  rw [ho.wn, ho.hn, hall, hrun]
  show some (putK P (allKs W (rowsL F.h)) (List.replicate (4 * W * H) 0)) = some P
  congr 1
  obtain ⟨k1, k2⟩ := putK_get P (allKs W (rowsL F.h)) (List.replicate (4 * W * H) 0) (by rw [List.length_replicate, hl]) (fun k hk => by
    unfold allKs at hk
    obtain ⟨r, hr, hk⟩ := List.mem_flatMap.1 hk
    unfold rowKs at hk
    obtain ⟨x, hx, rfl⟩ := List.mem_map.1 hk
    exact (hroom r hr).2.2 x (List.mem_range.1 hx))
  refine List.ext_getElem? fun j => ?_
  rcases Nat.lt_or_ge j P.length with hj | hj
  · rw [k2 j, if_pos]
    have hq : j / 4 < W * H := by rw [hl, Nat.mul_assoc] at hj; omega
    have hX : j / 4 % W < W := Nat.mod_lt _ h1
    have hY : j / 4 / W < H := (Nat.div_lt_iff_lt_mul h1).2 (by rw [Nat.mul_comm]; exact hq)
    obtain ⟨r, hr, x, hx, e⟩ := covered ho hX hY
    refine ⟨pixAt W r.1 r.2.1 x, ?_, ?_⟩
    · unfold allKs rowKs
      exact List.mem_flatMap.2 ⟨r, hr, List.mem_map.2 ⟨x, List.mem_range.2 hx, rfl⟩⟩
    · have := Nat.div_add_mod (j / 4) W
      rw [Nat.mul_comm] at this
      rw [e, this]
      omega
  · rw [List.getElem?_eq_none (by omega), List.getElem?_eq_none hj]
theorem need_enc {W H : Nat} {lace : Bool} (h1 : 1 ≤ W) (h2 : W ≤ 16384) (h3 : 1 ≤ H) (h4 : H ≤ 16384) {P : List UInt8} (hl : P.length = 4 * W * H) (kind : Int) : (encAll W H P lace kind).length = needP (encHead W H lace) := by
  have ho := encHead_ok (W := W) (H := H) lace h1 h2 h3 h4
  have hroom := rowsL_room ho
  have key : ∀ (L : List (PassP × Nat × Nat)) (ah : List UInt8), (∀ r ∈ L, 1 ≤ r.2.2 ∧ r.2.2 ≤ W ∧ ∀ x, x < r.2.2 → pixAt W r.1 r.2.1 x + 4 ≤ 4 * W * H) → (encBytes W P (kindOf kind) ah L).length = needL (encHead W H lace) L := by
    intro L
    induction L with
    | nil => intro _ _; rfl
    | cons r L ih =>
      intro ah h
      obtain ⟨hr1, hr2, hr3⟩ := h r List.mem_cons_self
      have hrow : rowB (encHead W H lace) r.2.2 = 4 * r.2.2 := by
        unfold rowB rowP
        show (if (r.2.2 : Int) < 1 ∨ (r.2.2 : Int) > 16384 ∨ ((4 : Nat) : Int) < 1 ∨ ((4 : Nat) : Int) > 4 ∨ isDepthP 8 = false then 0 else (((r.2.2 : Int) * ((4 : Nat) : Int) * 8 + 7) / 8).toNat) = _
        rw [if_neg (by have : isDepthP 8 = true := by decide
                       rw [this]; simp; omega)]
        omega
      rw [encBytes, List.length_append, List.length_cons, doP_length, rowPix_len hl r.2.2 hr3, ih _ fun q hq => h q (List.mem_cons_of_mem _ hq)]
      unfold needL
      rw [List.map_cons, List.sum_cons, hrow]
      omega
  unfold encAll
  rw [enc_fold, List.nil_append, key _ _ hroom]
  rfl
end Go.Proofs.YtmagnpcgpinmcaaGreat

set_option linter.unusedVariables false
namespace Go.Proofs.YtmagnpcgpinmcaaGreat
open Go.Vc
set_option maxRecDepth 400000
theorem headD_len (W H : Nat) (lace : Bool) : (headD W H lace).length = 13 := rfl
theorem encCh_eq (W H : Nat) (P : List UInt8) (lace : Bool) (kind : Int) : encCh W H P lace kind = [⟨ihdrL, headD W H lace⟩, ⟨idatL, packL (storeL (encAll W H P lace kind)) (encAll W H P lace kind)⟩, ⟨iendL, []⟩] := rfl
theorem pack_len (bs : List UInt8) : (packL (storeL bs) bs).length ≤ 9 * bs.length + 26 := by
  have h := (body_le (fixed := false) (body := storeL bs) (bs := bs) ⟨fun _ => rfl, fun h => by cases h⟩).1
  unfold packL
  simp only [List.length_append, be4_len, List.length_cons, List.length_nil]
  omega
theorem all_len {W H : Nat} (lace : Bool) (h1 : 1 ≤ W) (h2 : W ≤ 1000) (h3 : 1 ≤ H) (h4 : H ≤ 1000) {P : List UInt8} (hl : P.length = 4 * W * H) (kind : Int) : (encAll W H P lace kind).length ≤ 28007000 := by
  have hho := encHead_ok (W := W) (H := H) lace h1 (by omega) h3 (by omega)
  have hlen := enc_len W P (kindOf kind) (rowsL (encHead W H lace)) ([], []) (rowsL_w hho)
  have hLl := rowsL_len2 hho
  have hlw : (rowsL (encHead W H lace)).length * (1 + 4 * W) ≤ 7000 * 4001 := Nat.mul_le_mul (by omega) (by omega)
  simp only [List.length_nil] at hlen
  unfold encAll
  omega
def encData (W H : Nat) (P : List UInt8) (lace : Bool) (kind : Int) : List UInt8 := packL (storeL (encAll W H P lace kind)) (encAll W H P lace kind)
theorem decF_enc {F : FilL} {W H : Nat} {lace : Bool} (hF : FEnc F W H lace) (h1 : 1 ≤ W) (h2 : W ≤ 16384) (h3 : 1 ≤ H) (h4 : H ≤ 16384) {P : List UInt8} (hl : P.length = 4 * W * H) (kind : Int) (hd : F.data = encData W H P lace kind) : decF F = (0, W, H, P) := by
  have hn : needP F.h = (encAll W H P lace kind).length := by rw [hF.h]; exact (need_enc h1 h2 h3 h4 hl kind).symm
  obtain ⟨u1, u2, u3⟩ := unpack_pack (bs := encAll W H P lace kind) (most := needP F.h) (by omega)
  unfold decF
  rw [hd]
  unfold encData
  rw [u1, u2, u3, if_neg (by decide), if_neg (by omega), pixels_enc hF h1 h2 h3 h4 hl kind]
  show (0, F.h.W.toNat, F.h.H.toNat, P) = _
  rw [hF.h]
  rfl
theorem decodeP_of {b : List UInt8} {pixels : Int} {c : ChL} {l : List ChL} (h : chunksP false b = (0, c :: l)) : decodeP b pixels = if (readCh c l pixels).1 ≠ 0 then ((readCh c l pixels).1, 0, 0, []) else decF (readCh c l pixels).2 := by
  unfold decodeP
  rw [readAll_of h]
theorem readCh_head {W H : Nat} (lace : Bool) (h1 : 1 ≤ W) (h2 : W ≤ 16384) (h3 : 1 ≤ H) (h4 : H ≤ 16384) {l : List ChL} {F : FilL} {pixels : Int} (ha : ((W * H : Nat) : Int) ≤ pixels ∧ ((W * H : Nat) : Int) ≤ 67108864) (ht : takeAll (fil0 (encHead W H lace)) l = (0, F)) (hD : F.hasD = true) :
    readCh ⟨ihdrL, headD W H lace⟩ l pixels = (0, F) := by
  unfold readCh
  rw [headP_enc lace h1 h2 h3 h4, if_neg (by simp)]
  have hm : (encHead W H lace).W * (encHead W H lace).H = ((W * H : Nat) : Int) := by show (W : Int) * (H : Int) = _; simp
  have hc : (encHead W H lace).Color = 6 := rfl
  dsimp only
  rw [hm, if_neg (by omega), ht, if_neg (by simp), if_neg]
  rw [hD, hc]
  simp
theorem encF (W H : Nat) (P : List UInt8) (lace : Bool) (kind : Int) : takeAll (fil0 (encHead W H lace)) [⟨idatL, encData W H P lace kind⟩, ⟨iendL, []⟩] = (0, { fil0 (encHead W H lace) with data := encData W H P lace kind, hasD := true, wasD := false }) := by
  have e1 : takeP (fil0 (encHead W H lace)) ⟨idatL, encData W H P lace kind⟩ = (0, { fil0 (encHead W H lace) with wasD := true, hasD := true, data := encData W H P lace kind }) := by
    unfold takeP
    rw [if_neg (by show ¬ idatL = ihdrL; decide), if_neg (by show ¬ idatL = plteL; decide), if_neg (by show ¬ idatL = trnsL; decide), if_pos rfl]
    rfl
  have e2 : ∀ F : FilL, takeP F ⟨iendL, []⟩ = (0, { F with wasD := false }) := fun F => by
    unfold takeP
    rw [if_neg (by show ¬ iendL = ihdrL; decide), if_neg (by show ¬ iendL = plteL; decide), if_neg (by show ¬ iendL = trnsL; decide), if_neg (by show ¬ iendL = idatL; decide), if_pos rfl, if_pos rfl]
  rw [takeAll, e1, if_neg (by simp)]
  dsimp only
  rw [takeAll, e2, if_neg (by simp)]
  rfl
theorem encData_good {W H : Nat} (lace : Bool) (h1 : 1 ≤ W) (h2 : W ≤ 1000) (h3 : 1 ≤ H) (h4 : H ≤ 1000) {P : List UInt8} (hl : P.length = 4 * W * H) (kind : Int) : (encData W H P lace kind).length < 2 ^ 31 := by
  have := pack_len (encAll W H P lace kind)
  have := all_len lace h1 h2 h3 h4 hl kind
  unfold encData
  omega
theorem chunks_enc {W H : Nat} (lace : Bool) (h1 : 1 ≤ W) (h2 : W ≤ 1000) (h3 : 1 ≤ H) (h4 : H ≤ 1000) {P : List UInt8} (hl : P.length = 4 * W * H) (kind : Int) : chunksP false (encodeP W H P lace kind) = (0, [⟨ihdrL, headD W H lace⟩, ⟨idatL, encData W H P lace kind⟩, ⟨iendL, []⟩]) := by
  have := chunksP_lay [⟨ihdrL, headD W H lace⟩, ⟨idatL, encData W H P lace kind⟩] ⟨iendL, []⟩ [] (fun c hc => by
    rcases List.mem_cons.1 hc with rfl | hc
    · exact ⟨ihdr_good W H lace, by show ¬ ihdrL = iendL; decide⟩
    · rcases List.mem_cons.1 hc with rfl | hc
      · exact ⟨idat_good (encData_good lace h1 h2 h3 h4 hl kind), by show ¬ idatL = iendL; decide⟩
      · cases hc) iend_good rfl
  have e : encodeP W H P lace kind = signL ++ ([⟨ihdrL, headD W H lace⟩, ⟨idatL, encData W H P lace kind⟩].flatMap layC ++ (layC ⟨iendL, []⟩ ++ [])) := by
    unfold encodeP layP
    rw [encCh_eq]
    simp [encData]
  rw [e, this]
  rfl
theorem decode_enc {W H : Nat} (lace : Bool) (h1 : 1 ≤ W) (h2 : W ≤ 1000) (h3 : 1 ≤ H) (h4 : H ≤ 1000) {P : List UInt8} (hl : P.length = 4 * W * H) (kind : Int) {pixels : Int} (hp : ((W * H : Nat) : Int) ≤ pixels) : decodeP (encodeP W H P lace kind) pixels = (0, W, H, P) := by
  have hWH : W * H ≤ 1000 * 1000 := Nat.mul_le_mul h2 h4
  rw [decodeP_of (chunks_enc lace h1 h2 h3 h4 hl kind), readCh_head lace h1 (by omega) h3 (by omega) ⟨hp, by omega⟩ (encF W H P lace kind) rfl, if_neg (by simp)]
  exact decF_enc ⟨rfl, rfl⟩ h1 (by omega) h3 (by omega) hl kind rfl
theorem info_enc {W H : Nat} (lace : Bool) (h1 : 1 ≤ W) (h2 : W ≤ 16384) (h3 : 1 ≤ H) (h4 : H ≤ 16384) (P : List UInt8) (kind : Int) : infoP (encodeP W H P lace kind) = (0, encHead W H lace) := by
  have e : encodeP W H P lace kind = signL ++ (layC ⟨ihdrL, headD W H lace⟩ ++ (layC ⟨idatL, encData W H P lace kind⟩ ++ layC ⟨iendL, []⟩)) := by
    unfold encodeP layP
    rw [encCh_eq]
    simp [encData]
  unfold infoP
  rw [e, chunksP_one _ _ (ihdr_good W H lace)]
  exact headP_enc lace h1 h2 h3 h4

/-! ### A turned bit -/
theorem chunkP_parts {n : Nat} {y s rest : List UInt8} (hn : n < 2 ^ 31) (hy : y.length = 4 + n) (hs : s.length = 4) : chunkP (be4 n ++ (y ++ (s ++ rest))) = if (y.take 4).all letterP = false then .err 3 else if crcN y ≠ bigN s then .err 4 else .ok ⟨y.take 4, y.drop 4⟩ (12 + n) := by
  have hl : (be4 n ++ (y ++ (s ++ rest))).length = 12 + n + rest.length := by simp only [List.length_append, be4_len, hy, hs]; omega
  have e4 : (be4 n ++ (y ++ (s ++ rest))).take 4 = be4 n := List.take_left' (be4_len _)
  have d4 : (be4 n ++ (y ++ (s ++ rest))).drop 4 = y ++ (s ++ rest) := List.drop_left' (be4_len _)
  have hb : bigN ((be4 n ++ (y ++ (s ++ rest))).take 4) = n := by rw [e4, big_be4 (by omega)]
  have t8 : ((be4 n ++ (y ++ (s ++ rest))).take 8).drop 4 = y.take 4 := by
    rw [List.drop_take, d4, List.take_append_of_le_length (by omega)]
  have tn4 : ((be4 n ++ (y ++ (s ++ rest))).take (8 + n)).drop 4 = y := by
    rw [List.drop_take, d4]
    exact List.take_left' (by omega)
  have tn8 : ((be4 n ++ (y ++ (s ++ rest))).take (8 + n)).drop 8 = y.drop 4 := by
    rw [show (8 : Nat) = 4 + 4 from rfl, ← List.drop_drop, show 4 + 4 + n = 8 + n by omega, tn4]
  have dn : (be4 n ++ (y ++ (s ++ rest))).drop (8 + n) = s ++ rest := by
    rw [show 8 + n = 4 + (4 + n) by omega, ← List.drop_drop, d4]
    exact List.drop_left' hy
  have ds : ((be4 n ++ (y ++ (s ++ rest))).drop (8 + n)).take 4 = s := by rw [dn]; exact List.take_left' hs
  unfold chunkP
  rw [hb, t8, tn4, tn8, ds, if_neg (by omega), if_neg (by omega), if_neg (by omega)]
  by_cases hx : (y.take 4).all letterP = false
  · rw [if_pos hx, if_pos hx]
  · rw [if_neg hx, if_neg hx, if_neg (by omega)]
theorem set_mid {α : Type} (a b c : List α) {i : Nat} (hi : i < b.length) (v : α) : (a ++ (b ++ c)).set (a.length + i) v = a ++ (b.set i v ++ c) := by
  rw [List.set_append_right _ _ (by omega), Nat.add_sub_cancel_left, List.set_append_left _ _ hi]
theorem crc_set {y : List UInt8} {i : Nat} {x v : UInt8} (hx : y[i]? = some x) (hv : v ≠ x) : crcN (y.set i v) ≠ crcN y := by
  obtain ⟨hi, e⟩ := List.getElem?_eq_some_iff.1 hx
  have e1 : y = y.take i ++ x :: y.drop (i + 1) := by rw [← e, ← List.drop_eq_getElem_cons, List.take_append_drop]
  have e2 : y.set i v = y.take i ++ v :: y.drop (i + 1) := by
    rw [List.set_eq_take_append_cons_drop, if_pos hi]
  rw [e2]
  conv => rhs; rw [e1]
  exact crc_turned _ _ hv
/-- One bit of the head's letters, data, sum turned: nothing is told. -/
theorem turned {W H : Nat} (lace : Bool) (P : List UInt8) (kind : Int) {k : Nat} (hk : k < 21) {x v : UInt8} (hx : (encodeP W H P lace kind)[12 + k]? = some x) (hv : v ≠ x) : ∃ n, n ≠ 0 ∧ (∀ pixels, (decodeP ((encodeP W H P lace kind).set (12 + k) v) pixels).1 = n) ∧ infoP ((encodeP W H P lace kind).set (12 + k) v) = (n, headZ) := by
  obtain ⟨y, hy⟩ : ∃ y, y = ihdrL ++ headD W H lace := ⟨_, rfl⟩
  obtain ⟨s, hs⟩ : ∃ s, s = be4 (crcN y) := ⟨_, rfl⟩
  have hyl : y.length = 4 + 13 := by rw [hy]; rfl
  have hsl : s.length = 4 := by rw [hs]; rfl
  obtain ⟨rest, hr⟩ : ∃ rest, rest = layC ⟨idatL, encData W H P lace kind⟩ ++ layC ⟨iendL, []⟩ := ⟨_, rfl⟩
  have e : encodeP W H P lace kind = signL ++ (be4 13 ++ (y ++ (s ++ rest))) := by
    unfold encodeP layP
    rw [encCh_eq]
    have : layC ⟨ihdrL, headD W H lace⟩ = be4 13 ++ (y ++ s) := by
      unfold layC
      rw [kind4_good (ihdr_good W H lace), hs, hy, headD_len]
      simp [List.append_assoc]
    rw [List.flatMap_cons, this, hr]
    simp [encData, List.append_assoc]
  have hset : ∃ y' s', (encodeP W H P lace kind).set (12 + k) v = signL ++ (be4 13 ++ (y' ++ (s' ++ rest))) ∧ y'.length = 4 + 13 ∧ s'.length = 4 ∧ crcN y' ≠ bigN s' := by
    rw [e] at hx ⊢
    have e12 : signL ++ (be4 13 ++ (y ++ (s ++ rest))) = (signL ++ be4 13) ++ (y ++ (s ++ rest)) := by rw [List.append_assoc]
    have l12 : (signL ++ be4 13).length = 12 := rfl
    rw [e12] at hx ⊢
    rw [List.getElem?_append_right (by omega), l12, Nat.add_sub_cancel_left] at hx
    by_cases hk17 : k < 17
    · rw [List.getElem?_append_left (by omega)] at hx
      have := set_mid (signL ++ be4 13) y (s ++ rest) (i := k) (by omega) v
      rw [l12] at this
      refine ⟨y.set k v, s, by rw [this, List.append_assoc], by rw [List.length_set, hyl], hsl, ?_⟩
      rw [hs, big_be4 (crcN_lt _)]
      exact crc_set hx hv
    · rw [List.getElem?_append_right (by omega), hyl, List.getElem?_append_left (by omega)] at hx
      have h2 := set_mid (signL ++ be4 13 ++ y) s rest (i := k - 17) (by omega) v
      have l29 : (signL ++ be4 13 ++ y).length = 29 := by rw [List.length_append, l12, hyl]
      rw [l29, show 29 + (k - 17) = 12 + k by omega] at h2
      refine ⟨y, s.set (k - 17) v, ?_, hyl, by rw [List.length_set, hsl], ?_⟩
      · rw [← List.append_assoc, h2]
        simp [List.append_assoc]
      · intro hc
        have hb : bigN s = crcN y := by rw [hs, big_be4 (crcN_lt _)]
        rw [← hb] at hc
        have hse := big_inj hsl (by rw [List.length_set, hsl]) hc
        have : s[k - 17]? = (s.set (k - 17) v)[k - 17]? := by rw [← hse]
        have hx : s[k - 17]? = some x := by rw [show k - 17 = k - (4 + 13) by omega]; exact hx
        rw [hx, List.getElem?_set_self (by omega)] at this
        exact hv (Option.some.inj this).symm
  obtain ⟨y', s', he, hyl', hsl', hne⟩ := hset
  have hcp := chunkP_parts (n := 13) (rest := rest) (by decide) hyl' hsl'
  obtain ⟨n, hn, hcpn⟩ : ∃ n, n ≠ 0 ∧ chunkP (be4 13 ++ (y' ++ (s' ++ rest))) = .err n := by
    rw [hcp]
    by_cases hx : (y'.take 4).all letterP = false
    · exact ⟨3, by decide, by rw [if_pos hx]⟩
    · exact ⟨4, by decide, by rw [if_neg hx, if_pos hne]⟩
  obtain ⟨h1, h2⟩ := signP_lay (be4 13 ++ (y' ++ (s' ++ rest)))
  have hchunks : ∀ one, chunksP one ((encodeP W H P lace kind).set (12 + k) v) = (n, []) := by
    intro one
    rw [he]
    have hl : (signL ++ (be4 13 ++ (y' ++ (s' ++ rest)))).length = (be4 13 ++ (y' ++ (s' ++ rest))).length + 7 + 1 := by rw [List.length_append]; show 8 + _ = _; omega
    have hf : chunksF one ((be4 13 ++ (y' ++ (s' ++ rest))).length + 7 + 1) (be4 13 ++ (y' ++ (s' ++ rest))) = (n, []) := by rw [chunksF, hcpn]
    unfold chunksP
    rw [h1, h2, if_neg (by decide), hl, hf, if_pos hn]
  refine ⟨n, hn, fun pixels => ?_, ?_⟩
  · have hr : (readAll ((encodeP W H P lace kind).set (12 + k) v) pixels).1 = n := by
      rw [readAll_err (by rw [hchunks]; exact hn), hchunks]
    unfold decodeP
    rw [hr, if_pos hn]
  · unfold infoP
    rw [hchunks]
    match n, hn with
    | n + 1, _ => rfl

/-! ### Other chunks between -/
end Go.Proofs.YtmagnpcgpinmcaaGreat

set_option linter.unusedVariables false
namespace Go.Proofs.YtmagnpcgpinmcaaGreat
open Go.Vc Go.RowKit
set_option maxRecDepth 400000
section
variable {w : World}
theorem pKnown_spec {K : Bool → World → Prop} (hK : ∀ w', Below w.heap.size w w' → K true w') : c_phosphorlaw9_known w K := by
  refine call_phosphorlaw9_known ?_
  unfold sh_phosphorlaw9_known
  refine nw_blk fun w1 h1 hB1 hs1 => nw_blk fun w2 h2 hB2 hs2 => ?_
  have hP1 : Rd E_uint8 w1 ⟨some ⟨w.heap.size, 0, none⟩, 8, 8⟩ [1, 2, 3, 4, 5, 6, 7, 8] := rd_lits (E := E_uint8) (ys := [1, 2, 3, 4, 5, 6, 7, 8]) h1 (by simp [maxLen]) rfl
  refine all_of h2 rfl fun w3 h3 hc3 hs3 => ?_
  have hB13 : Below w1.heap.size w1 w3 := below_one hB2 hc3 (Nat.le_refl _)
  have hB3 := below_t hB1 hB13
  have hP3 := hP1.ext hB13
  have h3 : Blk w3 w1.heap.size ty_api_Matrix (T_api_Matrix.rep.cells ⟨((1 : Nat) : Int), ((2 : Nat) : Int), ⟨some ⟨w.heap.size, 0, none⟩, 8, 8⟩⟩) := h3
  refine ldS_of (r := T_api_Matrix.rep) (x := ⟨((1 : Nat) : Int), ((2 : Nat) : Int), ⟨some ⟨w.heap.size, 0, none⟩, 8, 8⟩⟩) h3.cells ?_
  refine Encode_spec (lace := true) (kind := 4) hP3 (W := 1) (H := 2) rfl (by decide) (by decide) (by decide) (by decide) fun t10 w4 ht10 hB4 => ?_
  have hd := decode_enc true (W := 1) (H := 2) (P := [1, 2, 3, 4, 5, 6, 7, 8]) (by decide) (by decide) (by decide) (by decide) rfl 4 (pixels := 2) (by decide)
  have hlen : (encodeP 1 2 [1, 2, 3, 4, 5, 6, 7, 8] true 4).length ≤ 1000000 := by
    have h := layP_len (encCh 1 2 [1, 2, 3, 4, 5, 6, 7, 8] true 4)
    have h2 := pack_len (encAll 1 2 [1, 2, 3, 4, 5, 6, 7, 8] true 4)
    have h3 := need_enc (W := 1) (H := 2) (lace := true) (P := [1, 2, 3, 4, 5, 6, 7, 8]) (by decide) (by decide) (by decide) (by decide) rfl 4
    have h4 := needP_le (encHead_ok (W := 1) (H := 2) true (by decide) (by decide) (by decide) (by decide)) (M := 2) (by decide)
    unfold encodeP
    rw [h, encCh_eq]
    unfold dsum
    simp only [List.map_cons, List.map_nil, List.sum_cons, List.sum_nil, headD_len, List.length_cons, List.length_nil]
    omega
  refine Decode_spec ht10.rd (fun k hk => (ht10.lt k hk).2) hlen (by decide) (fun hne => absurd (congrArg Prod.fst hd) hne) (fun W H m hdm s w5 hs hml hB5 => ?_)
  rw [hd] at hdm
  injection hdm with _ hdm
  injection hdm with e1 hdm
  injection hdm with e2 e3
  subst e1 e2 e3
  refine nw_blk fun w6 h6 hB6 hs6 => all_of h6 rfl fun w7 h7 hc7 hs7 => ?_
  have hB57 : Below w5.heap.size w5 w7 := below_one hB6 hc7 (Nat.le_refl _)
  have hB37 := below_t (below_t hB4 hB5) hB57
  have h37 := h3.ext hB37
  refine ldS_of (r := T_api_Matrix.rep) (x := ⟨((1 : Nat) : Int), ((2 : Nat) : Int), ⟨some ⟨w.heap.size, 0, none⟩, 8, 8⟩⟩) h37.cells ?_
  refine Encode_spec (lace := false) (kind := 0) (hP3.ext hB37) (W := 1) (H := 2) rfl (by decide) (by decide) (by decide) (by decide) fun t16 w8 ht16 hB8 => ?_
  have hi := info_enc false (W := 1) (H := 2) (by decide) (by decide) (by decide) (by decide) [1, 2, 3, 4, 5, 6, 7, 8] 0
  have hlen2 : (encodeP 1 2 [1, 2, 3, 4, 5, 6, 7, 8] false 0).length ≤ 1000000 := by
    have h := layP_len (encCh 1 2 [1, 2, 3, 4, 5, 6, 7, 8] false 0)
    have h2 := pack_len (encAll 1 2 [1, 2, 3, 4, 5, 6, 7, 8] false 0)
    have h3 := need_enc (W := 1) (H := 2) (lace := false) (P := [1, 2, 3, 4, 5, 6, 7, 8]) (by decide) (by decide) (by decide) (by decide) rfl 0
    have h4 := needP_le (encHead_ok (W := 1) (H := 2) false (by decide) (by decide) (by decide) (by decide)) (M := 2) (by decide)
    unfold encodeP
    rw [h, encCh_eq]
    unfold dsum
    simp only [List.map_cons, List.map_nil, List.sum_cons, List.sum_nil, headD_len, List.length_cons, List.length_nil]
    omega
  refine Info_spec ht16.rd (fun k hk => (ht16.lt k hk).2) hlen2 fun w9 hB9 => ?_
  rw [hi]
  refine nw_blk fun w10 h10 hB10 hs10 => all_of h10 rfl fun w11 h11 hc11 hs11 => ?_
  have hB911 : Below w9.heap.size w9 w11 := below_one hB10 hc11 (Nat.le_refl _)
  have hB711 := below_t (below_t hB8 hB9) hB911
  refine cond_t rfl ?_
  have h711 := h7.ext hB711
  refine ldSl_of (x := s) (h711.cells 2 _ rfl) ?_
  have hs11' := (hs.ext hB57).ext hB711
  refine ⟨_, _, run_bytes_strB hs11'.rd, ?_⟩
  have h311 := h37.ext hB711
  refine ldSl_of (x := ⟨some ⟨w.heap.size, 0, none⟩, 8, 8⟩) (h311.cells 2 _ rfl) ?_
  refine ⟨_, _, run_bytes_strB ((hP3.ext hB37).ext hB711), ?_⟩
  dsimp only
  refine cond_t (beq_self_eq_true _) ?_
  refine ldS_of (r := T_png_Head.rep) (x := encHead 1 2 false) h11.cells ?_
  refine cond_t rfl (Samples_spec ?_)
  exact hK w11 (below_t (below_t hB3 hB37) hB711)

end
end Go.Proofs.YtmagnpcgpinmcaaGreat

set_option linter.unusedVariables false
namespace Go.Proofs.YtmagnpcgpinmcaaGreat
open Go.Vc Go.RowKit
set_option maxRecDepth 400000
section
variable {w : World}
end
end Go.Proofs.YtmagnpcgpinmcaaGreat

set_option linter.unusedVariables false
namespace Go.Proofs.YtmagnpcgpinmcaaGreat
open Go.Vc Go.RowKit
set_option maxRecDepth 400000
section
variable {w : World}
end
end Go.Proofs.YtmagnpcgpinmcaaGreat

set_option linter.unusedVariables false
namespace Go.Vc
open Go.ChangeShapes Go.WideShapes Go.ChangeAt Go.RowKit Go.Deep
/-! ### Types that hold slices of one element type among their leaves -/
section
variable {H : Type} {enc : TypeId × Value → H} {P : Program} {w : World} {base : Nat} {spare : Nat → Bool} {held : Bool}
end
end Go.Vc
namespace Go.Proofs.YtmagnpcgpinmcaaGreat
open Go.Vc Go.ChangeShapes Go.WideShapes Go.ChangeAt Go.RowKit
set_option maxRecDepth 100000
def matE : El T_api_Matrix where
  cells := T_api_Matrix.rep.cells
  t := ty_api_Matrix
  k := 3
  pos := by decide
  len _ := rfl
  one x v hv := by
    simp only [T_api_Matrix.rep, List.mem_cons, List.mem_nil_iff, or_false] at hv
    rcases hv with rfl | rfl | rfl <;> rfl
section
variable {H : Type} {enc : TypeId × Value → H} {w : World} {base : Nat} {held : Bool} {r : Reach} {b0 : Nat} {v : Value} {d : DataW H} {p : List MemPlace}
end
def headLs : List Leaf := [.int .i64, .int .i64, .int .i64, .int .i64, .int .i64]
theorem head_leaves : leavesL Tryz.prog 4 ty_png_Head = some headLs := by kernel_rfl
def headE : El T_png_Head where
  cells := T_png_Head.rep.cells
  t := ty_png_Head
  k := 5
  pos := by decide
  len _ := rfl
  one x v hv := by
    simp only [T_png_Head.rep, List.mem_cons, List.mem_nil_iff, or_false] at hv
    rcases hv with rfl | rfl | rfl | rfl | rfl <;> rfl
theorem head_mk (vs : List Value) (hl : vs.length = 5) (h : LeafFit headLs vs) : ∃ x : T_png_Head, headE.cells x = vs ∧ True := by
  obtain ⟨z0, h0, _⟩ := leaf_int h 0 rfl
  obtain ⟨z1, h1, _⟩ := leaf_int h 1 rfl
  obtain ⟨z2, h2, _⟩ := leaf_int h 2 rfl
  obtain ⟨z3, h3, _⟩ := leaf_int h 3 rfl
  obtain ⟨z4, h4, _⟩ := leaf_int h 4 rfl
  refine ⟨⟨z0, z1, z2, z3, z4⟩, list_of_get hl fun j hj => ?_, trivial⟩
  match j, hj with
  | 0, _ => exact h0.symm
  | 1, _ => exact h1.symm
  | 2, _ => exact h2.symm
  | 3, _ => exact h3.symm
  | 4, _ => exact h4.symm
  | j + 5, hj => exact absurd hj (by simp [headE, T_png_Head.rep])
section
variable {H : Type} {enc : TypeId × Value → H} {w : World} {base : Nat} {held : Bool} {r : Reach} {b0 : Nat} {v : Value} {d : DataW H} {p : List MemPlace}
theorem open_head {fs : Array Field} (ht : Tryz.prog.underlying ty_png_Head = some (.struct fs)) (hv : Value.okWide Tryz.prog w r b0 ty_png_Head v) (h : DataW.Trod enc Tryz.prog w base (fun _ => true) held ty_png_Head v d p) : ∃ x : T_png_Head, v = .agg (headE.cells x).toArray ∧ True :=
  agg_of_trod headE (fun _ => True) ht (by kernel_rfl) head_leaves head_mk hv h
end
end Go.Proofs.YtmagnpcgpinmcaaGreat

set_option linter.unusedVariables false
namespace Go.Proofs.YtmagnpcgpinmcaaGreat
open Go.Vc Go.RowKit
set_option maxRecDepth 400000
section
variable {w : World}
theorem rSamples_spec {color : Int} {K : Int → World → Prop} (hK : K ((samplesOf color : Nat) : Int) w) : c_phosphorref9_Samples color w K := by
  refine call_phosphorref9_Samples _ ?_
  unfold sh_phosphorref9_Samples
  refine joinP_of fun J hJ => ?_
  unfold samplesOf at hK
  have h2 : ∀ b : Bool, (b = true ↔ color = 0 ∨ color = 3) → J (b, ()) w := fun b hb => hJ _ _ (by
    refine cond_of (fun h => ?_) fun h => ?_
    · rw [if_pos (hb.1 h)] at hK
      exact hK
    · rw [if_neg (fun e => by rw [hb.2 e] at h; cases h)] at hK
      refine cond_of (fun h => ?_) fun h => ?_
      · rw [if_pos (by simpa using h)] at hK
        exact hK
      · rw [if_neg (by simpa using h)] at hK
        refine cond_of (fun h => ?_) fun h => ?_
        · rw [if_pos (by simpa using h)] at hK
          exact hK
        · rw [if_neg (by simpa using h)] at hK
          refine cond_of (fun h => ?_) fun h => ?_
          · rw [if_pos (by simpa using h)] at hK
            exact hK
          · rw [if_neg (by simpa using h)] at hK
            exact hK)
  refine cond_of (fun h => h2 _ ?_) fun h => h2 _ ?_
  · have h : color = 0 := by simpa using h
    simp [h]
  · have h : color ≠ 0 := by simpa using h
    simp [h]
theorem rCheck_spec {h : T_png_Head} {K : Int → World → Prop} (hK : ∀ w', Below w.heap.size w w' → K ((checkP h : Nat) : Int) w') : c_phosphorref9_Check h w K := by
  refine call_phosphorref9_Check _ ?_
  unfold sh_phosphorref9_Check
  refine nw_blk fun w1 h1 hB1 hs1 => ?_
  refine joinP_of fun J1 hJ1 => ?_
  unfold checkP at hK
  refine ldI_of (x := h.W) (h1.cells 0 _ rfl) ?_
  refine cond_of (fun c1 => ?_) fun c1 => ?_
  · have c1 := of_decide_eq_true c1
    rw [if_pos (by omega)] at hK
    exact hK w1 hB1
  have c1 := of_decide_eq_false c1
  refine ldI_of (x := h.W) (h1.cells 0 _ rfl) ?_
  refine cond_of (fun c2 => ?_) fun c2 => ?_
  · have c2 := of_decide_eq_true c2
    rw [if_pos (by omega)] at hK
    exact hK w1 hB1
  have c2 := of_decide_eq_false c2
  refine ldI_of (x := h.H) (h1.cells 1 _ rfl) ?_
  refine cond_of (fun c3 => ?_) fun c3 => ?_
  · have c3 := of_decide_eq_true c3
    rw [if_pos (by omega)] at hK
    exact hK w1 hB1
  have c3 := of_decide_eq_false c3
  refine ldI_of (x := h.H) (h1.cells 1 _ rfl) ?_
  refine cond_of (fun c4 => ?_) fun c4 => ?_
  · have c4 := of_decide_eq_true c4
    rw [if_pos (by omega)] at hK
    exact hK w1 hB1
  have c4 := of_decide_eq_false c4
  rw [if_neg (by omega)] at hK
  refine hJ1 _ _ ?_
  refine ldI_of (x := h.Depth) (h1.cells 2 _ rfl) (joinP_of fun J2 hJ2 => ?_)
  have key : ∀ ok : Bool, ok = depthOk h → J2 (ok, ()) w1 := by
    intro ok hok
    refine hJ2 _ _ ?_
    refine ldI_of (x := h.Color) (h1.cells 3 _ rfl) (rSamples_spec ?_)
    refine cond_of (fun e => ?_) fun e => ?_
    · have e : samplesOf h.Color = 0 := by
        have : ((samplesOf h.Color : Nat) : Int) = 0 := by simpa using e
        omega
      rw [if_pos (.inl e)] at hK
      exact hK w1 hB1
    have e : samplesOf h.Color ≠ 0 := by
      have : ((samplesOf h.Color : Nat) : Int) ≠ 0 := by simpa using e
      omega
    rw [hok]
    refine cond_of (fun e2 => ?_) fun e2 => ?_
    · have e2 : depthOk h = false := by simpa using e2
      rw [if_pos (.inr (.inl e2))] at hK
      exact hK w1 hB1
    have e2 : depthOk h = true := by simpa using e2
    refine ldI_of (x := h.Lace) (h1.cells 4 _ rfl) ?_
    refine cond_of (fun e3 => ?_) fun e3 => ?_
    · have e3 := of_decide_eq_true e3
      rw [if_pos (.inr (.inr (.inl e3)))] at hK
      exact hK w1 hB1
    have e3 := of_decide_eq_false e3
    refine ldI_of (x := h.Lace) (h1.cells 4 _ rfl) ?_
    refine cond_of (fun e4 => ?_) fun e4 => ?_
    · have e4 := of_decide_eq_true e4
      rw [if_pos (.inr (.inr (.inr e4)))] at hK
      exact hK w1 hB1
    have e4 := of_decide_eq_false e4
    rw [if_neg (by rw [e2]; simp; omega)] at hK
    exact hK w1 hB1
  have kt : (h.Depth = 8 ∨ h.Depth = 16 ∧ h.Color ≠ 3 ∨ (h.Color = 0 ∨ h.Color = 3) ∧ (h.Depth = 1 ∨ h.Depth = 2 ∨ h.Depth = 4)) → J2 (true, ()) w1 := fun hh => key true (by unfold depthOk; exact (decide_eq_true hh).symm)
  have kf : ¬ (h.Depth = 8 ∨ h.Depth = 16 ∧ h.Color ≠ 3 ∨ (h.Color = 0 ∨ h.Color = 3) ∧ (h.Depth = 1 ∨ h.Depth = 2 ∨ h.Depth = 4)) → J2 (false, ()) w1 := fun hh => key false (by unfold depthOk; exact (decide_eq_false hh).symm)
  refine cond_of (fun e => kt (.inl (eq_of_beq e))) fun e8 => ?_
  have e8 : h.Depth ≠ 8 := by simpa using e8
  have low : ¬ (h.Depth = 16 ∧ h.Color ≠ 3) → ∀ (hc : h.Color = 0 ∨ h.Color = 3), cond (h.Depth == (1 : Int)) (J2 (true, ()) w1) (cond (h.Depth == (2 : Int)) (J2 (true, ()) w1) (J2 ((h.Depth == (4 : Int)), ()) w1)) := by
    intro hx16 hc
    refine cond_of (fun e => kt (.inr (.inr ⟨hc, .inl (eq_of_beq e)⟩))) fun e1 => ?_
    have e1 : h.Depth ≠ 1 := by simpa using e1
    refine cond_of (fun e => kt (.inr (.inr ⟨hc, .inr (.inl (eq_of_beq e))⟩))) fun e2 => ?_
    have e2 : h.Depth ≠ 2 := by simpa using e2
    by_cases e4 : h.Depth = 4
    · rw [beqI_t e4]; exact kt (.inr (.inr ⟨hc, .inr (.inr e4)⟩))
    · rw [beqI_f e4]
      refine kf fun hh => ?_
      rcases hh with hh | ⟨hh, hh2⟩ | ⟨_, hh | hh | hh⟩
      · exact e8 hh
      · rcases hc with hc | hc
        · exact hx16 ⟨hh, hh2⟩
        · exact hh2 hc
      · exact e1 hh
      · exact e2 hh
      · exact e4 hh
  have rest : ¬ (h.Depth = 16 ∧ h.Color ≠ 3) → ldI .i64 ((⟨w.heap.size, 0, none⟩ : Addr).add 3) w1 fun t38 =>
            cond (t38 == (0 : Int))
              (cond (h.Depth == (1 : Int)) (J2 (true, ()) w1) (cond (h.Depth == (2 : Int)) (J2 (true, ()) w1) (J2 ((h.Depth == (4 : Int)), ()) w1)))
              (ldI .i64 ((⟨w.heap.size, 0, none⟩ : Addr).add 3) w1 fun t42 =>
               cond (t42 == (3 : Int))
                 (cond (h.Depth == (1 : Int)) (J2 (true, ()) w1) (cond (h.Depth == (2 : Int)) (J2 (true, ()) w1) (J2 ((h.Depth == (4 : Int)), ()) w1)))
                 (J2 (false, ()) w1)) := by
    intro hn
    refine ldI_of (x := h.Color) (h1.cells 3 _ rfl) (cond_of (fun e => low hn (.inl (eq_of_beq e))) fun e0 => ?_)
    have e0 : h.Color ≠ 0 := by simpa using e0
    refine ldI_of (x := h.Color) (h1.cells 3 _ rfl) (cond_of (fun e => low hn (.inr (eq_of_beq e))) fun e3 => ?_)
    have e3 : h.Color ≠ 3 := by simpa using e3
    exact kf fun hh => by
      rcases hh with hh | hh | ⟨hh | hh, _⟩
      · exact e8 hh
      · exact hn hh
      · exact e0 hh
      · exact e3 hh
  refine cond_of (fun e => ?_) fun e => ?_
  · have e16 : h.Depth = 16 := eq_of_beq e
    refine ldI_of (x := h.Color) (h1.cells 3 _ rfl) (cond_of (fun e => kt (.inr (.inl ⟨e16, by simpa using e⟩))) fun e => rest ?_)
    have : h.Color = 3 := by simpa using e
    omega
  · have e16 : h.Depth ≠ 16 := by simpa using e
    exact rest fun h => e16 h.1
end
end Go.Proofs.YtmagnpcgpinmcaaGreat

set_option linter.unusedVariables false
namespace Go.Proofs.YtmagnpcgpinmcaaGreat
open Go.Vc Go.RowKit
set_option maxRecDepth 400000
section
variable {w : World}
theorem heads_law {h : T_png_Head} {K : Bool → World → Prop} (hK : ∀ w', Below w.heap.size w w' → K true w') : c_phosphorlaw9_PngHeads h w K := by
  refine call_phosphorlaw9_PngHeads _ ?_
  unfold sh_phosphorlaw9_PngHeads
  refine nw_blk fun w1 h1 hB1 hs1 => ?_
  refine pKnown_spec fun w2 hB2 => cond_f rfl ?_
  have h2 : Blk w2.drew w.heap.size ty_png_Head (T_png_Head.rep.cells h) := (h1.ext hB2).drew
  refine ldS_of (r := T_png_Head.rep) (x := h) h2.cells (ldS_of (r := T_png_Head.rep) (x := h) h2.cells ?_)
  have hBd := below_t (below_t hB1 hB2) (below_drew w2)
  refine Check_spec fun w3 hB3 => ⟨(h2.ext hB3).cells, rCheck_spec fun w4 hB4 => ?_⟩
  rw [beq_self_eq_true]
  refine cond_t rfl ?_
  have h4 := (h2.ext hB3).ext hB4
  have hc := h4.cells 3 _ rfl
  refine ldI_of (x := h.Color) hc (ldI_of (x := h.Color) hc (Samples_spec ⟨hc, rSamples_spec ?_⟩))
  rw [beq_self_eq_true]
  exact hK w4 (below_t (below_t hBd hB3) hB4)
end
end Go.Proofs.YtmagnpcgpinmcaaGreat
