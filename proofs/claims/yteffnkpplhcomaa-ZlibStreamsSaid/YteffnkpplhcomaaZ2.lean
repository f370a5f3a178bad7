/- The program's zlib: Unpack and Pack. -/
import Derived.Test.YteffnkpplhcomaaZ1
import Derived.Test.YteffnkpplhcomaaC1
namespace Go.Proofs.Yteffnkpplhcomaa
open Go.Vc Go.RowKit
set_option maxRecDepth 400000

/-! ### The head -/
def zh1 (c : UInt8) : Bool := c.toNat % 16 == 8 && decide (c.toNat / 16 ≤ 7)
def zh2 (a c : UInt8) : Bool := (a.toNat * 256 + c.toNat) % 31 == 0 && c.toNat &&& 32 == 0
def zCells (d : Nat) (head tail : Slc) (s : Nat) (failed : Int) : List Value := [.pointer (some ⟨d, 0, none⟩), .slice head.a head.n head.c, .slice tail.a tail.n tail.c, .iface ty_p_sums_Adler (.pointer (some ⟨s, 0, none⟩)), .int .i64 0, .int .i64 failed]

section
variable {w : World} {base : Nat} {F : DF} {S : DS}
theorem zfail_spec {z d s : Nat} {head tail : Slc} {f0 e : Int} {K : Int → World → Prop} (hz : Blk w z ty_zlib_Decoder (zCells d head tail s f0)) (hK : ∀ w', Chg (fun k => k = z) w w' → K e w') : c_zlib_Decoder_fail (some ⟨z, 0, none⟩) e w K := by
  refine call_zlib_Decoder_fail _ _ ?_
  unfold sh_zlib_Decoder_fail
  simp only [onPtr_some]
  rw [add_mk]
  exact stK_blk hz (by simp [zCells]) fun w1 hb1 hg1 hs1 => hK w1 (Chg.gg hg1)
theorem Done_blk {K : Bool → World → Prop} (h : Blk w F.d ty_inflate_Decoder (decCells F S 0)) (hK : K (S.c.mode == 5) w) : c_inflate_Decoder_Done (some ⟨F.d, 0, none⟩) w K := by
  refine call_inflate_Decoder_Done _ ?_
  unfold sh_inflate_Decoder_Done
  simp only [onPtr_some]
  refine ldI_of (x := ((S.c.mode : Nat) : Int)) (h.cells 1 _ rfl) ?_
  refine cond_of (fun e => ?_) (fun e => ?_)
  · have e : S.c.mode = 5 := by have := eq_of_beq e; omega
    rw [e] at hK
    exact ldI_of (x := 0) (h.cells 13 _ rfl) hK
  · have e : S.c.mode ≠ 5 := by have := beq_eq_false_iff_ne.1 e; omega
    rw [show (S.c.mode == 5) = false from beq_eq_false_iff_ne.2 e] at hK
    exact hK
theorem Used_blk {K : Int → World → Prop} (h : Blk w F.d ty_inflate_Decoder (decCells F S 0)) (h5 : S.c.mode = 5) (hK : K ((S.took : Nat) : Int) w) : c_inflate_Decoder_Used (some ⟨F.d, 0, none⟩) w K := by
  refine call_inflate_Decoder_Used _ ?_
  unfold sh_inflate_Decoder_Used
  simp only [onPtr_some]
  refine Done_blk h ?_
  exact cond_t (by rw [h5]; rfl) (ldI_of (x := ((S.took : Nat) : Int)) (h.cells 11 _ rfl) hK)

/-- What stands behind the stream: at most four bytes. -/
def tailL (c : Cfg) (p : Nat) (rs : List UInt8) : List UInt8 := if c.mode = 5 then (rs.drop ((p + 7) / 8)).take 4 else []

/-- Behind the head. -/
theorem zrest {z s : Nat} {head r : Slc} {rs : List UInt8} {most : Nat} {c1 : Cfg} {a1 : Nat} {r0 : SR} {K : Slc → Int → World → Prop}
    (hz : Blk w z ty_zlib_Decoder (zCells F.d head nilS s 0)) (hs : Blk w s ty_sums_Adler (adlCells (1, 0))) (hzb : base ≤ z) (hsb : base ≤ s) (h : DecM w base F S) (f : Fed F S [] 0) (ec : S.c = cfg0) (em : S.most = most)
    (hdz : ∀ k, dS F k → k ≠ z ∧ k ≠ s) (hw0 : F.wait.blk = none) (hr : Rd E_uint8 w r rs) (hrb : ∀ k, r.blk = some k → ¬ dS F k ∧ k ≠ z ∧ k ≠ s) (hl : rs.length ≤ 1000000000) (hbase : base ≤ w.heap.size) (hrh : ∀ k, r.blk = some k → k < w.heap.size)
    (hch : Ch most rs cfg0 0 c1 a1) (hst : step1 most rs a1 c1 = r0) (hr0 : ∀ c a, r0 ≠ .next c a)
    (hE : ∀ n : Nat, r0 = .err n → (n = 3 ∨ n = 5) → ∀ w', Below base w w' → K nilS n w')
    (hS : (tailL c1 a1 rs).length = 4 → bigN (tailL c1 a1 rs) ≠ adlN c1.hist → ∀ w', Below base w w' → K nilS 4 w')
    (hO : (∀ n, r0 ≠ .err n) → ((tailL c1 a1 rs).length = 4 → bigN (tailL c1 a1 rs) = adlN c1.hist) → ∀ o tail F' S' w', Own E_uint8 w' base o c1.hist → Blk w' z ty_zlib_Decoder (zCells F'.d head tail s 0) → Blk w' F'.d ty_inflate_Decoder (decCells F' S' 0) → S'.c = c1 → (c1.mode = 5 → S'.took = (a1 + 7) / 8) → tail.n = (tailL c1 a1 rs).length → Below base w w' → K o 0 w') :
    onPtr (some ⟨z, 0, none⟩) fun t40 =>
             ldP (t40.add 0) w fun t42 =>
             c_inflate_Decoder_Given t42 w fun t43 w5 =>
             onPtr (some ⟨z, 0, none⟩) fun t46 =>
             ldP (t46.add 0) w5 fun t48 =>
             c_inflate_Decoder_Write t48 r w5 fun t50 t50_1 w6 =>
             cond (t50_1 != (0 : Int))
               (c_zlib_Decoder_fail (some ⟨z, 0, none⟩) t50_1 w6 fun t57 w7 =>
                K (⟨none, 0, 0⟩ : Slc) t57 w7)
               (onPtr (some ⟨z, 0, none⟩) fun t59 =>
                ldR (t59.add 3) w6 fun t61 =>
                callI C t61 "Write" [(.slice t50.a t50.n t50.c)] [(Kind.int .i64), Kind.raw] w6 fun (t63 : Int) (t63_1 : Value) w8 =>
                onPtr (some ⟨z, 0, none⟩) fun t65 =>
                ldP (t65.add 0) w8 fun t67 =>
                c_inflate_Decoder_Done t67 w8 fun t68 w9 =>
                cond (!t68)
                  (K t50 0 w9)
                  (onPtr (some ⟨z, 0, none⟩) fun t73 =>
                   ldP (t73.add 0) w9 fun t75 =>
                   c_inflate_Decoder_Used t75 w9 fun t76 w10 =>
                   slK r (some (if ((r.n : Nat) : Int) < (if (0 : Int) > (IntKind.i64.wrap (t76 - t43)) then (0 : Int) else (IntKind.i64.wrap (t76 - t43))) then ((r.n : Nat) : Int) else (if (0 : Int) > (IntKind.i64.wrap (t76 - t43)) then (0 : Int) else (IntKind.i64.wrap (t76 - t43))))) none 1 fun t83 =>
                   onPtr (some ⟨z, 0, none⟩) fun t86 =>
                   ldSl (t86.add 2) w10.drew fun t88 =>
                   onPtr (some ⟨z, 0, none⟩) fun t93 =>
                   ldSl (t93.add 2) w10.drew fun t95 =>
                   slK t83 none (some (if (IntKind.i64.wrap ((4 : Int) - ((t95.n : Nat) : Int))) < ((t83.n : Nat) : Int) then (IntKind.i64.wrap ((4 : Int) - ((t95.n : Nat) : Int))) else ((t83.n : Nat) : Int))) 1 fun t99 =>
                   nw ty_sl_uint8 [(.slice t88.a t88.n t88.c), (.slice t99.a t99.n t99.c)] w10.drew fun t100 w11 =>
                   c_slices_Concat_byte_byte (⟨(some t100), 2, 2⟩ : Slc) w11 fun t101 w12 =>
                   onPtr (some ⟨z, 0, none⟩) fun t102 =>
                   stK (t102.add 2) [(.slice t101.a t101.n t101.c)] w12 fun w13 =>
                   joinP (σ := Bool × Unit) (fun s_2 w14 =>
                     cond s_2.1
                       (c_zlib_Decoder_fail (some ⟨z, 0, none⟩) 4 w14 fun t124 w15 =>
                        K (⟨none, 0, 0⟩ : Slc) t124 w15)
                       (K t50 0 w14)) fun J3 =>
                   onPtr (some ⟨z, 0, none⟩) fun t105 =>
                   ldSl (t105.add 2) w13.drew fun t107 =>
                   cond (((t107.n : Nat) : Int) == (4 : Int))
                     (onPtr (some ⟨z, 0, none⟩) fun t112 =>
                      ldSl (t112.add 2) w13.drew fun t114 =>
                      onPtr (some ⟨z, 0, none⟩) fun t117 =>
                      ldR (t117.add 3) w13.drew fun t119 =>
                      c_bits_Big t114 w13.drew fun t115 w16 =>
                      World.cell? w16 (t117.add 3) = some t119 ∧
                      callI C t119 "Sum" [] [(Kind.int .u32)] w16 fun (t120 : Int) w17 =>
                      J3 ((t115 != t120), ()) w17)
                     (J3 (false, ()) w13.drew))) := by
  simp only [onPtr_some]
  refine ldP_of (x := some ⟨F.d, 0, none⟩) (hz.cells 0 _ rfl) ?_
  refine call_inflate_Decoder_Given _ ?_
  unfold sh_inflate_Decoder_Given
  simp only [onPtr_some]
  have hg0 : S.given = 0 := f.given
  refine ldI_of (x := ((S.given : Nat) : Int)) (h.blk.cells 12 _ rfl) ?_
  rw [hg0]
  refine ldP_of (x := some ⟨F.d, 0, none⟩) (hz.cells 0 _ rfl) ?_
  have below : ∀ {w2}, Chg (dS F) w w2 → Below base w w2 := fun hc => hc.below hbase fun i hi hs => by have := (h.below i hs).1; omega
  refine Write_spec (bs := rs) h f (by rw [ec]; decide) hr (fun k hk => (hrb k hk).1) (by simpa using hl) hbase (fun k hk => by rw [hw0] at hk; cases hk) ?_ ?_
  · intro o x p' F' S' w2 hch2 hcase hx ho hod h2 f2 em2 hto hwl hc
    rw [em, ec] at hch2
    rw [em] at hcase
    rw [ec] at hx
    have hx : S'.c.hist = x := hx
    rw [List.nil_append] at hch2 hcase f2
    obtain ⟨rfl, rfl⟩ := hch.same hch2 (by rw [hst]; exact hr0) (by
      rcases hcase with e5 | ⟨_, e⟩
      · rw [step1_five e5]; intro _ _ e; cases e
      · rw [e]; intro _ _ e; cases e)
    have hnoerr : ∀ n, r0 ≠ .err n := fun n e => by
      rw [e] at hst
      rcases hcase with e5 | ⟨_, e'⟩
      · rw [step1_five e5] at hst; cases hst
      · rw [e'] at hst; cases hst
    refine cond_f rfl ?_
    have hz2 := hz.chg hc fun e => (hdz _ e).1 rfl
    have hs2 := hs.chg hc fun e => (hdz _ e).2 rfl
    refine ⟨_, hz2.cells 3 _ rfl, ?_⟩
    subst hx
    have hhl : S'.c.hist.length ≤ 1073741824 := by have := h2.hm; have := h2.mo; omega
    refine callW (AdlW_spec hs2 (by decide) ho.rd (fun _ k hk => own_ne_blk ho hs2 (by decide) k hk) (by omega) fun w3 hs3 hc3 => ?_)
    have hs3 : Blk w3 s ty_sums_Adler (adlCells (adl S'.c.hist)) := hs3
    have hz3 := hz2.chg hc3 fun e => hz2.ne_t hs2 (by decide) e
    have hd3 := h2.blk.chg hc3 fun e => h2.blk.ne_t hs2 (by decide) e
    have ho3 := ho.chg hc3 fun k hk e => own_ne_blk ho hs2 (by decide) k hk e
    have hB3 : Below base w w3 := (below hc).trans (hc3.below (by have := hc.size; omega) fun i hi e => by omega)
    have hz3 : Blk w3 z ty_zlib_Decoder (zCells F'.d head nilS s 0) := by rw [hto.d]; exact hz3
    refine ldP_of (x := some ⟨F'.d, 0, none⟩) (hz3.cells 0 _ rfl) ?_
    refine Done_blk hd3 ?_
    have htl : S'.c.mode ≠ 5 → tailL S'.c a1 rs = [] := fun e => if_neg e
    by_cases e5 : S'.c.mode = 5
    · refine cond_f (by rw [e5]; rfl) ?_
      refine ldP_of (x := some ⟨F'.d, 0, none⟩) (hz3.cells 0 _ rfl) ?_
      have htook := f2.took
      rw [if_pos e5] at htook
      refine Used_blk hd3 e5 ?_
      have hpl := f2.pl
      rw [htook]
      obtain ⟨u, hu⟩ : ∃ u, u = (a1 + 7) / 8 := ⟨_, rfl⟩
      have hul : u ≤ rs.length := by omega
      rw [← hu, show ((u : Nat) : Int) - ((0 : Nat) : Int) = (u : Int) by omega, wrap64_id (x := (u : Int)) (by omega), hr.n]
      have ecl : (if ((rs.length : Nat) : Int) < (if (0 : Int) > (u : Int) then (0 : Int) else (u : Int)) then ((rs.length : Nat) : Int) else (if (0 : Int) > (u : Int) then (0 : Int) else (u : Int))) = (u : Int) := by
        rw [if_neg (show ¬ (0 : Int) > (u : Int) by omega), if_neg (by omega)]
      rw [ecl]
      have hr2 : Rd E_uint8 w2 r rs := hr.chg hc fun a ha e => (hrb _ (slk.2 ⟨a, ha, rfl⟩)).1 e
      have hr3 : Rd E_uint8 w3 r rs := hr2.chg hc3 fun a ha e => (hrb _ (slk.2 ⟨a, ha, rfl⟩)).2.2 e
      refine hr3.slK (l := u) (m := rs.length) rfl (.inr rfl) (.inl ⟨rfl, rfl⟩) hul (Nat.le_refl _) fun hp => ?_
      rw [List.take_length] at hp
      obtain ⟨q, hq⟩ : ∃ q : Slc, q = ⟨cut r.a u r.c E_uint8.k, rs.length - u, r.c - u⟩ := ⟨_, rfl⟩
      rw [← hq] at hp ⊢
      have hzd : Blk w3.drew z ty_zlib_Decoder (zCells F'.d head nilS s 0) := hz3
      refine ldSl_of (x := nilS) (hzd.cells 2 _ rfl) ?_
      refine ldSl_of (x := nilS) (hzd.cells 2 _ rfl) ?_
      rw [hp.n, List.length_drop, show IntKind.i64.wrap ((4 : Int) - ((nilS.n : Nat) : Int)) = 4 from rfl]
      obtain ⟨m, hm⟩ : ∃ m, m = min 4 (rs.length - u) := ⟨_, rfl⟩
      have em4 : (if (4 : Int) < ((rs.length - u : Nat) : Int) then (4 : Int) else ((rs.length - u : Nat) : Int)) = (m : Int) := by split <;> omega
      rw [em4]
      refine hp.drew.slK (l := 0) (m := m) rfl (.inl ⟨rfl, rfl⟩) (.inr rfl) (by omega) (by rw [List.length_drop]; omega) fun hp2 => ?_
      rw [List.drop_zero] at hp2
      have etl : (rs.drop u).take m = tailL S'.c a1 rs := by
        rw [tailL, if_pos e5, ← hu, hm]
        rcases Nat.le_total 4 (rs.length - u) with hle | hle
        · rw [Nat.min_eq_left hle]
        · rw [Nat.min_eq_right hle, List.take_of_length_le (by rw [List.length_drop]; omega), List.take_of_length_le (by rw [List.length_drop]; omega)]
      rw [etl] at hp2
      have htl4 : (tailL S'.c a1 rs).length ≤ 4 := by rw [tailL, if_pos e5, List.length_take]; omega
      have hBd : Below w3.heap.size w3 w3.drew := (Below.refl _ w3).drew
      refine ConcatB2 (Rd.nil E_uint8 w3.drew) hp2 (by simp; omega) fun t w4 ht hB4 => ?_
      rw [List.nil_append] at ht
      have hsd : w3.drew.heap.size = w3.heap.size := rfl
      have hB34 : Below w3.heap.size w3 w4 := hBd.trans hB4
      have hz4 := hz3.ext hB34
      rw [add_mk]
      refine stK_blk hz4 (by simp [zCells]) fun w5 hz5 hg5 hs5' => ?_
      have hz5 : Blk w5 z ty_zlib_Decoder (zCells F'.d head t s 0) := hz5
      have hc5 := Chg.gg hg5
      have ht5 := ht.chg hc5 fun k hk e => own_ne_blk ht hz4 (by decide) k hk e
      have hs5 := (hs3.ext hB34).chg hc5 fun e => (hs3.ext hB34).ne_t hz4 (by decide) e
      have hd5 := (hd3.ext hB34).chg hc5 fun e => (hd3.ext hB34).ne_t hz4 (by decide) e
      have ho5 := (ho3.ext hB34).chg hc5 fun k hk e => own_ne_blk (ho3.ext hB34) hz4 (by decide) k hk e
      have hb3 := hB3.size
      have hB5 : Below base w w5 := (hB3.trans (hB34.mono (by omega))).trans (hc5.below (by have := hB34.size; omega) fun i hi e => by omega)
      have htn : t.n = (tailL S'.c a1 rs).length := ht5.rd.n
      have hBd5 : Below w5.heap.size w5 w5.drew := (Below.refl _ w5).drew
      have hb5 := hB5.size
      have hB5d : Below base w w5.drew := hB5.trans (hBd5.mono (by omega))
      rw [show ∀ (K : Slc → Int → World → Prop), (fun (s_2 : Bool × Unit) w14 => cond s_2.1 (c_zlib_Decoder_fail (some ⟨z, 0, none⟩) 4 w14 fun t124 w15 => K ⟨none, 0, 0⟩ t124 w15) (K o 0 w14)) = (fun (s_2 : Bool × Unit) w14 => cond s_2.1 (c_zlib_Decoder_fail (some ⟨z, 0, none⟩) 4 w14 fun t124 w15 => K ⟨none, 0, 0⟩ t124 w15) (K o 0 w14)) from fun _ => rfl]
      refine joinP_of fun J hJ => ?_
      refine ldSl_of (x := t) ((hz5.ext hBd5).cells 2 _ rfl) ?_
      rw [htn]
      refine cond_of (fun h4 => ?_) (fun h4 => ?_)
      · have h4 : (tailL S'.c a1 rs).length = 4 := by have := eq_of_beq h4; omega
        refine ldSl_of (x := t) ((hz5.ext hBd5).cells 2 _ rfl) ?_
        refine ⟨_, (hz5.ext hBd5).cells 3 _ rfl, ?_⟩
        obtain ⟨x0, x1, x2, x3, ex⟩ : ∃ x0 x1 x2 x3, tailL S'.c a1 rs = [x0, x1, x2, x3] := by
          match ht : tailL S'.c a1 rs, h4 with
          | [a, b, c, d], _ => exact ⟨a, b, c, d, rfl⟩
        have ht5d : Rd E_uint8 w5.drew t [x0, x1, x2, x3] := by rw [← ex]; exact (ht5.ext hBd5).rd
        refine Big_spec ht5d ?_
        have hBdd : Below w5.drew.heap.size w5.drew w5.drew.drew := (Below.refl _ _).drew
        have hz7 := (hz5.ext hBd5).ext hBdd
        have hs7 := (hs5.ext hBd5).ext hBdd
        refine ⟨hz7.cells 3 _ rfl, ?_⟩
        have hl2 := adl_lt S'.c.hist (1, 0) (by decide) (by decide)
        refine callS (AdlS_spec hs7 hl2 ?_)
        have hB8d : Below w5.heap.size w5 w5.drew.drew.drew := hBd5.trans (hBdd.trans (Below.refl _ _).drew)
        refine hJ _ _ ?_
        dsimp only
        have esum : (((adl S'.c.hist).2 * 65536 + (adl S'.c.hist).1 : Nat) : Int) = ((adlN S'.c.hist : Nat) : Int) := rfl
        rw [esum, ← ex]
        refine cond_of (fun hne => ?_) (fun heq => ?_)
        · have hne : bigN (tailL S'.c a1 rs) ≠ adlN S'.c.hist := fun e => by rw [e] at hne; simp at hne
          refine zfail_spec (hz5.ext hB8d) fun w9 hc9 => ?_
          exact hS h4 hne w9 ((hB5.trans (hB8d.mono (by omega))).trans (hc9.below (by have := hB8d.size; omega) fun i hi e => by omega))
        · have heq : bigN (tailL S'.c a1 rs) = adlN S'.c.hist := by
            have : ((bigN (tailL S'.c a1 rs) : Nat) : Int) = ((adlN S'.c.hist : Nat) : Int) := by simpa using heq
            omega
          exact hO hnoerr (fun _ => heq) o t F' S' _ (ho5.ext hB8d) (hz5.ext hB8d) (hd5.ext hB8d) rfl (fun _ => htook) htn (hB5.trans (hB8d.mono (by omega)))
      · have h4 : (tailL S'.c a1 rs).length ≠ 4 := by have := beq_eq_false_iff_ne.1 h4; omega
        refine hJ _ _ ?_
        dsimp only
        exact cond_f rfl (hO hnoerr (fun h => absurd h h4) o t F' S' _ (ho5.ext hBd5) (hz5.ext hBd5) (hd5.ext hBd5) rfl (fun _ => htook) htn hB5d)
    · have : (S'.c.mode == 5) = false := beq_eq_false_iff_ne.2 e5
      rw [this]
      refine cond_t rfl ?_
      have et := htl e5
      refine hO hnoerr (fun h => by rw [et] at h; cases h) o nilS F' S' w3 ho3 hz3 hd3 rfl (fun h => absurd h e5) (by rw [et]; rfl) hB3
  · intro n c' p' S' w2 hn hch2 hst2 hf _ hc
    rw [em, ec] at hch2
    rw [em] at hst2
    rw [List.nil_append] at hch2 hst2
    obtain ⟨rfl, rfl⟩ := hch.same hch2 (by rw [hst]; exact hr0) (by rw [hst2]; intro _ _ e; cases e)
    refine cond_t (by have : ((n : Nat) : Int) ≠ 0 := by omega
                      simpa using this) ?_
    have hz2 := hz.chg hc fun e => (hdz _ e).1 rfl
    have hb2 := (below hc).size
    refine zfail_spec hz2 fun w3 hc3 => hE n (by rw [← hst, hst2]) hn w3 ((below hc).trans (hc3.below (by have := hc.size; omega) fun i hi e => by omega))
end
end Go.Proofs.Yteffnkpplhcomaa
