/- The program's decoder of deflate streams: a dynamic block's codes; a step. -/
import Derived.Test.YteffnkpplhcomaaB9
namespace Go.Proofs.Yteffnkpplhcomaa
open Go.Vc Go.RowKit
set_option maxRecDepth 400000

theorem clens_length (bs : List UInt8) (a i : Nat) : (clens bs a i).length = 19 := by
  induction i with
  | zero => simp [clens]
  | succ i ih => rw [clens, List.length_set, ih]
theorem orderL_lt (i : Nat) (h : i < 19) : orderL.getD i 0 < 19 := by
  have : ∀ k : Fin 19, orderL.getD k.val 0 < 19 := by decide
  exact this ⟨i, h⟩
theorem clens_le (bs : List UInt8) (a i : Nat) : ∀ x ∈ clens bs a i, x.toNat ≤ 7 := by
  induction i with
  | zero =>
    intro x hx
    rw [List.eq_of_mem_replicate hx]
    decide
  | succ i ih =>
    intro x hx
    rcases List.mem_or_eq_of_mem_set hx with hx | hx
    · exact ih x hx
    · rw [hx, UInt8.toNat_ofNat']
      have := peekN_lt bs (a + 3 * i) 3
      omega

section
variable {w w' : World} {base : Nat} {F : DF} {S : DS} {r : Nat} {rs : Slc} {at_ : Nat}
theorem dynamic_spec {K : Int → World → Prop} (h : DR w base F S r rs at_) (hm : S.c.mode = 3) (hbase : base ≤ w.heap.size)
    (hK : ∀ e F' S' at' w', StepRes S at_ e S' at' → DR w' base F' S' r rs at' → F.to F' w.heap.size → Chg (drS F r) w w' → K e w') : c_inflate_Decoder_dynamic (some ⟨F.d, 0, none⟩) (some ⟨r, 0, none⟩) w K := by
  refine call_inflate_Decoder_dynamic _ _ ?_
  unfold sh_inflate_Decoder_dynamic
  have hst : step1 S.most S.wait at_ S.c = stepDyn S.wait at_ S.c := by rw [step1, if_neg (by omega), stepN, if_neg (by omega), if_neg (by omega), if_neg (by omega), if_pos hm]
  unfold stepDyn at hst
  have short : ∀ at' w', step1 S.most S.wait at_ S.c = .short → at_ ≤ at' → DR w' base F S r rs at' → Chg (drS F r) w w' → K 2 w' := fun at' w' hs ha h' hc' =>
    hK 2 F S at' w' ⟨rfl, rfl, rfl, .inr (.inl ⟨rfl, 0, at_, .refl _ _, hs, ⟨[], by simp, by simp⟩, by simp, by omega, by simp, by omega, by omega⟩)⟩ h' (DF.to.refl _ _) hc'
  have bad : ∀ at' w', step1 S.most S.wait at_ S.c = .err 3 → DR w' base F S r rs at' → Chg (drS F r) w w' → K 3 w' := fun at' w' hs h' hc' =>
    hK 3 F S at' w' ⟨rfl, rfl, rfl, .inr (.inr ⟨3, rfl, .inl rfl, ⟨S.c, at_, .refl _ _, hs⟩, rfl, rfl⟩)⟩ h' (DF.to.refl _ _) hc'
  -- the three numbers
  have any : ∀ {n : Nat} {at1 : Nat} {w1 : World} {K' : Int → Bool → World → Prop}, n ≤ 32 → DR w1 base F S r rs at1 → (∀ (ok : Bool) v at2 w2, (ok = true ↔ at1 + n ≤ 8 * S.wait.length) → at1 ≤ at2 → (ok = true → at2 = at1 + n ∧ v = ((peekN S.wait at1 n : Nat) : Int)) → DR w2 base F S r rs at2 → Chg (drS F r) w1 w2 → K' v ok w2) → c_bits_Reader_Bits (some ⟨r, 0, none⟩) n w1 K' := by
    intro n at1 w1 K' hn h1 hK'
    refine rBits h1 (fun m w2 e _ hl h2 hc => ?_) (fun w2 hno h2 hc => ?_)
    · have : m = n := by omega
      subst this
      exact hK' true _ _ w2 ⟨fun _ => hl, fun _ => rfl⟩ (by omega) (fun _ => ⟨rfl, rfl⟩) h2 hc
    · exact hK' false 0 at1 w2 ⟨fun e => (by cases e), fun e => by omega⟩ (Nat.le_refl _) (fun e => (by cases e)) h2 hc
  refine any (n := 5) (by decide) h fun ok1 v1 a1 w1 o1 l1 g1 h1 c1 => ?_
  refine any (n := 5) (by decide) h1 fun ok2 v2 a2 w2 o2 l2 g2 h2 c2 => ?_
  refine any (n := 4) (by decide) h2 fun ok3 v3 a3 w3 o3 l3 g3 h3 c3 => ?_
  have c03 : Chg (drS F r) w w3 := (c1.trans c2 fun i _ hi => hi).trans c3 fun i _ hi => hi
  have s03 := c03.size
  refine joinP_of fun J1 hJ1 => ?_
  refine joinP_of fun J4 hJ4 => ?_
  have no : 8 * S.wait.length < at_ + 14 → J4 (true, ()) w3 := fun hl => hJ4 _ _ (by
    rw [if_pos hl] at hst
    exact cond_t rfl (short a3 w3 hst (by omega) h3 c03))
  have yes : ok1 = true → ok2 = true → ok3 = true → J4 (false, ()) w3 := fun e1 e2 e3 => hJ4 _ _ (by
    obtain ⟨p1, rfl⟩ := g1 e1
    obtain ⟨p2, rfl⟩ := g2 e2
    obtain ⟨p3, rfl⟩ := g3 e3
    subst p1 p2 p3
    have hl := o3.1 e3
    rw [show at_ + 5 + 5 = at_ + 10 by omega] at *
    rw [show at_ + 10 + 4 = at_ + 14 by omega] at *
    rw [if_neg (by omega)] at hst
    dsimp only at hst
    refine cond_f rfl ?_
    have pa := peekN_lt S.wait at_ 5
    have pb := peekN_lt S.wait (at_ + 5) 5
    have pd := peekN_lt S.wait (at_ + 10) 4
    obtain ⟨a, ea⟩ : ∃ a, peekN S.wait at_ 5 = a := ⟨_, rfl⟩
    obtain ⟨b, eb⟩ : ∃ a, peekN S.wait (at_ + 5) 5 = a := ⟨_, rfl⟩
    obtain ⟨d, ed⟩ : ∃ a, peekN S.wait (at_ + 10) 4 = a := ⟨_, rfl⟩
    rw [ea] at hst pa hJ1 ⊢
    rw [eb] at hst pb hJ1 ⊢
    rw [ed] at hst pd hJ1
    refine cond_of (fun q => ?_) (fun q => ?_)
    · have q := of_decide_eq_true q
      rw [if_pos (by omega)] at hst
      exact bad _ w3 hst h3 c03
    have q := of_decide_eq_false q
    refine cond_of (fun q2 => ?_) (fun q2 => ?_)
    · have q2 := of_decide_eq_true q2
      rw [if_pos (by omega)] at hst
      exact bad _ w3 hst h3 c03
    have q2 := of_decide_eq_false q2
    rw [if_neg (by omega)] at hst
    refine hJ1 _ _ ?_
    clear hJ1 hJ4
    refine box_of (t := ty_19_int) rfl fun w6 hb6 hB6 hs6 => ?_
    have h6 := h3.ext hB6
    refine mkSl_of sT_sl_uint8 (x0 := (0 : UInt8)) rfl (n := 19) rfl rfl (by rw [by_sl_uint8]; omega) (by simp only [maxLen]; omega) fun w7 ho7 hB7 => ?_
    have h7 := h6.ext hB7
    have hb7 := hb6.ext hB7
    have cd : IntKind.i64.wrap (IntKind.i64.wrap ((d : Nat) : Int) + 4) = ((d + 4 : Nat) : Int) := by
      rw [wrap64_id (x := ((d : Nat) : Int)) (by omega), wrap64_id (by omega)]; omega
    rw [cd]
    have hcn : (⟨some ⟨w6.heap.size, 0, none⟩, 19, 19⟩ : Slc).blk = some w6.heap.size := rfl
    have c07 : Chg (drS F r) w w7 := (c03.trans (Chg.of_ext (S := drS F r) hB6) fun i _ hi => hi).trans (Chg.of_ext (S := drS F r) hB7) fun i _ hi => hi
    have s06 : w3.heap.size ≤ w6.heap.size := hB6.size
    have fr6 : ∀ k, drS F r k → k < w6.heap.size := fun k hk => by
      rcases hk with hk | hk
      · have := (h.d.below k hk).2; omega
      · subst hk; have := h.rdr.blk.lt; omega
    obtain ⟨cl, hcl⟩ : ∃ s : Slc, s = ⟨some ⟨w6.heap.size, 0, none⟩, 19, 19⟩ := ⟨_, rfl⟩
    rw [← hcl] at ho7 hcn ⊢
    refine loopP_rule (fun (s : Int × Unit) w8 => ∃ i : Nat, s.1 = i ∧ i ≤ d + 4 ∧ at_ + 14 + 3 * i ≤ 8 * S.wait.length ∧ Own E_uint8 w8 w6.heap.size cl (clens S.wait (at_ + 14) i) ∧ DR w8 base F S r rs (at_ + 14 + 3 * i) ∧ Blk w8 w3.heap.size ty_19_int [.int .i64 16, .int .i64 17, .int .i64 18, .int .i64 0, .int .i64 8, .int .i64 7, .int .i64 9, .int .i64 6, .int .i64 10, .int .i64 5, .int .i64 11, .int .i64 4, .int .i64 12, .int .i64 3, .int .i64 13, .int .i64 2, .int .i64 14, .int .i64 1, .int .i64 15] ∧ Chg (drS F r) w w8) (fun s => d + 4 - s.1.toNat)
      ⟨0, rfl, by omega, by omega, ho7, h7, hb7, c07⟩ ?_
    rintro ⟨i, _⟩ w8 ⟨i, rfl, hi, hil, ho8, h8, hb8, c08⟩ I hI
    dsimp only at *
    have s08 := c08.size
    refine cond_of (fun hlt => ?_) (fun hge => ?_)
    · have hlt := of_decide_eq_true hlt
      refine rBits h8 (fun m w9 e _ hl9 h9 hc9 => ?_) (fun w9 hno h9 hc9 => ?_)
      rotate_left
      · rw [if_pos (by omega)] at hst
        exact cond_t rfl (short _ w9 hst (by omega) h9 (c08.trans hc9 fun i _ hi => hi))
      have : m = 3 := by omega
      subst this
      refine cond_f rfl ?_
      have ho9 := ho8.chg hc9 fun k hk hs => by rw [hcn] at hk; cases hk; have := fr6 _ hs; omega
      have hb9 := hb8.chg hc9 fun hs => by
        rcases hs with (hs | hs | hs) | hs
        · exact hb8.ne_t h8.d.blk (by decide) hs
        · obtain ⟨cs, hcs⟩ := h8.d.ring.blk_t hs
          exact hb8.ne_t hcs (by decide) rfl
        · obtain ⟨cs, hcs⟩ := h8.d.out.blk_t hs
          exact hb8.ne_t hcs (by decide) rfl
        · exact hb8.ne_t h8.rdr.blk (by decide) hs
      have hi19 : i < 19 := by omega
      refine ⟨⟨by omega, by omega⟩, ?_⟩
      have hov : ∀ (j : Nat), j < 19 → ([.int .i64 16, .int .i64 17, .int .i64 18, .int .i64 0, .int .i64 8, .int .i64 7, .int .i64 9, .int .i64 6, .int .i64 10, .int .i64 5, .int .i64 11, .int .i64 4, .int .i64 12, .int .i64 3, .int .i64 13, .int .i64 2, .int .i64 14, .int .i64 1, .int .i64 15] : List Value)[j]? = some (.int .i64 ((orderL.getD j 0 : Nat) : Int)) := fun j hj => by
        match j, hj with
        | 0, _ | 1, _ | 2, _ | 3, _ | 4, _ | 5, _ | 6, _ | 7, _ | 8, _ | 9, _ | 10, _ | 11, _ | 12, _ | 13, _ | 14, _ | 15, _ | 16, _ | 17, _ | 18, _ => rfl
        | j + 19, hj => omega
      refine ldI_of (x := ((orderL.getD i 0 : Nat) : Int)) (by simpa using hb9.cells i _ (hov i hi19)) ?_
      have hol := orderL_lt i hi19
      have hcl9 := clens_length S.wait (at_ + 14) i
      refine ho9.rd.ix rfl (by omega) (by omega) fun _ => ?_
      have hp := peekN_lt S.wait (at_ + 14 + 3 * i) 3
      have hv : IntKind.u8.wrap ((peekN S.wait (at_ + 14 + 3 * i) 3 : Nat) : Int) = (((UInt8.ofNat (peekN S.wait (at_ + 14 + 3 * i) 3)).toNat : Nat) : Int) := by
        rw [wrap_nat .u8 (by show _ < 2 ^ 8; omega), UInt8.toNat_ofNat']
        congr 1
        omega
      rw [hv]
      refine ho9.st0 (x := (clens S.wait (at_ + 14) i)[orderL.getD i 0]'(by omega)) (y := UInt8.ofNat (peekN S.wait (at_ + 14 + 3 * i) 3)) (List.getElem?_eq_getElem _) rfl fun w10 ho10 hg10 hs10 => ?_
      have hc10 : Chg (fun k => k = w6.heap.size) w9 w10 := Chg.of_grown hg10 fun k hk => by rw [hcn] at hk; cases hk; rfl
      rw [wrap64_id (by omega)]
      have h10 : DR w10 base F S r rs (at_ + 14 + 3 * i + 3) := by
        have e6 : ∀ k, k = w6.heap.size → NoTab w9 k := fun k e => by
          subst e
          obtain ⟨cs, hcs⟩ := ho9.blk_t hcn
          exact ⟨_, _, hcs, by decide, by decide⟩
        have s69 := hc9.size
        refine ⟨h9.d.chg hc10 (fun k hk e => ?_) fun k e _ => e6 k e, h9.rdr.chg hc10 (fun e => ?_) fun k hk e => ?_, h9.sep, h9.rb, h9.wr, fun k hk => by have := h9.wl k hk; have := hc10.size; omega, fun k hk => by have := h9.sl k hk; have := hc10.size; omega⟩
        · rcases hk with hk | hk
          · have := fr6 k (.inl hk); omega
          · have := h.wl k hk; omega
        · have := fr6 r (.inr rfl); omega
        · have := h.sl k hk; omega
      refine hI _ _ ⟨i + 1, by simp, by omega, by omega, ho10, by rw [show at_ + 14 + 3 * (i + 1) = at_ + 14 + 3 * i + 3 by omega]; exact h10, hb9.chg hc10 fun e => ?_, (c08.trans hc9 fun i _ hi => hi).trans hc10 fun k hk e => by omega⟩ (by simp; omega)
      have := hB6.size
      have : w6.heap.size = w3.heap.size + 1 := hs6
      omega
    · have hge := of_decide_eq_false hge
      have : i = d + 4 := by omega
      subst this
      rw [if_neg (by omega)] at hst
      clear hI I
      have hcll := clens_length S.wait (at_ + 14) (d + 4)
      obtain ⟨cs, hcs⟩ : ∃ c, clens S.wait (at_ + 14) (d + 4) = c := ⟨_, rfl⟩
      rw [hcs] at hst ho8 hcll
      refine New_any ho8.rd (fun hbt e w11 he hB11 => ?_) (fun hbt f11 w11 ht11 hB11 => ?_)
      · rw [if_pos hbt] at hst
        refine cond_t (by simp [he]) (bad _ w11 hst (h8.ext hB11) (c08.trans (Chg.of_ext (S := drS F r) hB11) fun i _ hi => hi))
      rw [if_neg hbt] at hst
      refine cond_f rfl ?_
      have h11 := h8.ext hB11
      have c011 : Chg (drS F r) w w11 := c08.trans (Chg.of_ext (S := drS F r) hB11) fun i _ hi => hi
      have s011 := c011.size
      have en : IntKind.i64.wrap (IntKind.i64.wrap ((a : Nat) : Int) + 257) = ((a + 257 : Nat) : Int) := by
        rw [wrap64_id (x := ((a : Nat) : Int)) (by omega), wrap64_id (by omega)]; omega
      have en2 : IntKind.i64.wrap (IntKind.i64.wrap (((a + 257 : Nat) : Int) + IntKind.i64.wrap ((b : Nat) : Int)) + 1) = ((a + 257 + b + 1 : Nat) : Int) := by
        rw [wrap64_id (x := ((b : Nat) : Int)) (by omega), wrap64_id (x := ((a + 257 : Nat) : Int) + b) (by omega), wrap64_id (by omega)]; omega
      rw [en, en2]
      refine read_spec h11 ht11.r (by omega) (by omega) (fun s l a2 w12 hgo hll ho12 ha2 h12 c12 => ?_) (fun a2 w12 hgo ha2 h12 c12 => ?_) (fun a2 w12 hgo h12 c12 => ?_) (by omega)
      rotate_left
      · rw [hgo] at hst
        exact cond_t rfl (short _ w12 hst (by omega) h12 (c011.trans c12 fun i _ hi => hi))
      · rw [hgo] at hst
        exact cond_t rfl (bad _ w12 hst h12 (c011.trans c12 fun i _ hi => hi))
      rw [hgo] at hst
      dsimp only at hst
      refine cond_f rfl ?_
      have c012 : Chg (drS F r) w w12 := c011.trans c12 fun i _ hi => hi
      have s012 := c012.size
      refine ho12.rd.slK (l := 0) (m := a + 257) rfl (.inl ⟨rfl, rfl⟩) (.inr rfl) (by omega) (by omega) fun hp1 => ?_
      rw [List.drop_zero] at hp1
      -- behind both tables
      have tail : ∀ (p2 : Option Addr) (e1 e2 : Int) (p1 : Option Addr) w14, DR w14 base F S r rs a2 → Chg (drS F r) w w14 → Own E_uint8 w14 w11.heap.size s l → ((e1 ≠ 0 ∨ e2 ≠ 0) ∧ (badTab (l.take (a + 257)) ∨ badTab (l.drop (a + 257))) ∨ e1 = 0 ∧ e2 = 0 ∧ ¬ badTab (l.take (a + 257)) ∧ ¬ badTab (l.drop (a + 257)) ∧ ∃ f1 f2, p1 = some ⟨f1.g, 0, none⟩ ∧ p2 = some ⟨f2.g, 0, none⟩ ∧ TabR w14 base f1 (l.take (a + 257)) ∧ TabR w14 base f2 (l.drop (a + 257))) →
          joinP (σ := Unit) (fun s_2 w15 =>
                 onPtr (some (⟨F.d, 0, none⟩ : Addr)) fun t134 =>
                 stK (t134.add 6) [(.pointer p1)] w15 fun w16 =>
                 onPtr (some (⟨F.d, 0, none⟩ : Addr)) fun t136 =>
                 stK (t136.add 7) [(.pointer p2)] w16 fun w17 =>
                 onPtr (some (⟨F.d, 0, none⟩ : Addr)) fun t138 =>
                 stK (t138.add 1) [(.int .i64 4)] w17 fun w18 =>
                 K 0 w18) fun J3 =>
               cond (e1 != (0 : Int))
                 (K 3 w14)
                 (cond (e2 != (0 : Int))
                    (K 3 w14)
                    (ixK s 256 1 fun t125 =>
                     ldI .u8 t125 w14 fun t126 =>
                     cond (t126 == (0 : Int))
                       (K 3 w14)
                       (J3 (()) w14))) := by
        intro p2 e1 e2 p1 w14 h14 c14 ho14 hcase
        refine joinP_of fun J3 hJ3 => ?_
        rcases hcase with ⟨he, hbd⟩ | ⟨rfl, rfl, n1, n2, f1, f2, rfl, rfl, t1, t2⟩
        · have k3 : K 3 w14 := by
            rw [if_pos (by rcases hbd with hb | hb; exact .inl hb; exact .inr (.inl hb))] at hst
            exact bad _ w14 hst h14 c14
          refine cond_of (fun _ => k3) (fun q1 => cond_of (fun _ => k3) (fun q2 => ?_))
          have q1 := bne_eq_false_iff_eq.1 q1
          have q2 := bne_eq_false_iff_eq.1 q2
          rcases he with he | he
          · exact absurd q1 he
          · exact absurd q2 he
        · refine cond_f rfl (cond_f rfl ?_)
          obtain ⟨x, hx, hxs⟩ := get_of (xs := l) (k := 256) (by omega)
          refine ho14.rd.ix rfl (by decide) (by omega) fun hc => ?_
          have hc : cellsAt w14 (s.at_ E_uint8.k ((256 : Nat) : Int).toNat) (E_uint8.cells (l[((256 : Nat) : Int).toNat]'(by show 256 < l.length; omega))) := hc
          rw [hxs] at hc
          refine ldB8 (b := x) hc ?_
          have hgd : l.getD 256 0 = x := by rw [List.getD_eq_getElem?_getD, hx]; rfl
          rw [hgd] at hst
          refine cond_of (fun hz => ?_) (fun hz => ?_)
          · have hz : x = 0 := by
              have := eq_of_beq hz
              apply UInt8.toNat_inj.1
              show x.toNat = 0
              omega
            rw [if_pos (.inr (.inr hz))] at hst
            exact bad _ w14 hst h14 c14
          · have hz : x ≠ 0 := fun e => by rw [e] at hz; simp at hz
            rw [if_neg (by rintro (q | q | q); exact n1 q; exact n2 q; exact hz q)] at hst
            refine hJ3 _ _ ?_
            simp only [onPtr_some]
            rw [add_mk]
            have hN : ∀ (k : Nat) (w' : World) (cs : List Value), Blk w' F.d ty_inflate_Decoder cs → k = F.d → k < w'.heap.size → NoTab w' k := fun k w' cs hb e _ => by subst e; exact ⟨_, _, hb, by decide, by decide⟩
            refine stK_blk h14.d.blk (by simp [decCells]) fun w15 hb15 hg15 hs15 => ?_
            have hd15 : DecM w15 base { F with sg := some f1 } S := h14.d.put hb15 hg15 rfl rfl rfl rfl rfl rfl rfl rfl (fun e => by omega) h14.d.m5 h14.d.hl h14.d.hs h14.d.ht
            have h15 := h14.own hd15 rfl rfl rfl rfl rfl hg15
            rw [add_mk]
            refine stK_blk h15.d.blk (by simp [decCells]) fun w16 hb16 hg16 hs16 => ?_
            have hd16 : DecM w16 base { F with sg := some f1, ds := some f2 } S := h15.d.put hb16 hg16 rfl rfl rfl rfl rfl rfl rfl rfl (fun e => by omega) h15.d.m5 h15.d.hl h15.d.hs h15.d.ht
            have h16 := h15.own hd16 rfl rfl rfl rfl rfl hg16
            rw [add_mk]
            refine stK_blk h16.d.blk (by simp [decCells]) fun w17 hb17 hg17 hs17 => ?_
            have t1' := ((t1.chg (Chg.gg hg15) fun k e hk => hN k w14 _ h14.d.blk e hk).chg (Chg.gg hg16) fun k e hk => hN k w15 _ h15.d.blk e hk).chg (Chg.gg hg17) fun k e hk => hN k w16 _ h16.d.blk e hk
            have t2' := ((t2.chg (Chg.gg hg15) fun k e hk => hN k w14 _ h14.d.blk e hk).chg (Chg.gg hg16) fun k e hk => hN k w15 _ h15.d.blk e hk).chg (Chg.gg hg17) fun k e hk => hN k w16 _ h16.d.blk e hk
            have hd17 : DecM w17 base { F with sg := some f1, ds := some f2 } { S with c := { S.c with mode := 4, sg := l.take (a + 257), ds := l.drop (a + 257) } } := h16.d.put hb17 hg17 rfl rfl rfl rfl rfl rfl rfl rfl (fun _ => ⟨f1, f2, rfl, rfl, t1', t2'⟩) (by show 4 ≤ 5; decide) h16.d.hl h16.d.hs h16.d.ht
            refine hK 0 { F with sg := some f1, ds := some f2 } { S with c := { S.c with mode := 4, sg := l.take (a + 257), ds := l.drop (a + 257) } } a2 w17 ⟨rfl, rfl, rfl, .inl ⟨rfl, ⟨_, _, hst, .refl _ _⟩, ⟨[], by simp, by simp⟩, rfl, rfl, rfl⟩⟩ (h16.own hd17 rfl rfl rfl rfl rfl hg17) ⟨rfl, rfl, .inl rfl, .inl rfl⟩ ?_
            exact ((c14.trans (drS_g (r := r) hg15) fun i _ hi => hi).trans (drS_g (F := F) (r := r) hg16) fun i _ hi => hi).trans (drS_g (F := F) (r := r) hg17) fun i _ hi => hi
      have hbb : base ≤ w12.heap.size := by omega
      refine New_any hp1 (fun hb1 e1 w13 he1 hB13 => ?_) (fun hb1 f1 w13 ht13 hB13 => ?_)
      · have ho13 := ho12.ext hB13
        refine ho13.rd.slK (l := a + 257) (m := l.length) rfl (.inr rfl) (.inl ⟨rfl, rfl⟩) (by omega) (Nat.le_refl _) fun hp2 => ?_
        rw [List.take_length] at hp2
        have h13 := h12.ext hB13
        have c013 : Chg (drS F r) w w13 := c012.trans (Chg.of_ext (S := drS F r) hB13) fun i _ hi => hi
        refine New_any hp2 (fun hb2 e2 w14 he2 hB14 => ?_) (fun hb2 f2 w14 ht14 hB14 => ?_)
        · exact tail none e1 e2 none w14 (h13.ext hB14) (c013.trans (Chg.of_ext (S := drS F r) hB14) fun i _ hi => hi) (ho13.ext hB14) (.inl ⟨.inl he1, .inl hb1⟩)
        · exact tail _ e1 0 none w14 (h13.ext hB14) (c013.trans (Chg.of_ext (S := drS F r) hB14) fun i _ hi => hi) (ho13.ext hB14) (.inl ⟨.inl he1, .inl hb1⟩)
      · have ho13 := ho12.ext hB13
        refine ho13.rd.slK (l := a + 257) (m := l.length) rfl (.inr rfl) (.inl ⟨rfl, rfl⟩) (by omega) (Nat.le_refl _) fun hp2 => ?_
        rw [List.take_length] at hp2
        have h13 := h12.ext hB13
        have c013 : Chg (drS F r) w w13 := c012.trans (Chg.of_ext (S := drS F r) hB13) fun i _ hi => hi
        have s013 := c013.size
        refine New_any hp2 (fun hb2 e2 w14 he2 hB14 => ?_) (fun hb2 f2 w14 ht14 hB14 => ?_)
        · exact tail none 0 e2 _ w14 (h13.ext hB14) (c013.trans (Chg.of_ext (S := drS F r) hB14) fun i _ hi => hi) (ho13.ext hB14) (.inl ⟨.inr he2, .inr hb2⟩)
        · exact tail _ 0 0 _ w14 (h13.ext hB14) (c013.trans (Chg.of_ext (S := drS F r) hB14) fun i _ hi => hi) (ho13.ext hB14) (.inr ⟨rfl, rfl, hb1, hb2, f1, f2, rfl, rfl, (ht13.r.ext hB14).base_le (by omega), ht14.r.base_le (by omega)⟩))
  cases e1 : ok1 with
  | false =>
    refine cond_t rfl (no ?_)
    have : ¬ at_ + 5 ≤ 8 * S.wait.length := fun hh => by rw [o1.2 hh] at e1; cases e1
    omega
  | true =>
    refine cond_f rfl ?_
    obtain ⟨p1, _⟩ := g1 e1
    cases e2 : ok2 with
    | false =>
      refine cond_t rfl (no ?_)
      have : ¬ a1 + 5 ≤ 8 * S.wait.length := fun hh => by rw [o2.2 hh] at e2; cases e2
      omega
    | true =>
      refine cond_f rfl ?_
      obtain ⟨p2, _⟩ := g2 e2
      cases e3 : ok3 with
      | false =>
        refine no ?_
        have : ¬ a2 + 4 ≤ 8 * S.wait.length := fun hh => by rw [o3.2 hh] at e3; cases e3
        omega
      | true => exact yes e1 e2 e3

theorem step_spec {K : Int → World → Prop} (h : DR w base F S r rs at_) (hm : S.c.mode ≤ 4) (h8 : S.c.mode = 2 → at_ % 8 = 0) (hbase : base ≤ w.heap.size) (htk : S.took + S.wait.length ≤ 1000000000000)
    (hK : ∀ e F' S' rs' at' w', StepRes S at_ e S' at' → DR w' base F' S' r rs' at' → F.tw F' w.heap.size → Chg (drS F r) w w' → K e w') : c_inflate_Decoder_step (some ⟨F.d, 0, none⟩) (some ⟨r, 0, none⟩) w K := by
  refine call_inflate_Decoder_step _ _ ?_
  unfold sh_inflate_Decoder_step
  simp only [onPtr_some]
  refine ldI_of (x := ((S.c.mode : Nat) : Int)) (h.d.blk.cells 1 _ rfl) ?_
  have hK' : ∀ e F' S' at' w', StepRes S at_ e S' at' → DR w' base F' S' r rs at' → F.to F' w.heap.size → Chg (drS F r) w w' → K e w' := fun e F' S' at' w' hr h' hto hc => hK e F' S' rs at' w' hr h' hto.w hc
  refine cond_of (fun c => ?_) (fun c => cond_of (fun c1 => ?_) (fun c1 => cond_of (fun c2 => ?_) (fun c2 => cond_of (fun c3 => ?_) (fun c3 => ?_))))
  · exact head_spec h (by have := eq_of_beq c; omega) hbase hK'
  · exact stored_spec h (by have := eq_of_beq c1; omega) hK'
  · have c2 : S.c.mode = 2 := by have := eq_of_beq c2; omega
    exact bytes_spec h c2 (h8 c2) hbase htk hK
  · exact dynamic_spec h (by have := eq_of_beq c3; omega) hbase hK'
  · have c := beq_eq_false_iff_ne.1 c
    have c1 := beq_eq_false_iff_ne.1 c1
    have c2 := beq_eq_false_iff_ne.1 c2
    have c3 := beq_eq_false_iff_ne.1 c3
    exact code_spec h (by omega) hbase hK'
end

end Go.Proofs.Yteffnkpplhcomaa
