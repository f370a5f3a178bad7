/- The program's zlib: begin, Write, Unpack, Pack. -/
import Derived.Test.YteffnkpplhcomaaZ2
import Derived.Test.YteffnkpplhcomaaB20
namespace Go.Proofs.Yteffnkpplhcomaa
open Go.Vc Go.RowKit
set_option maxRecDepth 400000

def zhN (hs : List UInt8) (c : UInt8) : Bool := match hs with | [] => zh1 c | a :: _ => zh2 a c
section
variable {w : World} {base : Nat} {F : DF} {S : DS}
theorem zbegin_spec {z d s : Nat} {head : Slc} {hs : List UInt8} {c : UInt8} {K : Bool → World → Prop} (hz : Blk w z ty_zlib_Decoder (zCells d head nilS s 0)) (hh : Own E_uint8 w base head hs) (hbase : base ≤ w.heap.size) (hl : hs.length ≤ 1)
    (hK : ∀ head' w', Own E_uint8 w' base head' (hs ++ [c]) → Blk w' z ty_zlib_Decoder (zCells d head' nilS s 0) → Chg (fun k => k = z ∨ head.blk = some k) w w' → (head'.blk = head.blk ∨ ∃ k, head'.blk = some k ∧ w.heap.size ≤ k) → K (zhN hs c) w') : c_zlib_Decoder_begin (some ⟨z, 0, none⟩) (c.toNat : Int) w K := by
  refine call_zlib_Decoder_begin _ _ ?_
  unfold sh_zlib_Decoder_begin
  simp only [onPtr_some]
  refine ldSl_of (x := head) (hz.cells 1 _ rfl) ?_
  refine apB1 (c := c) rfl hh hbase (by omega) fun r w2 ho2 hc2 hq => ?_
  have hz2 := hz.chg hc2 fun e => own_ne_blk hh hz (by decide) z e rfl
  rw [add_mk]
  refine stK_blk hz2 (by simp [zCells]) fun w3 hz3 hg3 hs3 => ?_
  have hz3 : Blk w3 z ty_zlib_Decoder (zCells d r nilS s 0) := hz3
  have ho3 := ho2.chg (Chg.gg hg3) (own_ne_blk ho2 hz2 (by decide))
  have hc3 : Chg (fun k => k = z ∨ head.blk = some k) w w3 := (hc2.mono fun i _ hi => .inr hi).trans (Chg.gg hg3) fun i _ hi => .inl hi
  have hK := hK r w3 ho3 hz3 hc3 hq
  refine ldSl_of (x := r) (hz3.cells 1 _ rfl) ?_
  have hrn := ho3.rd.n
  rw [hrn]
  have c8 := c.toNat_lt
  match hs, hl with
  | [], _ =>
    refine cond_t rfl ?_
    rw [show (15 : Int) = ((15 : Nat) : Int) from rfl, bits_and .u8 (by show _ < 2 ^ 8; omega) (by decide), Nat.and_two_pow_sub_one_eq_mod c.toNat 4]
    have hK : K (zh1 c) w3 := hK
    unfold zh1 at hK
    cases h : (c.toNat % 16 == 8) with
    | true =>
      have h' := eq_of_beq h
      refine cond_t (by rw [show (2 : Nat) ^ 4 = 16 from rfl, h']; rfl) ⟨by decide, ?_⟩
      rw [show min ((4 : Int)).toNat IntKind.u8.bits = 4 by decide, fdiv_nat, show (2 : Nat) ^ 4 = 16 from rfl]
      rw [h, Bool.true_and] at hK
      have e : decide (((c.toNat / 16 : Nat) : Int) ≤ 7) = decide (c.toNat / 16 ≤ 7) := by
        by_cases hh : c.toNat / 16 ≤ 7
        · rw [decide_eq_true hh, decide_eq_true (by omega)]
        · rw [decide_eq_false hh, decide_eq_false (by omega)]
      rw [e]
      exact hK
    | false =>
      have h' := beq_eq_false_iff_ne.1 h
      rw [h, Bool.false_and] at hK
      exact cond_f (beq_eq_false_iff_ne.2 (by rw [show (2 : Nat) ^ 4 = 16 from rfl]; omega)) hK
  | [a], _ =>
    have a8 := a.toNat_lt
    refine cond_f rfl ?_
    refine ldSl_of (x := r) (hz3.cells 1 _ rfl) ?_
    refine ho3.rd.ix (i := 0) rfl (by omega) (by show (0 : Int) < ((2 : Nat) : Int); omega) fun h0 => ?_
    refine ldB8 (b := a) h0 ⟨by decide, by decide, ?_⟩
    rw [show min ((8 : Int)).toNat IntKind.i64.bits = 8 by decide, wrap_nat .i64 (x := a.toNat) (by show _ < 2 ^ 63; omega), wrap_nat .i64 (x := c.toNat) (by show _ < 2 ^ 63; omega), mul_pow_nat, wrap_nat .i64 (x := a.toNat * 2 ^ 8) (by show _ < 2 ^ 63; omega), bits_or .i64 (by show _ < 2 ^ 63; omega) (by show _ < 2 ^ 63; omega)]
    have e : a.toNat * 2 ^ 8 ||| c.toNat = a.toNat * 256 + c.toNat := by
      rw [Nat.or_comm, Nat.mul_comm, add_or (by omega)]; omega
    rw [e, show (31 : Int) = ((31 : Nat) : Int) from rfl, ← Int.ofNat_tmod]
    have hK : K (zh2 a c) w3 := hK
    unfold zh2 at hK
    cases h : ((a.toNat * 256 + c.toNat) % 31 == 0) with
    | true =>
      have h' := eq_of_beq h
      refine cond_t (by rw [h']; rfl) ?_
      rw [show (32 : Int) = ((32 : Nat) : Int) from rfl, bits_and .u8 (by show _ < 2 ^ 8; omega) (by decide)]
      rw [h, Bool.true_and] at hK
      have e2 : ((((c.toNat &&& 32 : Nat) : Int)) == (0 : Int)) = (c.toNat &&& 32 == 0) := by
        cases hh : (c.toNat &&& 32 == 0) with
        | true => rw [eq_of_beq hh]; rfl
        | false => exact beq_eq_false_iff_ne.2 (by have := beq_eq_false_iff_ne.1 hh; omega)
      rw [e2]
      exact hK
    | false =>
      have h' := beq_eq_false_iff_ne.1 h
      rw [h, Bool.false_and] at hK
      exact cond_f (beq_eq_false_iff_ne.2 (by omega)) hK
  | _ :: _ :: _, hl => exact absurd hl (by simp)

def headOK : List UInt8 → Bool
  | [] => true
  | [a] => zh1 a
  | a :: b :: _ => zh1 a && zh2 a b
theorem headOK_take (bs : List UInt8) : headOK (bs.take 2) = headOK bs := by
  match bs with
  | [] => rfl
  | [a] => rfl
  | a :: b :: r => rfl
theorem headOK_snoc {bs : List UInt8} {j : Nat} {x : UInt8} (hj : j ≤ 1) (hx : bs[j]? = some x) (h : headOK (bs.take j) = true) : headOK (bs.take (j + 1)) = zhN (bs.take j) x := by
  match j, hj, bs, hx with
  | 0, _, b :: r, hx => simp at hx; subst hx; rfl
  | 1, _, a :: b :: r, hx =>
    simp at hx
    subst hx
    have h : zh1 a = true := h
    show (zh1 a && zh2 a b) = _
    rw [h, Bool.true_and]
    rfl
theorem headOK_bad {bs : List UInt8} {j : Nat} (hj : j ≤ 2) (h : headOK (bs.take j) = false) : headOK bs = false := by
  match j, hj, bs with
  | 0, _, _ => cases h
  | 1, _, [] => cases h
  | 1, _, [a] => exact h
  | 1, _, a :: b :: r =>
    have h : zh1 a = false := h
    show (zh1 a && zh2 a b) = false
    rw [h, Bool.false_and]
  | 2, _, bs => rw [← headOK_take]; exact h

theorem zWrite_fresh {z s : Nat} {b : Slc} {bs : List UInt8} {most : Nat} {c1 : Cfg} {a1 : Nat} {r0 : SR} {K : Slc → Int → World → Prop}
    (hz : Blk w z ty_zlib_Decoder (zCells F.d nilS nilS s 0)) (hs : Blk w s ty_sums_Adler (adlCells (1, 0))) (hzb : base ≤ z) (hsb : base ≤ s) (h : DecM w base F S) (f : Fed F S [] 0) (ec : S.c = cfg0) (em : S.most = most)
    (hdz : ∀ k, dS F k → k ≠ z ∧ k ≠ s) (hw0 : F.wait.blk = none) (hr : Rd E_uint8 w b bs) (hrb : ∀ k, b.blk = some k → ¬ dS F k ∧ k ≠ z ∧ k ≠ s) (hl : bs.length ≤ 1000000000) (hbase : base ≤ w.heap.size) (hrh : ∀ k, b.blk = some k → k < w.heap.size)
    (hch : Ch most (bs.drop 2) cfg0 0 c1 a1) (hst : step1 most (bs.drop 2) a1 c1 = r0) (hr0 : ∀ c a, r0 ≠ .next c a)
    (hH : headOK bs = false → ∀ w', Below base w w' → K nilS 3 w')
    (hE : headOK bs = true → ∀ n : Nat, r0 = .err n → (n = 3 ∨ n = 5) → ∀ w', Below base w w' → K nilS n w')
    (hS : headOK bs = true → (tailL c1 a1 (bs.drop 2)).length = 4 → bigN (tailL c1 a1 (bs.drop 2)) ≠ adlN c1.hist → ∀ w', Below base w w' → K nilS 4 w')
    (hO : headOK bs = true → (∀ n, r0 ≠ .err n) → ((tailL c1 a1 (bs.drop 2)).length = 4 → bigN (tailL c1 a1 (bs.drop 2)) = adlN c1.hist) → ∀ o head tail F' S' w', Own E_uint8 w' base o c1.hist → Blk w' z ty_zlib_Decoder (zCells F'.d head tail s 0) → Blk w' F'.d ty_inflate_Decoder (decCells F' S' 0) → S'.c = c1 → (c1.mode = 5 → S'.took = (a1 + 7) / 8) → tail.n = (tailL c1 a1 (bs.drop 2)).length → head.n = min 2 bs.length → Below base w w' → K o 0 w') :
    c_zlib_Decoder_Write (some ⟨z, 0, none⟩) b w K := by
  refine call_zlib_Decoder_Write _ _ ?_
  unfold sh_zlib_Decoder_Write
  rw [onPtr_some]
  refine ldI_of (x := 0) (hz.cells 5 _ rfl) (cond_f rfl ?_)
  refine loopP_rule_w (fun m (t : Slc × Unit) w1 => ∃ (j : Nat) (head : Slc), m = bs.length - j ∧ j ≤ 2 ∧ j ≤ bs.length ∧ Own E_uint8 w1 base head (bs.take j) ∧ (∀ k, head.blk = some k → w.heap.size ≤ k) ∧ Blk w1 z ty_zlib_Decoder (zCells F.d head nilS s 0) ∧ Rd E_uint8 w t.1 (bs.drop j) ∧ (∀ k, t.1.blk = some k → b.blk = some k) ∧ headOK (bs.take j) = true ∧ Chg (fun k => k = z) w w1) bs.length
    ⟨0, nilS, rfl, by omega, by omega, Own.nil _ _ _, fun k hk => (by cases hk), hz, hr, fun k hk => hk, rfl, Chg.refl _ _⟩ ?_
  rintro m ⟨t, _⟩ w1 ⟨j, head, rfl, hj, hjl, hh1, hhb, hz1, ht, htb, hok, hc1⟩ I hI
  dsimp only at *
  have hs1 := hc1.size
  have hdl : (bs.drop j).length = bs.length - j := List.length_drop
  have htn := ht.n
  have hB1 : Below base w w1 := hc1.below hbase fun i hi e => by omega
  have rest := fun (ed : bs.drop j = bs.drop 2) (hokb : headOK bs = true) (hhn : head.n = min 2 bs.length) =>
    zrest (w := w1) (base := base) (F := F) (S := S) (z := z) (s := s) (head := head) (r := t) (rs := bs.drop 2) (most := most) (c1 := c1) (a1 := a1) (r0 := r0) (K := K)
      hz1 (hs.chg hc1 fun e => hs.ne_t hz (by decide) e) hzb hsb
      (h.chg hc1 (fun k hk e => by
        rcases hk with hk | hk
        · exact (hdz k hk).1 e
        · rw [hw0] at hk; cases hk) (fun k hk _ => by subst hk; exact ⟨_, _, hz, by decide, by decide⟩)) f ec em hdz hw0
      (by rw [← ed]; exact ht.chg hc1 fun a ha e => (hrb _ (htb _ (slk.2 ⟨a, ha, rfl⟩))).2.1 e) (fun k hk => hrb k (htb k hk)) (by rw [← ed]; omega) (by omega) (fun k hk => by have := hrh k (htb k hk); omega) hch hst hr0
      (fun n hn h35 w' hB => hE hokb n hn h35 w' (hB1.trans hB)) (fun h4 hne w' hB => hS hokb h4 hne w' (hB1.trans hB))
      (fun he ht4 o tail F' S' w' ho hzz hdd hcc htk htn' hB => hO hokb he ht4 o head tail F' S' w' ho hzz hdd hcc htk htn' hhn (hB1.trans hB))
  have ends : (j = 2 ∨ j = bs.length) → bs.drop j = bs.drop 2 ∧ headOK bs = true ∧ head.n = min 2 bs.length := fun hend => by
    refine ⟨?_, ?_, ?_⟩
    · rcases hend with rfl | rfl
      · rfl
      · rw [List.drop_length, List.drop_eq_nil_of_le (by omega)]
    · rcases hend with rfl | rfl
      · rw [← headOK_take]; exact hok
      · rwa [List.take_length] at hok
    · rw [hh1.rd.n, List.length_take]; omega
  refine joinP_of fun J hJ => ?_
  rw [onPtr_some]
  refine ldSl_of (x := head) (hz1.cells 1 _ rfl) ?_
  have hhl := hh1.rd.n
  rw [List.length_take, Nat.min_eq_left hjl] at hhl
  rw [hhl]
  refine cond_of (fun h2 => ?_) (fun h2 => ?_)
  · have h2 : j ≤ 1 := by have := of_decide_eq_true h2; omega
    refine cond_of (fun hp => hJ _ _ ?_) (fun hp => ?_)
    · have hp := of_decide_eq_true hp
      have hjl' : j < bs.length := by omega
      have hx : bs[j]? = some bs[j] := List.getElem?_eq_getElem hjl'
      have ht1 : Rd E_uint8 w1 t (bs.drop j) := ht.chg hc1 fun a ha e => (hrb _ (htb _ (slk.2 ⟨a, ha, rfl⟩))).2.1 e
      refine ht1.ix (i := 0) rfl (by omega) (by omega) fun hc => ?_
      have e0 : ∀ h, (bs.drop j)[((0 : Int)).toNat]'h = bs[j] := fun hh => by
        have : ((0 : Int)).toNat = 0 := rfl
        simp only [this, List.getElem_drop, Nat.add_zero]
      rw [e0] at hc
      refine ldB8 (b := bs[j]) hc ?_
      refine zbegin_spec hz1 hh1 (by omega) (by rw [List.length_take]; omega) fun head' w2 hh2 hz2 hc2 hq => ?_
      have hc12 : Chg (fun k => k = z) w w2 := hc1.trans hc2 fun i hi hi2 => by
        rcases hi2 with e | e
        · exact e
        · have := hhb i e; omega
      have et : bs.take (j + 1) = bs.take j ++ [bs[j]] := by rw [List.take_add_one, hx]; rfl
      rw [← headOK_snoc h2 hx hok]
      cases hb : headOK (bs.take (j + 1)) with
      | false =>
        refine cond_t rfl ?_
        refine zfail_spec hz2 fun w3 hc3 => hH (headOK_bad (by omega) hb) w3 ?_
        exact (hc12.below hbase fun i hi e => by omega).trans (hc3.below (by have := hc12.size; omega) fun i hi e => by omega)
      | true =>
        refine cond_f rfl ?_
        refine ht.slK (l := 1) (m := (bs.drop j).length) rfl (.inr rfl) (.inl ⟨rfl, rfl⟩) (by omega) (Nat.le_refl _) fun hp2 => ?_
        rw [List.take_length, List.drop_drop] at hp2
        refine hI (bs.length - (j + 1)) _ w2 ⟨j + 1, head', rfl, by omega, by omega, by rw [et]; exact hh2, fun k hk => ?_, hz2, hp2, fun k hk => ?_, hb, hc12⟩ (by omega)
        · rcases hq with e | ⟨k', e, hk'⟩
          · exact hhb k (by rw [← e]; exact hk)
          · rw [e] at hk; cases hk; omega
        · obtain ⟨a, ha, e⟩ := slk.1 hk
          obtain ⟨a', ha', e'⟩ := cut_block ha
          exact htb k (slk.2 ⟨a', ha', by rw [← e', e]⟩)
    · have hp := of_decide_eq_false hp
      obtain ⟨e1, e2, e3⟩ := ends (.inr (by omega))
      exact rest e1 e2 e3
  · have h2 := of_decide_eq_false h2
    obtain ⟨e1, e2, e3⟩ := ends (.inl (by omega))
    exact rest e1 e2 e3

/-- What Unpack comes to: 0, or an error. -/
def zend (bs : List UInt8) (c1 : Cfg) (a1 : Nat) : Nat := if (tailL c1 a1 (bs.drop 2)).length = 4 then (if bigN (tailL c1 a1 (bs.drop 2)) = adlN c1.hist then 0 else 4) else 2
def zerr (bs : List UInt8) (c1 : Cfg) (a1 : Nat) (r0 : SR) : Nat :=
  if headOK bs = false then 3
  else match r0 with
    | .err n => n
    | .short => zend bs c1 a1
    | .next _ _ => zend bs c1 a1
theorem Unpack_bad {b : Slc} {most : Int} {K : Slc → Int → Int → World → Prop} (hm : most < 0 ∨ most > 1073741824) (hK : K nilS 0 1 w) : c_zlib_Unpack b most w K := by
  refine call_zlib_Unpack _ _ ?_
  unfold sh_zlib_Unpack
  refine call_zlib_New _ ?_
  unfold sh_zlib_New
  exact DecNew_bad hm (cond_t rfl (cond_t rfl hK))
theorem Unpack_spec {b : Slc} {bs : List UInt8} {most : Nat} {c1 : Cfg} {a1 : Nat} {r0 : SR} {K : Slc → Int → Int → World → Prop} (hm : most ≤ 1073741824) (hr : Rd E_uint8 w b bs) (hrh : ∀ k, b.blk = some k → k < w.heap.size) (hl : bs.length ≤ 1000000000)
    (hch : Ch most (bs.drop 2) cfg0 0 c1 a1) (hst : step1 most (bs.drop 2) a1 c1 = r0) (hr0 : ∀ c a, r0 ≠ .next c a)
    (hK1 : zerr bs c1 a1 r0 = 0 → ∀ o w', Own E_uint8 w' w.heap.size o c1.hist → Below w.heap.size w w' → K o ((6 + (a1 + 7) / 8 : Nat) : Int) 0 w')
    (hK2 : ∀ n, zerr bs c1 a1 r0 = n → n ≠ 0 → ∀ w', Below w.heap.size w w' → K nilS 0 n w') : c_zlib_Unpack b most w K := by
  refine call_zlib_Unpack _ _ ?_
  unfold sh_zlib_Unpack
  refine call_zlib_New _ ?_
  unfold sh_zlib_New
  refine DecNew_spec hm fun F S w1 hd h f ec em hS hw0 hB1 => cond_f rfl ?_
  have hs1 := hB1.size
  have hdl := h.blk.lt
  refine call_sums_NewAdler ?_
  unfold sh_sums_NewAdler
  refine nw_blk fun w2 hs2 hB2 hz2 => ?_
  obtain ⟨s, hs⟩ : ∃ s, s = w1.heap.size := ⟨_, rfl⟩
  rw [← hs] at hs2 ⊢
  refine nw_blk fun w3 hz3 hB3 hz3' => ?_
  obtain ⟨z, hz⟩ : ∃ z, z = w2.heap.size := ⟨_, rfl⟩
  rw [← hz] at hz3 ⊢
  refine cond_f rfl ?_
  have hs2 : Blk w2 s ty_sums_Adler (adlCells (1, 0)) := hs2
  have hz3 : Blk w3 z ty_zlib_Decoder (zCells F.d nilS nilS s 0) := hz3
  have hB03 : Below w.heap.size w w3 := hB1.trans ((hB2.mono hs1).trans (hB3.mono (by omega)))
  have hs03 := hB03.size
  have hb3 : ∀ {w'}, Below w.heap.size w3 w' → Below w.heap.size w w' := fun hB => hB03.trans hB
  have err : ∀ n : Nat, n ≠ 0 → zerr bs c1 a1 r0 = n → ∀ w', Below w.heap.size w3 w' → (cond ((n : Int) != (0 : Int)) (K (⟨none, 0, 0⟩ : Slc) 0 n w') (c_zlib_Decoder_Done (some ⟨z, 0, none⟩) w' fun t30 w3 => cond (!t30) (K (⟨none, 0, 0⟩ : Slc) 0 2 w3) (c_zlib_Decoder_Used (some ⟨z, 0, none⟩) w3 fun t34 w4 => K nilS t34 0 w4))) := fun n hn he w' hB => by
    refine cond_t (by have : ((n : Nat) : Int) ≠ 0 := by omega
                      simpa using this) (hK2 n he hn w' (hb3 hB))
  refine zWrite_fresh (base := w.heap.size) (bs := bs) (most := most) (c1 := c1) (a1 := a1) (r0 := r0) hz3 (hs2.ext hB3) (by omega) (by omega) ?_ f ec em (fun k hk => by have := hS k hk; omega) hw0 (hr.ext hB03) (fun k hk => ?_) hl hs03 (fun k hk => by have := hrh k hk; omega) hch hst hr0 ?_ ?_ ?_ ?_
  · have h2 := (h.ext hB2).ext hB3
    exact ⟨h2.blk, by omega, h2.ring.base (by omega), h2.out.base (by omega), h2.wait, (fun e => by rw [ec] at e; cases e), h2.ne, h2.wn, h2.m5, h2.mo, h2.ho, h2.hm, h2.hl, h2.hw, h2.hs, h2.ht⟩
  · have := hrh k hk
    exact ⟨fun hk2 => by have := hS k hk2; omega, by omega, by omega⟩
  · intro hb w' hB
    exact err 3 (by decide) (by rw [zerr.eq_def, if_pos hb]) w' hB
  · intro hb n hn h35 w' hB
    exact err n (by omega) (by rw [zerr.eq_def, if_neg (by rw [hb]; decide), hn]) w' hB
  · intro hb h4 hne w' hB
    have hnr : ∀ n, r0 ≠ .err n := fun n e => by
      have h5 : c1.mode = 5 := by
        by_cases h5 : c1.mode = 5
        · exact h5
        · rw [tailL, if_neg h5] at h4; cases h4
      rw [step1_five h5] at hst
      rw [e] at hst
      cases hst
    refine err 4 (by decide) ?_ w' hB
    rw [zerr.eq_def, if_neg (by rw [hb]; decide)]
    cases r0 with
    | next c a => exact absurd rfl (hr0 c a)
    | err n => exact absurd rfl (hnr n)
    | short => show zend bs c1 a1 = _; rw [zend, if_pos h4, if_neg hne]
  · intro hb hnr hsum o head tail F' S' w' ho hzz hdd hcc htk htn hhn hB
    have ez : zerr bs c1 a1 r0 = if (tailL c1 a1 (bs.drop 2)).length = 4 then 0 else 2 := by
      rw [zerr.eq_def, if_neg (by rw [hb]; decide)]
      cases r0 with
      | next c a => exact absurd rfl (hr0 c a)
      | err n => exact absurd rfl (hnr n)
      | short =>
        show zend bs c1 a1 = _
        rw [zend]
        split
        · next h4 => rw [if_pos (hsum h4)]
        · rfl
    refine cond_f rfl ?_
    refine call_zlib_Decoder_Done _ ?_
    unfold sh_zlib_Decoder_Done
    simp only [onPtr_some]
    refine ldI_of (x := 0) (hzz.cells 5 _ rfl) (cond_t rfl ?_)
    refine ldSl_of (x := tail) (hzz.cells 2 _ rfl) ?_
    rw [htn]
    by_cases h4 : (tailL c1 a1 (bs.drop 2)).length = 4
    · rw [if_pos h4] at ez
      have h5 : c1.mode = 5 := by
        by_cases h5 : c1.mode = 5
        · exact h5
        · rw [tailL, if_neg h5] at h4; cases h4
      refine cond_f (by rw [h4]; rfl) ?_
      refine call_zlib_Decoder_Used _ ?_
      unfold sh_zlib_Decoder_Used
      simp only [onPtr_some]
      have hBd : Below w'.heap.size w' w'.drew := (Below.refl _ w').drew
      refine ldSl_of (x := head) ((hzz.ext hBd).cells 1 _ rfl) ?_
      refine ldP_of (x := some ⟨F'.d, 0, none⟩) ((hzz.ext hBd).cells 0 _ rfl) ?_
      refine ldSl_of (x := tail) ((hzz.ext hBd).cells 2 _ rfl) ?_
      refine Used_blk (hdd.ext hBd) (by rw [hcc]; exact h5) ⟨(hzz.ext hBd).cells 2 _ rfl, (hzz.ext hBd).cells 1 _ rfl, ?_⟩
      have hal : a1 ≤ 8 * (bs.drop 2).length := (hch.le (Nat.zero_le _)).1
      rw [List.length_drop] at hal
      have hb2 : 2 ≤ bs.length := by
        rcases Nat.lt_or_ge bs.length 2 with hlt | hge
        · exfalso
          rw [tailL, if_pos h5, List.length_take, List.length_drop, List.length_drop] at h4
          omega
        · exact hge
      rw [htk h5, htn, h4, hhn, Nat.min_eq_left hb2, wrap64_id (x := ((2 : Nat) : Int) + (((a1 + 7) / 8 : Nat) : Int)) (by omega), wrap64_id (by omega)]
      have e : ((2 : Nat) : Int) + (((a1 + 7) / 8 : Nat) : Int) + ((4 : Nat) : Int) = ((6 + (a1 + 7) / 8 : Nat) : Int) := by omega
      rw [e]
      have hs' := hB.size
      exact hK1 ez o _ (ho.ext hBd) (hb3 (hB.trans (hBd.mono (by omega))))
    · rw [if_neg h4] at ez
      refine cond_t (by rw [show ((((tailL c1 a1 (bs.drop 2)).length : Nat) : Int) == 4) = false from beq_eq_false_iff_ne.2 (by omega)]; rfl) ?_
      exact hK2 2 ez (by decide) w' (hb3 hB)

/-! ### Pack -/
def be4 (n : Nat) : List UInt8 := [UInt8.ofNat (n / 2 ^ 24), UInt8.ofNat (n / 2 ^ 16), UInt8.ofNat (n / 2 ^ 8), UInt8.ofNat n]
theorem big_be4 {n : Nat} (h : n < 2 ^ 32) : bigN (be4 n) = n := by
  unfold be4
  rw [big4, UInt8.toNat_ofNat', UInt8.toNat_ofNat', UInt8.toNat_ofNat', UInt8.toNat_ofNat']
  omega
theorem wrap8_of (n : Nat) : IntKind.u8.wrap (n : Int) = (((UInt8.ofNat n).toNat : Nat) : Int) := by
  rw [wrap8_u8]
  show (((UInt8.ofNat ((n : Int) % 256).toNat).toNat : Nat) : Int) = _
  rw [UInt8.toNat_ofNat', UInt8.toNat_ofNat']
  omega
/-- A packed stream: its head, a body, the sum. -/
def packL (body bs : List UInt8) : List UInt8 := [120, 1] ++ body ++ be4 (adlN bs)
theorem Pack_spec {b : Slc} {bs : List UInt8} {fixed : Bool} {K : Slc → World → Prop} (hb : Rd E_uint8 w b bs) (hl : bs.length ≤ 1000000000)
    (hK : ∀ r body w', Own E_uint8 w' w.heap.size r (packL body bs) → (fixed = false → body = storeL bs) → (fixed = true → le body = (fixedN bs).1 ∧ body.length = ((fixedN bs).2 + 7) / 8) → Below w.heap.size w w' → K r w') : c_zlib_Pack b fixed w K := by
  refine call_zlib_Pack _ _ ?_
  unfold sh_zlib_Pack
  have hsl := storeL_length _ bs (Nat.le_refl _)
  refine Store_spec hb hl fun t w1 ho1 hB1 => ?_
  have hs1 := hB1.size
  refine joinP_of fun J hJ => ?_
  have go : ∀ (x : Slc) body w2, Own E_uint8 w2 w.heap.size x body → Below w.heap.size w w2 → body.length ≤ 100000000000 → (fixed = false → body = storeL bs) → (fixed = true → le body = (fixedN bs).1 ∧ body.length = ((fixedN bs).2 + 7) / 8) → J (x, ()) w2 := fun x body w2 hx hB hbd h0 h1 => hJ _ _ (by
    clear hJ
    dsimp only
    have hs2 := hB.size
    refine call_sums_NewAdler ?_
    unfold sh_sums_NewAdler
    refine nw_blk fun w3 hb3 hB3 hs3 => ?_
    have hb3 : Blk w3 w2.heap.size ty_sums_Adler (adlCells (1, 0)) := hb3
    refine nw_blk fun w4 hb4 hB4 hs4 => ?_
    have hB04 : Below w.heap.size w w4 := (hB.trans (hB3.mono hs2)).trans (hB4.mono (by omega))
    refine Of_spec (hb3.ext hB4) hb4 (hb.ext hB04) (fun hne k hk => by have := Rd.blk_lt hb hne k hk; omega) (by omega) fun w5 hc5 => ?_
    have hBw5 : Below w.heap.size w4 w5 := hc5.below (by omega) fun i hi e => by omega
    have hB24 : Below w2.heap.size w2 w4 := hB3.trans (hB4.mono (by omega))
    have hx5 := (hx.ext hB24).chg hc5 fun k hk e => by have := (hx.lt k hk).2; omega
    have hB05 := hB04.trans hBw5
    have hs5 := hB05.size
    refine nw_blk fun w6 hb6 hB6 hs6 => ⟨by decide, by decide, by decide, ?_⟩
    have hsum := adlN_lt bs
    rw [show min ((24 : Int)).toNat IntKind.u32.bits = 24 by decide, show min ((16 : Int)).toNat IntKind.u32.bits = 16 by decide, show min ((8 : Int)).toNat IntKind.u32.bits = 8 by decide, fdiv_nat, fdiv_nat, fdiv_nat, wrap8_of, wrap8_of, wrap8_of, wrap8_of]
    refine nw_blk fun w7 hb7 hB7 hs7 => ?_
    have r1 : Rd E_uint8 w6 ⟨some ⟨w5.heap.size, 0, none⟩, 2, 2⟩ [120, 1] := rd_lits (E := E_uint8) (ys := [120, 1]) hb6 (by decide) rfl
    have r3 : Rd E_uint8 w7 ⟨some ⟨w6.heap.size, 0, none⟩, 4, 4⟩ (be4 (adlN bs)) := rd_lits (E := E_uint8) (ys := be4 (adlN bs)) hb7 (by show 4 ≤ maxLen; simp [maxLen]) rfl
    refine ConcatB3 (r1.ext hB7) ((hx5.ext hB6).ext hB7).rd r3 (by show 2 + body.length + 4 ≤ _; omega) fun r w8 ho8 hB8 => ?_
    have hB57 : Below w.heap.size w5 w7 := (hB6.mono hs5).trans (hB7.mono (by omega))
    exact hK r body w8 (ho8.base (by omega)) h0 h1 ((hB05.trans hB57).trans (hB8.mono (by omega))))
  cases fixed with
  | true =>
    refine cond_t rfl ?_
    refine Fixed_spec (hb.ext hB1) hl fun r ys w2 ho2 hle2 hlen2 hB2 => ?_
    have := fixedN_le bs
    exact go r ys w2 (ho2.base hs1) (hB1.trans (hB2.mono hs1)) (by omega) (fun e => by cases e) fun _ => ⟨hle2, hlen2⟩
  | false =>
    exact cond_f rfl (go t _ w1 ho1 hB1 (by omega) (fun _ => rfl) fun e => by cases e)
end
end Go.Proofs.Yteffnkpplhcomaa
