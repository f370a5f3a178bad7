/- The program's decoder of deflate streams: what it is in memory; the fixed codes' lengths; put, next, head, stored. -/
import Derived.Test.YteffnkpplhcomaaB4
namespace Go.Proofs.Yteffnkpplhcomaa
open Go.Vc Go.RowKit
set_option maxRecDepth 400000

/-! ### The fixed codes -/
theorem fixedL_length : fixedL.length = 288 := by
  unfold fixedL
  simp only [List.length_append, List.length_replicate]
theorem fixedL_get (i : Nat) (hi : i < 288) : fixedL[i]? = some (if i < 144 then 8 else if i < 256 then 9 else if i < 280 then 7 else 8) := by
  unfold fixedL
  simp only [List.getElem?_append, List.length_append, List.length_replicate, List.getElem?_replicate]
  repeat' split
  all_goals first | rfl | (exfalso; omega)

theorem fill5 {w : World} {base n : Nat} {t : Slc} {K : World → Prop} (hn : n ≤ 100000) (ho : Own E_uint8 w base t (List.replicate n 0)) (hK : ∀ w', Own E_uint8 w' base t (List.replicate n 5) → Chg (fun k => t.blk = some k) w w' → K w') :
    loopP (σ := Int × Unit) (fun I s w6 => cond (decide (s.1 < ((t.n : Nat) : Int))) (ixK t s.1 1 fun t49 => stK t49 [(.int .u8 5)] w6 fun w7 => I ((IntKind.i64.wrap (s.1 + (1 : Int))), ()) w7) (K w6)) (0, ()) w := by
  have htn : t.n = n := by rw [ho.rd.n, List.length_replicate]
  rw [htn]
  have hrl : (List.replicate n (5 : UInt8)).length = (List.replicate n (0 : UInt8)).length := by simp
  refine loopP_rule (fun (s : Int × Unit) w2 => ∃ k : Nat, s.1 = k ∧ k ≤ n ∧ Own E_uint8 w2 base t (mix (List.replicate n 5) (List.replicate n 0) k) ∧ Chg (fun k => t.blk = some k) w w2) (fun s => n - s.1.toNat) ⟨0, rfl, by omega, by rw [mix_zero]; exact ho, Chg.refl _ _⟩ ?_
  rintro ⟨i, _⟩ w2 ⟨k, rfl, hk, ho2, hc2⟩ I hI
  dsimp only at *
  refine cond_of (fun hlt => ?_) (fun hge => ?_)
  · have hlt := of_decide_eq_true hlt
    have hkl : k < (List.replicate n (0 : UInt8)).length := by simp; omega
    refine ho2.rd.ix rfl (by omega) (by rw [mix_length hrl]; simp; omega) fun _ => ?_
    have hx : (mix (List.replicate n 5) (List.replicate n 0) k)[k]? = some (0 : UInt8) := by
      rw [mix_get hrl hkl, if_neg (by omega), List.getElem?_replicate, if_pos (by omega)]
    refine ho2.st0 (x := 0) (y := 5) (by rw [show ((k : Int)).toNat = k from rfl]; exact hx) rfl fun w3 ho3 hg3 hs3 => ?_
    rw [show ((k : Int)).toNat = k from rfl, mix_set hrl hkl (by rw [List.getElem?_replicate, if_pos (by omega)])] at ho3
    rw [wrap64_id (by omega)]
    exact hI _ _ ⟨k + 1, by simp, by omega, ho3, hc2.trans (Chg.of_grown hg3 fun k hk => hk) fun i _ hi => hi⟩ (by simp; omega)
  · have hge := of_decide_eq_false hge
    have : k = n := by omega
    subst this
    have := mix_all hrl
    rw [List.length_replicate] at this
    rw [this] at ho2
    exact hK w2 ho2 hc2

theorem Fixed_rest {w : World} {base : Nat} {t6 t7 : Slc} {K : Slc → Slc → World → Prop} (ho6 : Own E_uint8 w base t6 (List.replicate 288 0)) (ho7 : Own E_uint8 w base t7 (List.replicate 30 0)) (hne : ∀ k, t6.blk = some k → t7.blk ≠ some k) (hbase : base ≤ w.heap.size)
    (hK : ∀ w', Own E_uint8 w' base t6 fixedL → Own E_uint8 w' base t7 (List.replicate 30 5) → Below base w w' → K t6 t7 w') :
    loopP (σ := Int × Unit) (fun I1 s w3 =>
       cond (decide (s.1 < ((t6.n : Nat) : Int)))
         (cond (decide (s.1 < (144 : Int)))
            (ixK t6 s.1 1 fun t21 =>
             stK t21 [(.int .u8 8)] w3 fun w4 =>
             I1 ((IntKind.i64.wrap (s.1 + (1 : Int))), ()) w4)
            (cond (decide (s.1 < (256 : Int)))
               (ixK t6 s.1 1 fun t27 =>
                stK t27 [(.int .u8 9)] w3 fun w5 =>
                I1 ((IntKind.i64.wrap (s.1 + (1 : Int))), ()) w5)
               (cond (decide (s.1 < (280 : Int)))
                  (ixK t6 s.1 1 fun t33 =>
                   stK t33 [(.int .u8 7)] w3 fun w6 =>
                   I1 ((IntKind.i64.wrap (s.1 + (1 : Int))), ()) w6)
                  (ixK t6 s.1 1 fun t15 =>
                   stK t15 [(.int .u8 8)] w3 fun w7 =>
                   I1 ((IntKind.i64.wrap (s.1 + (1 : Int))), ()) w7))))
         (loopP (σ := Int × Unit) (fun I2 s_1 w8 =>
            cond (decide (s_1.1 < ((t7.n : Nat) : Int)))
              (ixK t7 s_1.1 1 fun t42 =>
               stK t42 [(.int .u8 5)] w8 fun w9 =>
               I2 ((IntKind.i64.wrap (s_1.1 + (1 : Int))), ()) w9)
              (K t6 t7 w8)) (0, ()) w3)) (0, ()) w := by
  have htn : t6.n = 288 := by rw [ho6.rd.n, List.length_replicate]
  rw [htn]
  have hrl : fixedL.length = (List.replicate 288 (0 : UInt8)).length := by rw [fixedL_length, List.length_replicate]
  refine loopP_rule (fun (s : Int × Unit) w2 => ∃ k : Nat, s.1 = k ∧ k ≤ 288 ∧ Own E_uint8 w2 base t6 (mix fixedL (List.replicate 288 0) k) ∧ Chg (fun k => t6.blk = some k) w w2) (fun s => 288 - s.1.toNat) ⟨0, rfl, by omega, by rw [mix_zero]; exact ho6, Chg.refl _ _⟩ ?_
  rintro ⟨i, _⟩ w2 ⟨k, rfl, hk, ho2, hc2⟩ I hI
  dsimp only at *
  refine cond_of (fun hlt => ?_) (fun hge => ?_)
  · have hlt := of_decide_eq_true hlt
    have hk288 : k < 288 := by omega
    have hkl : k < (List.replicate 288 (0 : UInt8)).length := by rw [List.length_replicate]; exact hk288
    have hget := fixedL_get k hk288
    have st : ∀ v : UInt8, fixedL[k]? = some v → ixK t6 (k : Int) 1 fun a => stK a [(.int .u8 (v.toNat : Int))] w2 fun w4 => I ((IntKind.i64.wrap ((k : Int) + (1 : Int))), ()) w4 := fun v hv => by
      refine ho2.rd.ix rfl (by omega) (by rw [mix_length hrl, List.length_replicate]; omega) fun _ => ?_
      have hx : (mix fixedL (List.replicate 288 0) k)[k]? = some (0 : UInt8) := by
        rw [mix_get hrl hkl, if_neg (by omega), List.getElem?_replicate, if_pos hk288]
      refine ho2.st0 (x := 0) (y := v) (by rw [show ((k : Int)).toNat = k from rfl]; exact hx) rfl fun w3 ho3 hg3 hs3 => ?_
      rw [show ((k : Int)).toNat = k from rfl, mix_set hrl hkl hv] at ho3
      rw [wrap64_id (by omega)]
      exact hI _ _ ⟨k + 1, by simp, by omega, ho3, hc2.trans (Chg.of_grown hg3 fun k hk => hk) fun i _ hi => hi⟩ (by simp; omega)
    refine cond_of (fun h1 => ?_) (fun h1 => cond_of (fun h2 => ?_) (fun h2 => cond_of (fun h3 => ?_) (fun h3 => ?_)))
    · have h1 := of_decide_eq_true h1
      rw [if_pos (by omega)] at hget
      exact st 8 hget
    · have h1 := of_decide_eq_false h1
      have h2 := of_decide_eq_true h2
      rw [if_neg (by omega), if_pos (by omega)] at hget
      exact st 9 hget
    · have h1 := of_decide_eq_false h1
      have h2 := of_decide_eq_false h2
      have h3 := of_decide_eq_true h3
      rw [if_neg (by omega), if_neg (by omega), if_pos (by omega)] at hget
      exact st 7 hget
    · have h1 := of_decide_eq_false h1
      have h2 := of_decide_eq_false h2
      have h3 := of_decide_eq_false h3
      rw [if_neg (by omega), if_neg (by omega), if_neg (by omega)] at hget
      exact st 8 hget
  · have hge := of_decide_eq_false hge
    have : k = 288 := by omega
    subst this
    have := mix_all hrl
    rw [List.length_replicate] at this
    rw [this] at ho2
    have ho7' := ho7.chg hc2 fun j hj e => hne j e hj
    have hs2 := hc2.size
    refine fill5 (n := 30) (by decide) ho7' fun w3 ho3 hc3 => ?_
    have hB : Below base w w3 := (hc2.below hbase fun i hi hs => by have := (ho6.lt i hs).1; omega).trans (hc3.below (by omega) fun i hi hs => by have := (ho7.lt i hs).1; omega)
    exact hK w3 (ho2.chg hc3 fun j hj e => hne j hj e) ho3 hB

theorem HFixed_spec {w : World} {K : Slc → Slc → World → Prop} (hK : ∀ t6 t7 w', Own E_uint8 w' w.heap.size t6 fixedL → Below w.heap.size w w' → K t6 t7 w') : c_huff_Fixed w K := by
  refine call_huff_Fixed ?_
  unfold sh_huff_Fixed
  have hBd : Below w.heap.size w w.drew := (Below.refl _ w).drew
  have mk : ∀ {n : Int} {m : Nat} {w1 : World} {F : Slc → World → Prop}, n = m → m ≤ 1000 → (∀ r w2, Own E_uint8 w2 w1.heap.size r (List.replicate m 0) → r.blk = some w1.heap.size → Below w1.heap.size w1 w2 → F r w2) → mkSl PG ty_sl_uint8 (.int .i64 n) (.int .i64 n) w1 F := by
    intro n m w1 F e hm hF
    exact mkSl_of sT_sl_uint8 (x0 := (0 : UInt8)) rfl (n := m) e e (by rw [by_sl_uint8]; omega) (by simp only [maxLen]; omega) fun w2 ho hB => hF _ w2 ho rfl hB
  refine ⟨?_, ?_⟩
  · refine mk (m := 288) rfl (by decide) fun t6 w1 ho1 hb1 hB1 => ?_
    refine mk (m := 30) rfl (by decide) fun t7 w2 ho2 hb2 hB2 => ?_
    have hs1 : w.heap.size ≤ w1.heap.size := hB1.size
    refine Fixed_rest (base := w.heap.size) (ho1.ext hB2) (ho2.base hs1) (fun k e e' => ?_) (Nat.le_trans hs1 hB2.size) fun w3 h6 h7 hB3 => ?_
    · rw [hb2] at e'
      cases e'
      have := (ho1.lt _ e).2
      omega
    · exact hK _ _ w3 h6 ((hBd.trans (hB1.trans (hB2.mono hs1))).trans hB3)
  · refine mk (m := 30) rfl (by decide) fun t7 w1 ho1 hb1 hB1 => ?_
    refine mk (m := 288) rfl (by decide) fun t6 w2 ho2 hb2 hB2 => ?_
    have hs1 : w.heap.size ≤ w1.heap.size := hB1.size
    refine Fixed_rest (base := w.heap.size) (ho2.base hs1) (ho1.ext hB2) (fun k e e' => ?_) (Nat.le_trans hs1 hB2.size) fun w3 h6 h7 hB3 => ?_
    · rw [hb2] at e
      cases e
      have := (ho1.lt _ e').2
      omega
    · exact hK _ _ w3 h6 ((hBd.trans (hB1.trans (hB2.mono hs1))).trans hB3)

/-! ### The decoder in memory -/
/-- What a table must be to be read. -/
structure TabR (w : World) (base : Nat) (f : TF) (ls : List UInt8) : Prop where
  blk : Blk w f.g ty_huff_Table (tabCells (cntK ls) f.so f.co f.lo (lastK ls))
  so : Own E_int w base f.so (ints (sortedK ls 15))
  hg : base ≤ f.g
  sm : ls.length ≤ 320
  small : ∀ x ∈ ls, x.toNat ≤ 15
  room : roomN ls ≤ 32768
theorem TabM.r {w : World} {base : Nat} {f : TF} {ls : List UInt8} (h : TabM w base f ls) : TabR w base f ls := ⟨h.blk, h.so, h.hg, h.sm, h.small, h.room⟩
/-- Blocks that are neither tables nor rows of numbers. -/
def NoTab (w : World) (k : Nat) : Prop := ∃ t cs, Blk w k t cs ∧ t ≠ ty_huff_Table ∧ t ≠ ty_int
section
variable {w w' : World} {base : Nat} {f : TF} {ls : List UInt8}
theorem TabR.chg {T : Nat → Prop} (h : TabR w base f ls) (hc : Chg T w w') (hT : ∀ k, T k → k < w.heap.size → NoTab w k) : TabR w' base f ls := by
  refine ⟨h.blk.chg hc fun hs => ?_, h.so.chg hc fun k hk hs => ?_, h.hg, h.sm, h.small, h.room⟩
  · obtain ⟨t, cs, hb, h1, h2⟩ := hT _ hs h.blk.lt
    exact hb.ne_t h.blk h1 rfl
  · obtain ⟨t, cs, hb, h1, h2⟩ := hT _ hs (h.so.lt k hk).2
    obtain ⟨cs', hcs'⟩ := h.so.blk_t hk
    exact hb.ne_t hcs' h2 rfl
theorem TabR.ext (h : TabR w base f ls) (hb : Below w.heap.size w w') : TabR w' base f ls := h.chg (Chg.of_ext (S := fun _ => False) hb) fun _ h => h.elim
theorem TabR.base_le {b : Nat} (h : TabR w base f ls) (hb : b ≤ base) : TabR w b f ls := ⟨h.blk, h.so.base hb, Nat.le_trans hb h.hg, h.sm, h.small, h.room⟩
end

structure DF where
  d : Nat
  wait : Slc
  ring : Slc
  out : Slc
  sg : Option TF
  ds : Option TF
structure DS where
  most : Nat
  told : Nat
  took : Nat
  given : Nat
  skip : Nat
  c : Cfg
  wait : List UInt8
  out : List UInt8
def dS (F : DF) (k : Nat) : Prop := k = F.d ∨ F.ring.blk = some k ∨ F.out.blk = some k
def tp (o : Option TF) : Option Addr := o.map fun f => ⟨f.g, 0, none⟩
def decCells (F : DF) (S : DS) (failed : Int) : List Value :=
  [.int .i64 S.most, .int .i64 S.c.mode, .bool S.c.last, .slice F.wait.a F.wait.n F.wait.c, .int .i64 S.skip, .int .i64 S.c.left, .pointer (tp F.sg), .pointer (tp F.ds), .slice F.ring.a F.ring.n F.ring.c, .int .i64 S.c.hist.length, .int .i64 S.told, .int .i64 S.took, .int .i64 S.given, .int .i64 failed, .slice F.out.a F.out.n F.out.c]
/-- The decoder of streams, while it has not failed. -/
structure DecM (w : World) (base : Nat) (F : DF) (S : DS) : Prop where
  blk : Blk w F.d ty_inflate_Decoder (decCells F S 0)
  hd : base ≤ F.d
  ring : Own E_uint8 w base F.ring (ringOf S.c.hist)
  out : Own E_uint8 w base F.out S.out
  wait : Rd E_uint8 w F.wait S.wait
  tabs : S.c.mode = 4 → ∃ f1 f2, F.sg = some f1 ∧ F.ds = some f2 ∧ TabR w base f1 S.c.sg ∧ TabR w base f2 S.c.ds
  ne : ∀ k, F.ring.blk = some k → F.out.blk ≠ some k
  wn : ∀ k, F.wait.blk = some k → F.ring.blk ≠ some k ∧ F.out.blk ≠ some k ∧ k ≠ F.d
  m5 : S.c.mode ≤ 5
  mo : S.most ≤ 1073741824
  ho : S.out.length ≤ S.c.hist.length
  hm : S.c.hist.length ≤ S.most
  hl : S.c.left ≤ 65535
  hw : S.wait.length ≤ 100000000000
  hs : S.skip ≤ 8
  ht : S.took ≤ 1000000000000 ∧ S.given ≤ 1000000000000 ∧ S.told ≤ S.c.hist.length
section
variable {w w' : World} {base : Nat} {F : DF} {S : DS}
theorem DecM.noTab (h : DecM w base F S) : ∀ k, dS F k → NoTab w k := by
  rintro k (rfl | hk | hk)
  · exact ⟨_, _, h.blk, by decide, by decide⟩
  · obtain ⟨cs, hcs⟩ := h.ring.blk_t hk
    exact ⟨_, _, hcs, by decide, by decide⟩
  · obtain ⟨cs, hcs⟩ := h.out.blk_t hk
    exact ⟨_, _, hcs, by decide, by decide⟩
theorem DecM.below (h : DecM w base F S) : ∀ k, dS F k → base ≤ k ∧ k < w.heap.size := by
  rintro k (rfl | hk | hk)
  · exact ⟨h.hd, h.blk.lt⟩
  · exact h.ring.lt k hk
  · exact h.out.lt k hk
theorem DecM.chg {T : Nat → Prop} (h : DecM w base F S) (hc : Chg T w w') (hT : ∀ k, dS F k ∨ F.wait.blk = some k → ¬ T k) (hN : ∀ k, T k → k < w.heap.size → NoTab w k) : DecM w' base F S := by
  refine ⟨h.blk.chg hc (hT _ (.inl (.inl rfl))), h.hd, h.ring.chg hc fun k hk => hT k (.inl (.inr (.inl hk))), h.out.chg hc fun k hk => hT k (.inl (.inr (.inr hk))), h.wait.chg hc fun a ha => hT _ (.inr (slk.2 ⟨a, ha, rfl⟩)), fun hm => ?_, h.ne, h.wn, h.m5, h.mo, h.ho, h.hm, h.hl, h.hw, h.hs, h.ht⟩
  obtain ⟨f1, f2, e1, e2, t1, t2⟩ := h.tabs hm
  exact ⟨f1, f2, e1, e2, t1.chg hc hN, t2.chg hc hN⟩
theorem DecM.ext (h : DecM w base F S) (hb : Below w.heap.size w w') : DecM w' base F S := h.chg (Chg.of_ext (S := fun _ => False) hb) (fun _ _ => id) fun _ h => h.elim
theorem DecM.drew (h : DecM w base F S) : DecM w.drew base F S := h.ext ((Below.refl _ w).drew)

/-- The decoder's own numbers are written anew. -/
theorem DecM.put {F' : DF} {S' : DS} (h : DecM w base F S) (hb : Blk w' F.d ty_inflate_Decoder (decCells F' S' 0)) (hg : w.grownBy w' (some F.d)) (e1 : F'.d = F.d) (e2 : F'.ring = F.ring) (e3 : F'.out = F.out) (e4 : F'.wait = F.wait) (e5 : S'.c.hist = S.c.hist) (e6 : S'.out = S.out) (e7 : S'.wait = S.wait) (e8 : S'.most = S.most)
    (ht : S'.c.mode = 4 → ∃ f1 f2, F'.sg = some f1 ∧ F'.ds = some f2 ∧ TabR w' base f1 S'.c.sg ∧ TabR w' base f2 S'.c.ds) (h5 : S'.c.mode ≤ 5) (hl : S'.c.left ≤ 65535) (hs : S'.skip ≤ 8) (htt : S'.took ≤ 1000000000000 ∧ S'.given ≤ 1000000000000 ∧ S'.told ≤ S'.c.hist.length) : DecM w' base F' S' := by
  have hc := Chg.gg hg
  have ap : ∀ {s : Slc} {xs : List UInt8}, Own E_uint8 w base s xs → ∀ k, s.blk = some k → k ≠ F.d := fun ho k hk => by
    obtain ⟨cs, hcs⟩ := ho.blk_t hk
    exact hcs.ne_t h.blk (by decide)
  refine ⟨by rw [e1]; exact hb, by rw [e1]; exact h.hd, by rw [e2, e5]; exact h.ring.chg hc (ap h.ring), by rw [e3, e6]; exact h.out.chg hc (ap h.out), by rw [e4, e7]; exact h.wait.chg hc fun a ha => (h.wn _ (slk.2 ⟨a, ha, rfl⟩)).2.2, ht, by rw [e2, e3]; exact h.ne, by rw [e4, e2, e3, e1]; exact h.wn, h5, by rw [e8]; exact h.mo, by rw [e6, e5]; exact h.ho, by rw [e5, e8]; exact h.hm, hl, by rw [e7]; exact h.hw, hs, htt⟩
theorem DecM.tabs' (h : DecM w base F S) (hg : w.grownBy w' (some F.d)) : S.c.mode = 4 → ∃ f1 f2, F.sg = some f1 ∧ F.ds = some f2 ∧ TabR w' base f1 S.c.sg ∧ TabR w' base f2 S.c.ds := fun hm => by
  obtain ⟨f1, f2, e1, e2, t1, t2⟩ := h.tabs hm
  have hN : ∀ k, k = F.d → k < w.heap.size → NoTab w k := fun k e _ => by subst e; exact h.noTab _ (.inl rfl)
  exact ⟨f1, f2, e1, e2, t1.chg (Chg.gg hg) hN, t2.chg (Chg.gg hg) hN⟩

theorem next_spec {K : World → Prop} (h : DecM w base F S) (hK : ∀ w', DecM w' base F { S with c := S.c.behind } → Chg (fun k => k = F.d) w w' → K w') : c_inflate_Decoder_next (some ⟨F.d, 0, none⟩) w K := by
  refine call_inflate_Decoder_next _ ?_
  unfold sh_inflate_Decoder_next
  simp only [onPtr_some]
  rw [add_mk]
  refine stK_blk h.blk (by simp [decCells]) fun w1 hb1 hg1 hs1 => ?_
  have h1 : DecM w1 base F { S with c := { S.c with mode := 0 } } := h.put hb1 hg1 rfl rfl rfl rfl rfl rfl rfl rfl (fun e => by cases e) (Nat.zero_le _) h.hl h.hs h.ht
  refine ldB_of (x := S.c.last) (h1.blk.cells 2 _ rfl) ?_
  cases hl : S.c.last with
  | true =>
    refine cond_t rfl ?_
    refine stK_blk h1.blk (by simp [decCells]) fun w2 hb2 hg2 hs2 => ?_
    refine hK w2 ?_ ((Chg.gg hg1).trans (Chg.gg hg2) fun i _ hi => hi)
    have e : S.c.behind = { S.c with mode := 5 } := by unfold Cfg.behind; rw [if_pos hl]
    rw [e]
    exact h1.put hb2 hg2 rfl rfl rfl rfl rfl rfl rfl rfl (fun e => by cases e) (Nat.le_refl _) h.hl h.hs h.ht
  | false =>
    refine cond_f rfl ?_
    refine hK w1 ?_ (Chg.gg hg1)
    have e : S.c.behind = { S.c with mode := 0 } := by unfold Cfg.behind; rw [if_neg (by rw [hl]; decide)]
    rw [e]
    exact h1

structure DF.to (F F' : DF) (n : Nat) : Prop where
  d : F'.d = F.d
  wait : F'.wait = F.wait
  ring : F'.ring.blk = F.ring.blk ∨ ∃ k, F'.ring.blk = some k ∧ n ≤ k
  out : F'.out.blk = F.out.blk ∨ ∃ k, F'.out.blk = some k ∧ n ≤ k
theorem DF.to.refl (F : DF) (n : Nat) : F.to F n := ⟨rfl, rfl, .inl rfl, .inl rfl⟩
theorem DF.to.old {F F' : DF} {n : Nat} (h : F.to F' n) : ∀ k, dS F' k → dS F k ∨ n ≤ k := by
  rintro k (e | hk | hk)
  · exact .inl (.inl (e.trans h.d))
  · rcases h.ring with e | ⟨j, e, hj⟩
    · exact .inl (.inr (.inl (by rw [← e]; exact hk)))
    · rw [e] at hk; cases hk; exact .inr hj
  · rcases h.out with e | ⟨j, e, hj⟩
    · exact .inl (.inr (.inr (by rw [← e]; exact hk)))
    · rw [e] at hk; cases hk; exact .inr hj
theorem DF.to.trans {F F' F'' : DF} {n n' : Nat} (h : F.to F' n) (h' : F'.to F'' n') (hn : n ≤ n') : F.to F'' n := by
  refine ⟨h'.d.trans h.d, h'.wait.trans h.wait, ?_, ?_⟩
  · rcases h'.ring with e | ⟨k, e, hk⟩
    · rcases h.ring with e' | ⟨j, e', hj⟩
      · exact .inl (e.trans e')
      · exact .inr ⟨j, e.trans e', hj⟩
    · exact .inr ⟨k, e, by omega⟩
  · rcases h'.out with e | ⟨k, e, hk⟩
    · rcases h.out with e' | ⟨j, e', hj⟩
      · exact .inl (e.trans e')
      · exact .inr ⟨j, e.trans e', hj⟩
    · exact .inr ⟨k, e, by omega⟩

/-- One byte comes. -/
theorem put_spec {c : UInt8} {v : Int} {K : Int → World → Prop} (hv : v = (c.toNat : Int)) (h : DecM w base F S) (hbase : base ≤ w.heap.size) (hwb : ∀ k, F.wait.blk = some k → k < w.heap.size)
    (hK1 : S.most ≤ S.c.hist.length → K 5 w.drew)
    (hK2 : ∀ F' w', S.c.hist.length < S.most → DecM w' base F' { S with c := { S.c with hist := S.c.hist ++ [c] }, out := S.out ++ [c] } → F.to F' w.heap.size → Chg (dS F) w w' → K 0 w') : c_inflate_Decoder_put (some ⟨F.d, 0, none⟩) v w K := by
  subst hv
  refine call_inflate_Decoder_put _ _ ?_
  unfold sh_inflate_Decoder_put
  simp only [onPtr_some]
  have hd := h.drew
  have hmo := h.mo
  refine ldI_of (x := ((S.c.hist.length : Nat) : Int)) (hd.blk.cells 9 _ rfl) ?_
  refine ldI_of (x := ((S.most : Nat) : Int)) (hd.blk.cells 0 _ rfl) ?_
  refine cond_of (fun hfull => hK1 (by have := of_decide_eq_true hfull; omega)) (fun hroom => ?_)
  have hroom : S.c.hist.length < S.most := by have := of_decide_eq_false hroom; omega
  clear hK1
  have hrn : F.ring.n = (ringOf S.c.hist).length := h.ring.rd.n
  have hrl := ringOf_length S.c.hist
  have dne : ∀ {w' : World} {s : Slc} {xs : List UInt8} {b : Nat} {cs : List Value}, Own E_uint8 w' b s xs → Blk w' F.d ty_inflate_Decoder cs → ∀ k, s.blk = some k → k ≠ F.d := fun ho hb k hk => by
    obtain ⟨cs', hcs'⟩ := ho.blk_t hk
    exact hcs'.ne_t hb (by decide)
  refine joinP_of fun J hJ => ?_
  -- the byte is in the window
  have mid : ∀ (rg : Slc) w1, Blk w1 F.d ty_inflate_Decoder (decCells { F with ring := rg } S 0) → Own E_uint8 w1 base rg (ringOf (S.c.hist ++ [c])) → (rg.blk = F.ring.blk ∨ ∃ k, rg.blk = some k ∧ w.heap.size ≤ k) → Chg (fun k => k = F.d ∨ F.ring.blk = some k) w w1 → J () w1 := fun rg w1 hb1 hr1 hrb hc1 => hJ _ _ (by
    clear hJ
    have hs1 := hc1.size
    have ho1 : Own E_uint8 w1 base F.out S.out := h.out.chg hc1 fun k hk hs => by
      rcases hs with e | e
      · exact dne h.out h.blk k hk e
      · exact h.ne k e hk
    have hw1 : Rd E_uint8 w1 F.wait S.wait := h.wait.chg hc1 fun a ha hs => by
      have := h.wn _ (slk.2 ⟨a, ha, rfl⟩)
      rcases hs with e | e
      · exact this.2.2 e
      · exact this.1 e
    refine ldI_of (x := ((S.c.hist.length : Nat) : Int)) (hb1.cells 9 _ rfl) ?_
    rw [add_mk, wrap64_id (by omega)]
    refine stK_blk hb1 (by simp [decCells]) fun w2 hb2 hg2 hs2 => ?_
    have ho2 := ho1.chg (Chg.gg hg2) (dne ho1 hb1)
    have hr2 := hr1.chg (Chg.gg hg2) (dne hr1 hb1)
    have hw2 := hw1.chg (Chg.gg hg2) fun a ha => (h.wn _ (slk.2 ⟨a, ha, rfl⟩)).2.2
    refine ldSl_of (x := F.out) (hb2.cells 14 _ rfl) ?_
    have hol := h.ho
    refine apB1 (c := c) rfl ho2 (by omega) (by omega) fun q w3 ho3 hc3 hq3 => ?_
    have hb3 := hb2.chg hc3 fun e => dne ho2 hb2 _ e rfl
    have outne : ∀ k, F.out.blk = some k → rg.blk ≠ some k := fun k hk e => by
      rcases hrb with e' | ⟨j, e', hj⟩
      · exact h.ne k (by rw [← e']; exact e) hk
      · rw [e'] at e; cases e
        have := (h.out.lt _ hk).2
        omega
    have hr3 := hr2.chg hc3 fun k hk hs => outne k hs hk
    have hw3 := hw2.chg hc3 fun a ha hs => (h.wn _ (slk.2 ⟨a, ha, rfl⟩)).2.1 hs
    rw [show (⟨F.d, 0, none⟩ : Addr).add 14 = ⟨F.d, 0 + 14, none⟩ from add_mk _ _ _]
    refine stK_blk hb3 (by simp [decCells, putL_length]) fun w4 hb4 hg4 hs4 => ?_
    have hr4 := hr3.chg (Chg.gg hg4) (dne hr3 hb3)
    have ho4 := ho3.chg (Chg.gg hg4) (dne ho3 hb3)
    have hw4 := hw3.chg (Chg.gg hg4) fun a ha => (h.wn _ (slk.2 ⟨a, ha, rfl⟩)).2.2
    have hc4 : Chg (dS F) w w4 := ((((hc1.mono fun i _ hi => by rcases hi with e | e; exact .inl e; exact .inr (.inl e)).trans (Chg.gg hg2) fun i _ hi => .inl hi).trans hc3 fun i _ hi => .inr (.inr hi)).trans (Chg.gg hg4) fun i _ hi => .inl hi)
    have hs2' := hs2
    have hqb : q.blk = F.out.blk ∨ ∃ k, q.blk = some k ∧ w.heap.size ≤ k := by
      rcases hq3 with e | ⟨k, e, hk⟩
      · exact .inl e
      · exact .inr ⟨k, e, by omega⟩
    refine hK2 { F with ring := rg, out := q } w4 hroom ⟨?_, h.hd, hr4, ho4, hw4, fun hm => ?_, fun k hk e => ?_, fun k hk => ⟨fun e => ?_, fun e => ?_, (h.wn k hk).2.2⟩, h.m5, h.mo, ?_, ?_, h.hl, h.hw, h.hs, ?_⟩ ⟨rfl, rfl, hrb, hqb⟩ hc4
    · have e : ((S.c.hist.length : Nat) : Int) + 1 = (((S.c.hist ++ [c]).length : Nat) : Int) := by simp
      rw [e] at hb4
      exact hb4
    · obtain ⟨f1, f2, e1, e2, t1, t2⟩ := h.tabs hm
      exact ⟨f1, f2, e1, e2, t1.chg hc4 fun k hk _ => h.noTab k hk, t2.chg hc4 fun k hk _ => h.noTab k hk⟩
    · rcases hqb with e' | ⟨j, e', hj⟩
      · exact outne k (by rw [← e']; exact e) hk
      · rcases hq3 with e2 | ⟨j2, e2, hj2⟩
        · exact outne k (by rw [← e2]; exact e) hk
        · rw [e2] at e; cases e
          have := (hr2.lt _ hk).2
          omega
    · rcases hrb with e' | ⟨j, e', hj⟩
      · exact (h.wn k hk).1 (by rw [← e']; exact e)
      · have e : rg.blk = some k := e
        rw [e'] at e; cases e; have := hwb _ hk; omega
    · rcases hqb with e' | ⟨j, e', hj⟩
      · exact (h.wn k hk).2.1 (by rw [← e']; exact e)
      · have e : q.blk = some k := e
        rw [e'] at e; cases e; have := hwb _ hk; omega
    · show (S.out ++ [c]).length ≤ (S.c.hist ++ [c]).length
      simp; omega
    · show (S.c.hist ++ [c]).length ≤ S.most
      simp; omega
    · refine ⟨h.ht.1, h.ht.2.1, ?_⟩
      show S.told ≤ (S.c.hist ++ [c]).length
      have := h.ht.2.2
      simp; omega)
  refine ldSl_of (x := F.ring) (hd.blk.cells 8 _ rfl) ?_
  by_cases hlt : ((F.ring.n : Nat) : Int) < 32768
  · rw [decide_eq_true hlt, cond_true]
    refine ldSl_of (x := F.ring) (hd.blk.cells 8 _ rfl) ?_
    refine apB1 (c := c) rfl hd.ring hbase (by omega) fun q w1 ho1 hc1 hq1 => ?_
    have hb1 := hd.blk.chg hc1 fun e => dne hd.ring hd.blk _ e rfl
    rw [add_mk]
    refine stK_blk hb1 (by simp [decCells]) fun w2 hb2 hg2 hs2 => ?_
    refine mid q w2 hb2 ?_ hq1 ?_
    · rw [ringOf_snoc, if_pos (by omega)]
      exact ho1.chg (Chg.gg hg2) (dne ho1 hb1)
    · have hc0 : Chg (fun k => k = F.d ∨ F.ring.blk = some k) w w.drew := Chg.of_ext ((Below.refl _ w).drew)
      exact (hc0.trans hc1 fun i _ hi => .inr hi).trans (Chg.gg hg2) fun i _ hi => .inl hi
  · rw [decide_eq_false hlt, cond_false]
    have hdd := hd.drew
    refine ldSl_of (x := F.ring) (hdd.blk.cells 8 _ rfl) ?_
    refine ldI_of (x := ((S.c.hist.length : Nat) : Int)) (hdd.blk.cells 9 _ rfl) ⟨by decide, ?_⟩
    have e : ((S.c.hist.length : Nat) : Int).tmod 32768 = ((S.c.hist.length % 32768 : Nat) : Int) := IntWalk.up_tmod rfl rfl
    rw [e]
    refine hdd.ring.rd.ix rfl (by omega) (by omega) fun _ => ?_
    refine hdd.ring.st0 (x := (ringOf S.c.hist)[S.c.hist.length % 32768]'(by omega)) (y := c) (List.getElem?_eq_getElem _) rfl fun w1 ho1 hg1 hs1 => ?_
    have hc1 : Chg (fun k => F.ring.blk = some k) w.drew.drew w1 := Chg.of_grown hg1 fun k hk => hk
    refine mid F.ring w1 (hdd.blk.chg hc1 fun e => dne hdd.ring hdd.blk _ e rfl) ?_ (.inl rfl) ?_
    · rw [ringOf_snoc, if_neg (by omega)]
      exact ho1
    · have hc0 : Chg (fun k => k = F.d ∨ F.ring.blk = some k) w w.drew.drew := Chg.of_ext ((Below.refl _ w).drew.drew)
      exact hc0.trans hc1 fun i _ hi => .inr hi
end

end Go.Proofs.Yteffnkpplhcomaa
