/- Builders, TrimRight, the reference's Encode; the text of a line, by both. -/
import Derived.Test.YtgejghejnibocaaDoorT1
import Derived.Lib.Builder
import Derived.Lib.UnsafeStr
import Derived.Laws.Externs
namespace Go.Proofs.YtgejghejnibocaaDoor
open Go.Vc Go.RowKit

def strOf (l : List UInt8) : ByteArray := ⟨l.toArray⟩
theorem strOf_toList (l : List UInt8) : (strOf l).toList = l := by rw [ByteArray.toList_eq]; rfl
theorem strOf_size (l : List UInt8) : (strOf l).size = l.length := by simp [strOf, ByteArray.size]
theorem strOf_extract (l : List UInt8) (n : Nat) : (strOf l).extract 0 n = strOf (l.take n) := by
  apply ByteArray.ext
  rw [ByteArray.data_extract]
  simp [strOf]

theorem flat_byte (bs : List UInt8) : flat byteE bs = bs.map fun b => Value.int .u8 b.toNat := by
  unfold flat
  induction bs with
  | nil => rfl
  | cons b r ih => rw [List.flatMap_cons, ih]; rfl

theorem own_bytes {w : World} {g base : Nat} {bs : List UInt8} {vs : List Value} (hg : base ≤ g) (hb : Blk w g 5 vs) (hv : vs = bs.map fun b => Value.int .u8 b.toNat) (hm : bs.length ≤ 1000000) :
    Own byteE w base ⟨some ⟨g, 0, none⟩, bs.length, bs.length⟩ bs := by
  subst hv
  refine Own.of_blk (E := byteE) hg hb (Nat.le_refl _) (by simp only [maxLen]; omega) (by simp [byteE]) ?_
  rw [flat_byte]
  exact List.take_of_length_le (by simp [byteE])

/-! ### The reference's Encode -/
theorem num_byte {x y : Int} (h : y = x) (h0 : 0 ≤ x ∧ x < 256) : Value.int .u8 (IntKind.u8.wrap y) = Value.int .u8 ((u8 x).toNat : Int) := by
  subst h
  rw [u8_toNat h0.1 h0.2, IntWalk.u8_in _ (by omega)]

theorem rEncode_spec {r : Int} {w : World} {K : Slc → World → Prop} (hK : ∀ s w', Own byteE w' w.heap.size s (encR r) → Below w.heap.size w w' → K s w') : c_phosphorref10_Encode r w K := by
  refine call_phosphorref10_Encode _ ?_
  unfold sh_phosphorref10_Encode
  refine joinP_of fun J hJ => ?_
  have main : J (fixR r, ()) w := hJ _ _ (by
    dsimp only
    obtain ⟨hv0, hv1, _⟩ := validR_iff.1 (validR_fix r)
    have hK : ∀ s w', Own byteE w' w.heap.size s (encV (fixR r)) → Below w.heap.size w w' → K s w' := hK
    generalize fixR r = v at *
    have d1 : ∀ d : Int, v.tdiv d = v / d := fun d => Int.tdiv_eq_ediv_of_nonneg hv0
    have m1 : ∀ (y d : Int), 0 ≤ y → y.tmod d = y % d := fun y d hy => Int.tmod_eq_emod_of_nonneg hy
    simp only [d1]
    refine cond_of (fun h => ?_) (fun h => cond_of (fun h2 => ?_) (fun h2 => cond_of (fun h3 => ?_) (fun h3 => ?_)))
    · have h := of_decide_eq_true h
      refine nw_blk fun w1 hb1 hB1 hs1 => hK _ _ ?_ hB1
      have e : encV v = [u8 v] := by rw [encV, if_pos h]
      rw [e]
      refine own_bytes (bs := [u8 v]) (Nat.le_refl _) hb1 ?_ (by simp)
      simp only [List.map_cons, List.map_nil]
      rw [num_byte (x := v) rfl (by omega)]
    · have h := of_decide_eq_false h
      have h2 := of_decide_eq_true h2
      refine ⟨by decide, by decide, nw_blk fun w1 hb1 hB1 hs1 => hK _ _ ?_ hB1⟩
      have e : encV v = [u8 (192 + v / 64), u8 (128 + v % 64)] := by rw [encV, if_neg h, if_pos h2]; simp [contL]
      rw [e]
      refine own_bytes (bs := [u8 (192 + v / 64), u8 (128 + v % 64)]) (Nat.le_refl _) hb1 ?_ (by simp)
      simp only [List.map_cons, List.map_nil]
      rw [num_byte (x := 192 + v / 64) (by rw [wrap64_id (x := v / 64) (by omega), wrap64_id (by omega)]) (by omega),
        num_byte (x := 128 + v % 64) (by rw [m1 v 64 hv0, wrap64_id (by omega)]) (by omega)]
    · have h2 := of_decide_eq_false h2
      have h3 := of_decide_eq_true h3
      have h := of_decide_eq_false h
      refine ⟨by decide, by decide, by decide, by decide, nw_blk fun w1 hb1 hB1 hs1 => hK _ _ ?_ hB1⟩
      have e : encV v = [u8 (224 + v / 4096), u8 (128 + v / 64 % 64), u8 (128 + v % 64)] := by rw [encV, if_neg h, if_neg h2, if_pos h3]; simp [contL]
      rw [e]
      refine own_bytes (bs := [u8 (224 + v / 4096), u8 (128 + v / 64 % 64), u8 (128 + v % 64)]) (Nat.le_refl _) hb1 ?_ (by simp)
      simp only [List.map_cons, List.map_nil]
      rw [num_byte (x := 224 + v / 4096) (by rw [wrap64_id (x := v / 4096) (by omega), wrap64_id (by omega)]) (by omega),
        num_byte (x := 128 + v / 64 % 64) (by rw [wrap64_id (x := v / 64) (by omega), m1 (v / 64) 64 (by omega), wrap64_id (by omega)]) (by omega),
        num_byte (x := 128 + v % 64) (by rw [m1 v 64 hv0, wrap64_id (by omega)]) (by omega)]
    · have h2 := of_decide_eq_false h2
      have h3 := of_decide_eq_false h3
      have h := of_decide_eq_false h
      refine ⟨by decide, by decide, by decide, by decide, by decide, by decide, nw_blk fun w1 hb1 hB1 hs1 => hK _ _ ?_ hB1⟩
      have e : encV v = [u8 (240 + v / 262144), u8 (128 + v / 4096 % 64), u8 (128 + v / 64 % 64), u8 (128 + v % 64)] := by rw [encV, if_neg h, if_neg h2, if_neg h3]; simp [contL]
      rw [e]
      refine own_bytes (bs := [u8 (240 + v / 262144), u8 (128 + v / 4096 % 64), u8 (128 + v / 64 % 64), u8 (128 + v % 64)]) (Nat.le_refl _) hb1 ?_ (by simp)
      simp only [List.map_cons, List.map_nil]
      rw [num_byte (x := 240 + v / 262144) (by rw [wrap64_id (x := v / 262144) (by omega), wrap64_id (by omega)]) (by omega),
        num_byte (x := 128 + v / 4096 % 64) (by rw [wrap64_id (x := v / 4096) (by omega), m1 (v / 4096) 64 (by omega), wrap64_id (by omega)]) (by omega),
        num_byte (x := 128 + v / 64 % 64) (by rw [wrap64_id (x := v / 64) (by omega), m1 (v / 64) 64 (by omega), wrap64_id (by omega)]) (by omega),
        num_byte (x := 128 + v % 64) (by rw [m1 v 64 hv0, wrap64_id (by omega)]) (by omega)])
  refine rnone_spec ?_
  refine cond_of (fun hn => ?_) (fun hn => ?_)
  · have hn : validR r = false := by simpa using hn
    have : fixR r = 65533 := by rw [fixR, if_neg (by rw [hn]; decide)]
    rw [this] at main
    exact main
  · have hn : validR r = true := by simpa using hn
    have : fixR r = r := by rw [fixR, if_pos hn]
    rw [this] at main
    exact main

/-! ### Builders -/
/-- Block g is a builder that holds these bytes; its row lies from 'base' on. -/
def Bld (w : World) (g base : Nat) (bs : List UInt8) : Prop :=
  ∃ (p : Option Addr) (s : Slc), Blk w g 97 [.pointer p, .slice s.a s.n s.c] ∧ (p = none ∨ p = some ⟨g, 0, none⟩) ∧ Own byteE w base s bs ∧ base ≤ g

/-- A builder's own blocks, and rows of bytes, from 'base' on. -/
def bldS (w : World) (g base : Nat) (k : Nat) : Prop := base ≤ k ∧ (k = g ∨ ∃ cs, Blk w k 5 cs)

theorem shape_blk {w : World} {g : Nat} {t : TypeId} {vs : List Value} (h : Blk w g t vs) : w.shape? g = some (t, vs.length) := by
  unfold Blk at h
  simp [World.shape?, h]

theorem copyCheck_spec {g : Nat} {p : Option Addr} {s : Slc} {w : World} {K : World → Prop} (hb : Blk w g 97 [.pointer p, .slice s.a s.n s.c]) (hp : p = none ∨ p = some ⟨g, 0, none⟩)
    (hK : ∀ w', Blk w' g 97 [.pointer (some ⟨g, 0, none⟩), .slice s.a s.n s.c] → Chg (fun k => k = g) w w' → w'.heap.size = w.heap.size → K w') : c_strings_Builder_copyCheck (some ⟨g, 0, none⟩) w K := by
  refine call_strings_Builder_copyCheck _ ?_
  unfold sh_strings_Builder_copyCheck
  refine ldP_of (x := p) (hb.cells 0 _ rfl) ?_
  have hsh := shape_blk hb
  rcases hp with rfl | rfl
  · dsimp only [Option.isNone_none, cond_true]
    refine ⟨some ⟨g, 0, none⟩, w, ?_, ?_⟩
    · exact Lib.run_to_unsafe w ⟨g, 0, none⟩ (t := 97) (j := (Tryd.prog.info? 97).getD default) (by kernel_rfl) (by kernel_rfl) (by kernel_rfl) (by rw [show ((Tryd.prog.info? 97).getD default).size = 2 by kernel_rfl]; decide) hsh (by simp)
    refine ⟨some ⟨g, 0, none⟩, w, ?_, ?_⟩
    · rw [run_callFunc_extern Tryd.func103 (by kernel_rfl) (by kernel_rfl) (by kernel_rfl) (e := Extern.AbiNoEscape.same) (by kernel_rfl)]
      show ((Extern.AbiNoEscape.same #[_]).run Tryd.prog w).andThen _ = _
      rw [Lib.run_noEscape]
      rfl
    refine ⟨some ⟨g, 0, none⟩, w, ?_, ?_⟩
    · exact Lib.run_from_unsafe w ⟨g, 0, none⟩ (u := 97) (j := (Tryd.prog.info? 97).getD default) (by kernel_rfl) (by kernel_rfl) (by kernel_rfl) hsh (by kernel_rfl)
    show stK ((⟨g, 0, none⟩ : Addr).add 0) _ w _
    rw [add_zero]
    exact stK_blk hb (by simp) fun w' hb' hg' hs' => hK w' hb' (Chg.of_grown hg' fun k hk => by cases hk; rfl) hs'
  · dsimp only [Option.isNone_some, cond_false]
    refine ldP_of (x := some ⟨g, 0, none⟩) (hb.cells 0 _ rfl) ?_
    refine ⟨fun a b ha hb => by cases ha; cases hb; rfl, ?_⟩
    rw [decide_eq_true rfl]
    exact hK w hb (Chg.refl _ _) rfl

theorem own_ne_bld {w : World} {g base : Nat} {s : Slc} {bs : List UInt8} {vs : List Value} (ho : Own byteE w base s bs) (hb : Blk w g 97 vs) : ∀ k, s.blk = some k → k ≠ g := by
  intro k hk
  obtain ⟨cs, hcs⟩ := ho.blk_t hk
  exact hcs.ne_t hb (by decide)

/-- Behind the append of bytes to a builder's row. -/
theorem bld_end {w w1 w2 : World} {g base : Nat} {s r : Slc} {bs cs : List UInt8} {K : World → Prop} (hb : Blk w1 g 97 [.pointer (some ⟨g, 0, none⟩), .slice s.a s.n s.c]) (ho : Own byteE w1 base s bs) (hg : base ≤ g)
    (hch : Chg (bldS w g base) w w1) (ho2 : Own byteE w2 base r (bs ++ cs)) (hg2 : w1.grownBy w2 s.blk) (hsb : ∀ k, s.blk = some k → k < w.heap.size → bldS w g base k)
    (hK : ∀ w', Bld w' g base (bs ++ cs) → Chg (bldS w g base) w w' → K w') : stK ((⟨g, 0, none⟩ : Addr).add 1) [.slice r.a r.n r.c] w2 K := by
  have hb2 : Blk w2 g 97 [.pointer (some ⟨g, 0, none⟩), .slice s.a s.n s.c] := hb.grown hg2 fun e => own_ne_bld ho hb g e.symm rfl
  refine stK_blk hb2 (by simp) fun w3 hb3 hg3 hs3 => hK w3 ⟨some ⟨g, 0, none⟩, r, hb3, .inr rfl, ?_, hg⟩ ?_
  · exact ho2.kept hg3 (by
      cases hr : r.blk with
      | none => exact .inl rfl
      | some k => exact .inr fun e => own_ne_bld ho2 hb2 k hr (Option.some.inj e))
  · refine (hch.trans (S' := fun k => s.blk = some k) (Chg.of_grown hg2 fun k hk => hk) fun i hi hs => hsb i hs hi).trans (S' := fun k => k = g) (Chg.of_grown hg3 fun k hk => by cases hk; rfl) fun i hi e => ?_
    exact ⟨by omega, .inl e⟩

theorem WriteByte_spec {g base : Nat} {bs : List UInt8} {c : Int} {w : World} {K : Value → World → Prop} (h : Bld w g base bs) (hl : bs.length ≤ 1000000) (hc : 0 ≤ c ∧ c < 256)
    (hK : ∀ w', Bld w' g base (bs ++ [u8 c]) → Chg (bldS w g base) w w' → K .nilIface w') : c_strings_Builder_WriteByte (some ⟨g, 0, none⟩) c w K := by
  obtain ⟨p, s, hb, hp, ho, hg⟩ := h
  refine call_strings_Builder_WriteByte _ _ ?_
  unfold sh_strings_Builder_WriteByte
  refine copyCheck_spec hb hp fun w1 hb1 hc1 hs1 => ?_
  rw [onPtr_some]
  refine ldSl_of (x := s) (hb1.cells 1 _ rfl) ?_
  have ho1 : Own byteE w1 base s bs := ho.chg hc1 (own_ne_bld ho hb)
  refine nw_blk fun w2 hb2 hB2 hs2 => ?_
  have hx : Rd byteE w2 ⟨some ⟨w1.heap.size, 0, none⟩, 1, 1⟩ [u8 c] := by
    refine rd_one (E := byteE) hb2 ?_
    show [Value.int .u8 ((u8 c).toNat : Int)] = _
    rw [u8_toNat hc.1 hc.2]
  refine apK_own slT34 (ho1.ext hB2) hx (by have := hb.lt; omega) (by rw [by34]; simp only [List.length_cons, List.length_nil]; omega) (by simp only [maxLen, List.length_cons, List.length_nil]; omega) fun r w3 ho3 hg3 hr3 => ?_
  rw [onPtr_some]
  refine bld_end (w := w) (w1 := w2) (hb1.ext hB2) (ho1.ext hB2) hg ?_ ho3 hg3 (fun k hk hkl => ?_) fun w4 h4 hc4 => hK w4 h4 hc4
  · exact (hc1.mono (S' := bldS w g base) fun i hi e => ⟨by omega, .inl e⟩).trans (Chg.of_ext (S := fun _ => False) hB2) fun i hi e => e.elim
  · exact ⟨(ho.lt k hk).1, .inr (ho.blk_t hk)⟩

theorem Write_spec {g base : Nat} {bs cs : List UInt8} {p : Slc} {w : World} {K : Int → Value → World → Prop} (h : Bld w g base bs) (hp : Rd byteE w p cs) (hpb : ∀ a, p.a = some a → ¬ a.block = g) (hl : bs.length ≤ 1000000) (hl' : cs.length ≤ 1000000)
    (hK : ∀ n w', Bld w' g base (bs ++ cs) → Chg (bldS w g base) w w' → K n .nilIface w') : c_strings_Builder_Write (some ⟨g, 0, none⟩) p w K := by
  obtain ⟨q, s, hb, hq, ho, hg⟩ := h
  refine call_strings_Builder_Write _ _ ?_
  unfold sh_strings_Builder_Write
  refine copyCheck_spec hb hq fun w1 hb1 hc1 hs1 => ?_
  rw [onPtr_some]
  refine ldSl_of (x := s) (hb1.cells 1 _ rfl) ?_
  have ho1 : Own byteE w1 base s bs := ho.chg hc1 (own_ne_bld ho hb)
  refine apK_own slT34 ho1 (hp.chg hc1 hpb) (by have := hb.lt; omega) (by rw [by34]; omega) (by simp only [maxLen]; omega) fun r w3 ho3 hg3 hr3 => ?_
  rw [onPtr_some]
  refine bld_end (w := w) (w1 := w1) hb1 ho1 hg ?_ ho3 hg3 (fun k hk hkl => ?_) fun w4 h4 hc4 => hK _ w4 h4 hc4
  · exact hc1.mono (S' := bldS w g base) fun i hi e => ⟨by omega, .inl e⟩
  · exact ⟨(ho.lt k hk).1, .inr (ho.blk_t hk)⟩

theorem String_spec {g base : Nat} {bs : List UInt8} {w : World} {K : ByteArray → World → Prop} (h : Bld w g base bs) (hl : bs.length ≤ 1000000)
    (hK : ∀ w', Chg (bldS w g base) w w' → K (strOf bs) w') : c_strings_Builder_String (some ⟨g, 0, none⟩) w K := by
  obtain ⟨p, s, hb, hp, ho, hg⟩ := h
  refine call_strings_Builder_String _ ?_
  unfold sh_strings_Builder_String
  rw [onPtr_some]
  refine ldSl_of (x := s) (hb.drew.cells 1 _ rfl) ?_
  rw [onPtr_some]
  refine ldSl_of (x := s) (hb.drew.cells 1 _ rfl) ?_
  rcases ho.form with ⟨rfl, rfl⟩ | ⟨g', cur, hs, hb', hblk, h1, h2, h3, h4⟩
  · refine ⟨none, w.drew, Lib.run_unsafeSliceData_nil w.drew _ _ _ _, hb.drew.cells 1 _ rfl, strOf [], w.drew, ?_, hK _ ⟨rfl, rfl, rfl, Nat.le_refl _, fun _ _ _ => rfl⟩⟩
    exact Lib.run_unsafeString_none w.drew 135 3 9 none
  · have hsn : s.n = bs.length := by rw [hs]
    have hsa : s.a = some ⟨g', 0, none⟩ := by rw [hs]
    by_cases h0 : bs = []
    · subst h0
      -- a row without a byte
      by_cases hc : s.c = 0
      · have hcur : cur = [] := List.eq_nil_of_length_eq_zero (by rw [h3, hc]; simp)
        have hz := Lib.run_unsafeSliceData_zero (P := Tryd.prog) w.drew #[34] 135 5 (by kernel_rfl) ⟨g', 0, none⟩ s.n _ (shape_blk hblk.drew)
        rw [hsa, hc] at hb ⊢
        refine ⟨_, _, hz, (hb.drew.alloc _).cells 1 _ rfl, strOf [], w.drew.alloc (.view ⟨g', 0, none⟩ 5), ?_, hK _ ?_⟩
        · rw [hsn]
          exact Lib.run_unsafeString_none _ 135 3 9 _
        · exact Chg.of_ext ((Below.refl _ w).drew.alloc (Nat.le_refl _) _)
      · refine ⟨some ⟨g', 0, none⟩, w.drew, ?_, hb.drew.cells 1 _ rfl, strOf [], w.drew, ?_, hK _ ⟨rfl, rfl, rfl, Nat.le_refl _, fun _ _ _ => rfl⟩⟩
        · rw [hsa]; exact Lib.run_unsafeSliceData_row w.drew _ _ _ _ _ hc
        · rw [hsn]; exact Lib.run_unsafeString_none w.drew 135 3 9 _
    · have hlen : 0 < bs.length := List.length_pos_iff.2 h0
      have hc : s.c ≠ 0 := by omega
      refine ⟨some ⟨g', 0, none⟩, w.drew, ?_, hb.drew.cells 1 _ rfl, strOf bs, w.drew.freeze ⟨g', 0, none⟩ bs.length, ?_, hK _ ?_⟩
      · rw [hsa]; exact Lib.run_unsafeSliceData_row w.drew _ _ _ _ _ hc
      · rw [hsn]
        refine Lib.run_unsafeString_row w.drew 135 3 9 5 (by kernel_rfl) (by kernel_rfl) g' cur.length (shape_blk hblk.drew) bs h0 (by rw [h3]; simp [byteE]; omega) (by omega) fun j x hj => ?_
        have hr := ho.drew.rd.at_ j x hj
        have := hr 0 (.int .u8 x.toNat) rfl
        simp only [Slc.at_, hsa, Option.getD_some, add_zero] at this
        rwa [show j * byteE.k = j from Nat.mul_one j] at this
      · unfold World.freeze
        rw [if_neg (by omega)]
        refine ⟨rfl, rfl, rfl, by simp, fun k hk hn => ?_⟩
        have hne : g' ≠ k := by
          rintro rfl
          exact hn ⟨hb', .inr ⟨_, hblk⟩⟩
        show (w.heap.modify g' _)[k]? = w.heap[k]?
        rw [Array.getElem?_modify, if_neg hne]

end Go.Proofs.YtgejghejnibocaaDoor
