/- TrimRight; the text of a line, by the program and by the reference. -/
import Derived.Test.YtgejghejnibocaaDoorT2
import Derived.Test.YtgejghejnibocaaDoorMem2
import Derived.Laws.BytesArg
namespace Go.Proofs.YtgejghejnibocaaDoor
open Go.Vc Go.RowKit

/-! ### What is blank at the end -/
def trimR (l : List UInt8) : List UInt8 := (l.reverse.dropWhile (· == 32)).reverse
theorem trimR_blank (l : List UInt8) : trimR (l ++ [32]) = trimR l := by simp [trimR]
theorem trimR_keep (l : List UInt8) (b : UInt8) (h : b ≠ 32) : trimR (l ++ [b]) = l ++ [b] := by
  have : (b == 32) = false := by simpa using h
  simp [trimR, this]
theorem trimR_nil : trimR [] = [] := rfl
theorem list_last {α : Type} (P : List α → Prop) (h0 : P []) (h1 : ∀ l a, P l → P (l ++ [a])) (l : List α) : P l := by
  have : ∀ r : List α, P r.reverse := by
    intro r
    induction r with
    | nil => exact h0
    | cons a r ih => rw [List.reverse_cons]; exact h1 _ _ ih
  have h := this l.reverse
  rwa [List.reverse_reverse] at h
theorem trimR_pre (l : List UInt8) : (trimR l).length ≤ l.length ∧ trimR l = l.take (trimR l).length := by
  induction l using list_last with
  | h0 => exact ⟨Nat.le_refl _, rfl⟩
  | h1 l b ih =>
    by_cases h : b = 32
    · subst h
      rw [trimR_blank]
      refine ⟨by rw [List.length_append]; omega, ?_⟩
      rw [List.take_append_of_le_length ih.1]
      exact ih.2
    · rw [trimR_keep l b h]; exact ⟨Nat.le_refl _, (List.take_length ..).symm⟩
theorem trimR_take (l : List UInt8) : trimR l = l.take (trimR l).length := (trimR_pre l).2
theorem trimR_le (l : List UInt8) : (trimR l).length ≤ l.length := (trimR_pre l).1

theorem trimByte_spec {l : List UInt8} {w : World} {K : ByteArray → World → Prop} (hl : l.length ≤ 4611686018427387904) (hK : K (strOf (trimR l)) w) : c_strings_trimRightByte (strOf l) 32 w K := by
  refine call_strings_trimRightByte _ _ ?_
  unfold sh_strings_trimRightByte
  refine loopP_rule (fun (s : ByteArray × Unit) w2 => ∃ m : List UInt8, s.1 = strOf m ∧ trimR m = trimR l ∧ m.length ≤ l.length ∧ w2 = w) (fun s => s.1.size) ⟨l, rfl, rfl, Nat.le_refl _, rfl⟩ ?_
  rintro ⟨s, _⟩ w2 ⟨m, rfl, hm, hml, rfl⟩ I hI
  dsimp only at *
  refine joinP_of fun J hJ => ?_
  rw [strOf_size]
  refine cond_of (fun h => ?_) (fun h => ?_)
  · have h := of_decide_eq_true h
    obtain ⟨r, b, rfl⟩ : ∃ r b, m = r ++ [b] := ⟨m.dropLast, m.getLast (by intro e; subst e; simp at h), (List.dropLast_concat_getLast _).symm⟩
    rw [List.length_append] at *
    simp only [List.length_cons, List.length_nil] at *
    rw [wrap64_id (by omega)]
    have hi : (((r.length + (0 + 1) : Nat) : Int) - 1).toNat = r.length := by omega
    refine ⟨⟨by omega, by rw [strOf_size, List.length_append]; simp; omega⟩, ?_⟩
    rw [hi]
    have hb : ((strOf (r ++ [b])).data.getD r.length 0) = b := by simp [strOf]
    rw [hb]
    refine cond_of (fun e => ?_) (fun e => ?_)
    · have e : b = 32 := by
        have e := eq_of_beq e
        have e : b.toNat = 32 := Int.ofNat_inj.1 e
        exact UInt8.toNat_inj.1 e
      subst e
      refine hJ _ _ ?_
      rw [strOf_size, List.length_append]
      simp only [List.length_cons, List.length_nil]
      rw [wrap64_id (by omega)]
      refine ⟨⟨by omega, by rw [strOf_size, List.length_append]; simp; omega⟩, ?_⟩
      rw [hi]
      show I ((strOf (r ++ [32])).extract 0 r.length, ()) w2
      rw [strOf_extract, List.take_left]
      refine hI _ _ ⟨r, rfl, by rw [← hm, trimR_blank], by omega, rfl⟩ (by simp [strOf_size])
    · have e : b ≠ 32 := by
        have e := beq_eq_false_iff_ne.1 e
        rintro rfl
        exact e rfl
      rw [← hm, trimR_keep r b e] at hK
      exact hK
  · have h := of_decide_eq_false h
    have : m = [] := List.eq_nil_of_length_eq_zero (by omega)
    subst this
    rw [← hm] at hK
    exact hK

theorem TrimRight_spec {l : List UInt8} {w : World} {K : ByteArray → World → Prop} (hl : l.length ≤ 4611686018427387904) (hK : K (strOf (trimR l)) w) : c_strings_TrimRight (strOf l) (⟨#[32]⟩ : ByteArray) w K := by
  refine call_strings_TrimRight _ _ ?_
  unfold sh_strings_TrimRight
  refine joinP_of fun J hJ => ?_
  refine cond_of (fun h => ?_) (fun h => ?_)
  · have h := eq_of_beq h
    rw [strOf_toList] at h
    have : l = [] := by rw [h]; exact strOf_toList []
    subst this
    exact hK
  · refine cond_f (by rw [show ((⟨#[32]⟩ : ByteArray)).toList = [32] from strOf_toList [32], show ((⟨#[]⟩ : ByteArray)).toList = [] from strOf_toList []]; rfl) ?_
    refine hJ _ _ ?_
    refine joinP_of fun J2 hJ2 => joinP_of fun J3 hJ3 => ?_
    refine cond_t rfl ?_
    have hz : (0 : Int) < (strOf [32]).size := by rw [strOf_size]; decide
    refine ⟨⟨Int.le_refl _, hz⟩, ?_⟩
    refine hJ3 _ _ ?_
    refine cond_t ?_ ⟨⟨Int.le_refl _, hz⟩, ?_⟩
    · kernel_rfl
    · exact trimByte_spec hl hK

/-! ### The text of a line -/
def cellB (c : Cell) : List UInt8 := if c.Kind = 2 then [] else if c.R = 0 then [32] else encR c.R
def textB (xs : List Cell) : List UInt8 := (mendL xs).flatMap cellB
def textS (xs : List Cell) : ByteArray := strOf (trimR (textB xs))

theorem encR_length (r : Int) : (encR r).length ≤ 4 := encV_length _
theorem cellB_length (c : Cell) : (cellB c).length ≤ 4 := by
  unfold cellB
  split
  · simp
  · split
    · simp
    · exact encR_length _
theorem flatB_length : ∀ ys : List Cell, (ys.flatMap cellB).length ≤ 4 * ys.length
  | [] => by simp
  | c :: r => by
    have h1 := cellB_length c
    have h2 := flatB_length r
    rw [List.flatMap_cons, List.length_append, List.length_cons]
    omega

theorem Text_spec {l : Slc} {xs : List Cell} {w : World} {K : ByteArray → World → Prop} (h : Rd cellE w l xs) (hl : xs.length ≤ 10000)
    (hK : ∀ w', Below w.heap.size w w' → K (textS xs) w') : c_line_Line_Text l w K := by
  refine call_line_Line_Text _ ?_
  unfold sh_line_Line_Text
  refine nw_blk fun w1 hb1 hB1 hs1 => ?_
  refine Mend_spec (h.ext hB1) (by omega) fun m w2 ho2 hB2 => ?_
  have hml := mendL_length xs
  have hmn : m.n = xs.length := by have := ho2.rd.n; rwa [hml] at this
  have hbld : Bld w2 w.heap.size w.heap.size [] := ⟨none, ⟨none, 0, 0⟩, hb1.ext hB2, .inl rfl, Own.nil _ _ _, Nat.le_refl _⟩
  have hB02 : Below w.heap.size w w2 := hB1.trans (hB2.mono (by omega))
  have ho2 : Own cellE w2 w.heap.size m (mendL xs) := ho2.base (by omega)
  refine loopP_rule (fun (s : Int × Unit) w3 => ∃ k : Nat, s.1 = k ∧ k ≤ xs.length ∧ Own cellE w3 w.heap.size m (mendL xs) ∧ Bld w3 w.heap.size w.heap.size (((mendL xs).take k).flatMap cellB) ∧ Below w.heap.size w w3)
    (fun s => xs.length - s.1.toNat) ⟨0, rfl, by omega, ho2, by simpa using hbld, hB02⟩ ?_
  rintro ⟨i, _⟩ w3 ⟨k, rfl, hk, ho, hbl, hB⟩ I hI
  dsimp only at *
  have hblen : (((mendL xs).take k).flatMap cellB).length ≤ 4 * k := by
    have := flatB_length ((mendL xs).take k)
    rw [List.length_take] at this
    omega
  -- a builder's change leaves rows of cells alone, and what was there ahead
  have keepO : ∀ {a b : World}, Own cellE a w.heap.size m (mendL xs) → (∃ vs, Blk a w.heap.size 97 vs) → Chg (bldS a w.heap.size w.heap.size) a b → Own cellE b w.heap.size m (mendL xs) := by
    rintro a b ho ⟨vs, hv⟩ hc
    refine ho.chg hc fun g hg => ?_
    rintro ⟨_, e | ⟨cs, hcs⟩⟩
    · obtain ⟨cs, hcs⟩ := ho.blk_t hg
      exact hcs.ne_t hv (by decide) e
    · obtain ⟨cs', hcs'⟩ := ho.blk_t hg
      exact hcs'.ne_t hcs (by decide) rfl
  have keepB : ∀ {a b : World}, Below w.heap.size w a → Chg (bldS a w.heap.size w.heap.size) a b → Below w.heap.size w b := fun hB hc =>
    hB.trans (hc.below hB.size fun i hi hs => by have := hs.1; omega)
  refine cond_of (fun hlt => ?_) (fun hge => ?_)
  · have hlt := of_decide_eq_true hlt
    rw [hmn] at hlt
    have hkl : k < (mendL xs).length := by omega
    obtain ⟨x, hx, hxs⟩ := get_of hkl
    have htake : ((mendL xs).take (k + 1)).flatMap cellB = ((mendL xs).take k).flatMap cellB ++ cellB x := by
      rw [List.take_add_one, hx]; simp
    have hwr : IntKind.i64.wrap ((k : Int) + 1) = (k : Int) + 1 := wrap64_id (by omega)
    refine ho.rd.ix rfl (by omega) (by omega) fun hc => ?_
    rw [hxs] at hc
    refine ldS_of (x := x) hc ?_
    refine box_of rfl fun w5 hb5 hB5 hs5 => ?_
    have hB05 : Below w.heap.size w w5 := hB.trans (hB5.mono hB.size)
    have ho5 := ho.ext hB5
    have hbl5 : Bld w5 w.heap.size w.heap.size (((mendL xs).take k).flatMap cellB) := by
      obtain ⟨p, s, h1, h2, h3, h4⟩ := hbl
      exact ⟨p, s, h1.ext hB5, h2, h3.ext hB5, h4⟩
    have hv5 : ∃ vs, Blk w5 w.heap.size 97 vs := by obtain ⟨p, s, h1, _⟩ := hbl5; exact ⟨_, h1⟩
    have fin : ∀ {w6 : World}, Bld w6 w.heap.size w.heap.size (((mendL xs).take k).flatMap cellB ++ cellB x) → Own cellE w6 w.heap.size m (mendL xs) → Below w.heap.size w w6 → I (IntKind.i64.wrap ((k : Int) + 1), ()) w6 := fun hb6 ho6 hB6 => by
      rw [hwr]
      exact hI _ _ ⟨k + 1, by simp, by omega, ho6, by rw [htake]; exact hb6, hB6⟩ (by simp; omega)
    refine ldI_of (hb5.cells 1 _ rfl) ?_
    refine cond_of (fun h2 => ?_) (fun h2 => ?_)
    · have h2 := eq_of_beq h2
      have e : cellB x = [] := by rw [cellB, if_pos h2]
      exact fin (by rw [e, List.append_nil]; exact hbl5) ho5 hB05
    · have h2 := beq_eq_false_iff_ne.1 h2
      refine ldI_of (hb5.cells 0 _ rfl) ?_
      refine cond_of (fun h0 => ?_) (fun h0 => ?_)
      · have h0 := eq_of_beq h0
        have e : cellB x = [32] := by rw [cellB, if_neg h2, if_pos h0]
        refine WriteByte_spec hbl5 (by omega) (by decide) fun w6 hb6 hc6 => ?_
        exact fin (by rw [e]; exact hb6) (keepO ho5 hv5 hc6) (keepB hB05 hc6)
      · have h0 := beq_eq_false_iff_ne.1 h0
        have e : cellB x = encR x.R := by rw [cellB, if_neg h2, if_neg h0]
        refine ldI_of (hb5.cells 0 _ rfl) ?_
        refine nw_blk fun w7 hb7 hB7 hs7 => ?_
        have hr7 : Rd runeE w7 ⟨some ⟨w5.heap.size, 0, none⟩, 1, 1⟩ [x.R] := rd_one (E := runeE) hb7 rfl
        refine Encode_spec hr7 (by simp) fun r w8 ho8 hB8 => ?_
        have hB58 : Below w5.heap.size w5 w8 := hB7.trans (hB8.mono (by omega))
        have hbl8 : Bld w8 w.heap.size w.heap.size (((mendL xs).take k).flatMap cellB) := by
          obtain ⟨p, s, h1, h2, h3, h4⟩ := hbl5
          exact ⟨p, s, h1.ext hB58, h2, h3.ext hB58, h4⟩
        have hv8 : ∃ vs, Blk w8 w.heap.size 97 vs := by obtain ⟨p, s, h1, _⟩ := hbl8; exact ⟨_, h1⟩
        have hrd : Rd byteE w8 r (encR x.R) := by have := ho8.rd; simpa using this
        have hne : ∀ a, r.a = some a → ¬ a.block = w.heap.size := by
          intro a ha e
          have := (ho8.lt a.block (by simp [Slc.blk, ha])).1
          have h1 := hB05.size
          obtain ⟨vs, hv⟩ := hv5
          have := hv.lt
          omega
        have := encR_length x.R
        refine Write_spec hbl8 hrd hne (by omega) (by omega) fun n w9 hb9 hc9 => ?_
        exact fin (by rw [e]; exact hb9) (keepO (ho5.ext hB58) hv8 hc9) (keepB (hB05.trans (hB58.mono hB05.size)) hc9)
  · have hge := of_decide_eq_false hge
    rw [hmn] at hge
    have : k = xs.length := by omega
    subst this
    rw [← hml, List.take_length] at hbl hblen
    refine String_spec hbl (by omega) fun w4 hc4 => ?_
    refine TrimRight_spec (by omega) ?_
    exact hK w4 (keepB hB hc4)

/-! ### The reference's text -/
theorem encV_last {v : Int} (h0 : 0 ≤ v) (h1 : v ≤ 1114111) (h : v ≠ 32) : ∃ r b, encV v = r ++ [b] ∧ b ≠ 32 := by
  have big : ∀ x : Int, 0 ≤ x → x < 64 → u8 (128 + x) ≠ 32 := fun x hx0 hx1 e => by
    have := u8_toNat (x := 128 + x) (by omega) (by omega)
    rw [e] at this
    have h32 : ((32 : UInt8).toNat : Int) = 32 := rfl
    omega
  unfold encV
  split
  · refine ⟨[], _, rfl, fun e => ?_⟩
    have := u8_toNat h0 (show v < 256 by omega)
    rw [e] at this
    have h32 : ((32 : UInt8).toNat : Int) = 32 := rfl
    omega
  · split
    · exact ⟨[_], _, rfl, big _ (by simp; omega) (by simp; omega)⟩
    · split
      · exact ⟨[_, _], _, rfl, big _ (by simp; omega) (by simp; omega)⟩
      · exact ⟨[_, _, _], _, rfl, big _ (by simp; omega) (by simp; omega)⟩
theorem encR_last {r : Int} (h : r ≠ 32) : ∃ l b, encR r = l ++ [b] ∧ b ≠ 32 := by
  obtain ⟨h0, h1, _⟩ := validR_iff.1 (validR_fix r)
  refine encV_last h0 h1 ?_
  unfold fixR
  split
  · exact h
  · decide
theorem encR_32 : encR 32 = [32] := by decide

theorem run_bytes_str {w : World} {s : Slc} {bs : List UInt8} (h : Rd byteE w s bs) : (convert 34 9 (.slice s.a s.n s.c)).run Tryd.prog w = .ok (.string (strOf bs)) w := by
  cases ha : s.a with
  | none =>
    have := h.none_nil ha
    subst this
    exact run_convert_bytes_nil (P := Tryd.prog) w 34 5 (by kernel_rfl) (by kernel_rfl) _ _ 9 (by kernel_rfl)
  | some a =>
    have hn := h.n
    have hl : (loadCells a bs.length).run Tryd.prog w = .ok ((bs.map fun b => Value.int .u8 b.toNat)).toArray w := by
      have := run_loadCells_list (P := Tryd.prog) w a (bs.map fun b => Value.int .u8 b.toNat) (fun j v hj => by
        rw [List.getElem?_map] at hj
        cases hb : bs[j]? with
        | none => rw [hb] at hj; cases hj
        | some b =>
          rw [hb] at hj
          cases hj
          have := h.at_ j b hb 0 (.int .u8 b.toNat) rfl
          simp only [Slc.at_, ha, Option.getD_some, add_zero] at this
          rwa [show j * byteE.k = j from Nat.mul_one j] at this)
      simpa using this
    have hb := run_bytesToString w a s.n s.c (bs.map fun b => (b.toNat : Int)) (by rw [hn, hl]; simp)
    rw [run_convert_bytes_string w 34 9 5 _ s.n s.c (by kernel_rfl) (by kernel_rfl) (by kernel_rfl), hb, foldl_push_bytes]
    have e : (bs.map fun b => (b.toNat : Int)).map (fun n => UInt8.ofNat n.toNat) = bs := by
      rw [List.map_map]
      conv => rhs; rw [← List.map_id bs]
      refine List.map_congr_left fun b _ => ?_
      simp
    rw [e]
    simp [strOf, ByteArray.empty, ByteArray.emptyWithCapacity]
    rfl

def okR (xs : List Cell) : Prop := ∀ c ∈ xs, -9223372036854775808 ≤ c.R ∧ c.R ≤ 9223372036854775807
theorem okR_mend {xs : List Cell} (h : okR xs) : okR (mendL xs) := by
  intro c hc
  obtain ⟨i, hi⟩ := List.getElem?_of_mem hc
  have hlt : i < xs.length := by have := (List.getElem?_eq_some_iff.1 hi).1; rwa [mendL_length] at this
  obtain ⟨x, hx, _⟩ := get_of hlt
  rw [mendL_get xs i x hx] at hi
  cases hi
  have := h x (List.mem_of_getElem? hx)
  unfold mendC
  split
  · exact this
  · split
    · exact ⟨show (-9223372036854775808 : Int) ≤ 0 by decide, show (0 : Int) ≤ 9223372036854775807 by decide⟩
    · split
      · exact ⟨show (-9223372036854775808 : Int) ≤ 0 by decide, show (0 : Int) ≤ 9223372036854775807 by decide⟩
      · exact this

theorem rText_spec {l : Slc} {xs : List Cell} {w : World} {K : ByteArray → World → Prop} (h : Rd cellE w l xs) (hl : xs.length ≤ 10000) (hr : okR xs)
    (hK : ∀ w', Below w.heap.size w w' → K (textS xs) w') : c_phosphorref13_Text l w K := by
  refine call_phosphorref13_Text _ ?_
  unfold sh_phosphorref13_Text
  refine rMend_spec h (by omega) fun m w2 ho2 hB2 => ?_
  have hml := mendL_length xs
  have hmn : m.n = xs.length := by have := ho2.rd.n; rwa [hml] at this
  refine loopP_rule (fun (s : Slc × Int × Int × Unit) w3 => ∃ k : Nat, s.2.2.1 = k ∧ k ≤ xs.length ∧ Own byteE w3 w.heap.size s.1 (((mendL xs).take k).flatMap cellB) ∧ s.2.1 = ((trimR (((mendL xs).take k).flatMap cellB)).length : Nat) ∧ Own cellE w3 w.heap.size m (mendL xs) ∧ Below w.heap.size w w3)
    (fun s => xs.length - s.2.2.1.toNat) ⟨0, rfl, by omega, Own.nil _ _ _, rfl, ho2, hB2⟩ ?_
  rintro ⟨b, e, i, _⟩ w3 ⟨k, rfl, hk, hob, rfl, hom, hB⟩ I hI
  dsimp only at *
  have hblen : (((mendL xs).take k).flatMap cellB).length ≤ 4 * k := by
    have := flatB_length ((mendL xs).take k)
    rw [List.length_take] at this
    omega
  refine cond_of (fun hlt => ?_) (fun hge => ?_)
  · have hlt := of_decide_eq_true hlt
    rw [hmn] at hlt
    have hkl : k < (mendL xs).length := by omega
    obtain ⟨x, hx, hxs⟩ := get_of hkl
    have htake : ((mendL xs).take (k + 1)).flatMap cellB = ((mendL xs).take k).flatMap cellB ++ cellB x := by
      rw [List.take_add_one, hx]; simp
    rw [wrap64_id (x := (k : Int) + 1) (by omega)]
    have ixm : ∀ {w5 : World} {K : Addr → Prop}, Own cellE w5 w.heap.size m (mendL xs) → (cellsAt w5 (m.at_ 5 k) (cellE.cells x) → K (m.at_ 5 k)) → ixK m (k : Int) 5 K := by
      intro w5 K ho h1
      refine ho.rd.ix rfl (by omega) (by omega) fun hc => ?_
      rw [hxs] at hc
      exact h1 hc
    refine ixm hom fun hc => ?_
    refine ldI_of (hc 1 _ rfl) ?_
    refine cond_of (fun h2 => ?_) (fun h2 => ?_)
    · have h2 := eq_of_beq h2
      have e : cellB x = [] := by rw [cellB, if_pos h2]
      refine hI _ _ ⟨k + 1, by simp, by omega, ?_, ?_, hom, hB⟩ (by simp; omega)
      · rw [htake, e, List.append_nil]; exact hob
      · rw [htake, e, List.append_nil]
    · have h2 := beq_eq_false_iff_ne.1 h2
      refine joinP_of fun J hJ => ?_
      have fin : ∀ {w5 : World} {r : Slc}, Own byteE w5 w.heap.size r (((mendL xs).take k).flatMap cellB ++ cellB x) → Own cellE w5 w.heap.size m (mendL xs) → Below w.heap.size w w5 → J (r, ()) w5 := by
        intro w5 r hor hom5 hB5
        refine hJ _ _ ?_
        dsimp only
        refine joinP_of fun J3 hJ3 => ?_
        have hrn : r.n = (((mendL xs).take k).flatMap cellB ++ cellB x).length := hor.rd.n
        have blank : x.R = 0 ∨ x.R = 32 → J3 (false, ()) w5 := fun hb => by
          refine hJ3 _ _ (cond_f rfl ?_)
          have e : cellB x = [32] := by
            rw [cellB, if_neg h2]
            rcases hb with hb | hb
            · rw [if_pos hb]
            · rw [hb]; exact encR_32
          refine hI _ _ ⟨k + 1, by simp, by omega, by rw [htake]; exact hor, ?_, hom5, hB5⟩ (by simp; omega)
          dsimp only
          rw [htake, e, trimR_blank]
        refine ixm hom5 fun hc => ?_
        refine ldI_of (hc 0 _ rfl) ?_
        refine cond_of (fun h0 => ?_) (fun h0 => ?_)
        · have h0 : x.R ≠ 0 := by simpa using h0
          refine ixm hom5 fun hc => ?_
          refine ldI_of (hc 0 _ rfl) ?_
          by_cases h32 : x.R = 32
          · rw [show (x.R != 32) = false by simpa using h32]
            exact blank (.inr h32)
          · rw [show (x.R != 32) = true by simpa using h32]
            refine hJ3 _ _ (cond_t rfl ?_)
            obtain ⟨q, b', hq, hb'⟩ := encR_last h32
            have e : cellB x = q ++ [b'] := by rw [cellB, if_neg h2, if_neg h0, hq]
            refine hI _ _ ⟨k + 1, by simp, by omega, by rw [htake]; exact hor, ?_, hom5, hB5⟩ (by simp; omega)
            dsimp only
            rw [htake, hrn, e, ← List.append_assoc, trimR_keep _ _ hb']
        · have h0 : x.R = 0 := by simpa using h0
          exact blank (.inl h0)
      refine ixm hom fun hc => ?_
      refine ldI_of (hc 0 _ rfl) ?_
      refine cond_of (fun h0 => ?_) (fun h0 => ?_)
      · have h0 := eq_of_beq h0
        have e : cellB x = [32] := by rw [cellB, if_neg h2, if_pos h0]
        refine nw_blk fun w4 hb4 hB4 hs4 => ?_
        have hr4 : Rd byteE w4 ⟨some ⟨w3.heap.size, 0, none⟩, 1, 1⟩ [32] := rd_one (E := byteE) hb4 rfl
        refine apK_own slT34 (hob.ext hB4) hr4 (by have := hB.size; omega) (by rw [by34]; simp only [List.length_cons, List.length_nil]; omega) (by simp only [maxLen, List.length_cons, List.length_nil]; omega) fun r w5 ho5 hg5 hr5 => ?_
        have hb04 : Below w.heap.size w w4 := hB.trans (hB4.mono hB.size)
        refine fin (by rw [e]; exact ho5) ?_ (hb04.grown hg5 hb04.size fun g hg => (hob.lt g hg).1)
        exact (hom.ext hB4).kept hg5 (own_ne_own (hom.ext hB4) (hob.ext hB4) (by decide))
      · have h0 := beq_eq_false_iff_ne.1 h0
        have e : cellB x = encR x.R := by rw [cellB, if_neg h2, if_neg h0]
        refine ixm hom fun hc => ?_
        refine ldI_of (hc 0 _ rfl) ?_
        rw [wrap64_id (okR_mend hr x (List.mem_of_getElem? hx))]
        refine rEncode_spec fun r1 w4 ho4 hB4 => ?_
        have hel := encR_length x.R
        refine apK_own slT34 (hob.ext hB4) ho4.rd (by have := hB.size; have := hB4.size; omega) (by rw [by34]; omega) (by simp only [maxLen]; omega) fun r w5 ho5 hg5 hr5 => ?_
        have hb04 : Below w.heap.size w w4 := hB.trans (hB4.mono hB.size)
        refine fin (by rw [e]; exact ho5) ?_ (hb04.grown hg5 hb04.size fun g hg => (hob.lt g hg).1)
        exact (hom.ext hB4).kept hg5 (own_ne_own (hom.ext hB4) (hob.ext hB4) (by decide))
  · have hge := of_decide_eq_false hge
    rw [hmn] at hge
    have : k = xs.length := by omega
    subst this
    rw [← hml, List.take_length] at hob hblen ⊢
    have hle := trimR_le ((mendL xs).flatMap cellB)
    refine hob.rd.slK (l := 0) rfl (.inl ⟨rfl, rfl⟩) (.inr rfl) (by omega) hle fun hrd => ?_
    rw [List.drop_zero, ← trimR_take] at hrd
    exact ⟨_, _, run_bytes_str hrd, hK _ hB⟩

end Go.Proofs.YtgejghejnibocaaDoor
