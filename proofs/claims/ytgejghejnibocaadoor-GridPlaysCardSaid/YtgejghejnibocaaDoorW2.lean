/- The laws of lines, walked: LineTexts, LineShifts. -/
import Derived.Test.YtgejghejnibocaaDoorW1
namespace Go.Proofs.YtgejghejnibocaaDoor
open Go.Vc Go.RowKit

/-! ### Lines of plain cells -/
def Plain (xs : List Cell) : Prop := ∀ c ∈ xs, c.Kind = 0
theorem plain_right {xs : List Cell} (h : Plain xs) : rightB xs = true := right_iff.2 fun k x hx => by
  have h0 := h x (List.mem_of_getElem? hx)
  exact ⟨(fits_iff hx).2 (.inl h0), fun e => by rw [h0] at e; cases e⟩
theorem plain_mend {xs : List Cell} (h : Plain xs) : mendL xs = xs := mend_id (plain_right h)
theorem plain_set {xs : List Cell} (h : Plain xs) {i : Nat} {c : Cell} (hc : c.Kind = 0) : Plain (xs.set i c) := fun x hx => by
  rcases List.mem_or_eq_of_mem_set hx with h1 | h1
  · exact h x h1
  · rw [h1]; exact hc
theorem plain_half {xs : List Cell} (h : Plain xs) (p : Int) : halfL xs p = xs := by
  by_cases hp : 0 ≤ p ∧ p < xs.length
  · obtain ⟨x, hx, _⟩ := get_of (xs := xs) (k := p.toNat) (by omega)
    refine halfL_fit ?_
    rw [show p = ((p.toNat : Nat) : Int) by omega]
    exact (fits_iff hx).2 (.inl (h x (List.mem_of_getElem? hx)))
  · exact halfL_no (by omega)
theorem plain_blanks (n : Nat) (a : Attr) : Plain (List.replicate n (blankC a)) := fun c hc => by rw [List.eq_of_mem_replicate hc]; rfl
theorem plain_append {xs ys : List Cell} (h : Plain xs) (h' : Plain ys) : Plain (xs ++ ys) := fun c hc => by
  rcases List.mem_append.1 hc with h1 | h1
  · exact h c h1
  · exact h' c h1
theorem plain_take {xs : List Cell} (h : Plain xs) (n : Nat) : Plain (xs.take n) := fun c hc => h c (List.mem_of_mem_take hc)
theorem plain_drop {xs : List Cell} (h : Plain xs) (n : Nat) : Plain (xs.drop n) := fun c hc => h c (List.mem_of_mem_drop hc)
theorem put_plain {xs : List Cell} (h : Plain xs) {col r : Int} {a : Attr} (hb : ¬ badPut xs.length col 1) : putP xs col r 1 a = xs.set col.toNat ⟨r, 0, a⟩ := by
  have h1 : wrotL xs col r 1 a = xs.set col.toNat ⟨r, 0, a⟩ := by rw [wrotL, if_neg (by decide)]
  rw [putP, if_neg hb, plain_mend h, h1]
  have hp : Plain (xs.set col.toNat ⟨r, 0, a⟩) := plain_set h rfl
  rw [halvesL, plain_half hp, plain_half hp]

/-! ### LineTexts -/
def a0 : Attr := ⟨0, 0, 0⟩
def chr (b : UInt8) : Int := 32 + (b.toNat : Int) % 95
theorem chr_range (b : UInt8) : 32 ≤ chr b ∧ chr b < 127 := by unfold chr; omega
def rowT (at_ : Nat) (bs : List UInt8) (m : Nat) : List Cell := List.replicate at_ (blankC a0) ++ bs.map (fun b => ⟨chr b, 0, a0⟩) ++ List.replicate m (blankC a0)
def wantT (at_ : Nat) (bs : List UInt8) : List UInt8 := List.replicate at_ 32 ++ bs.map fun b => u8 (chr b)
theorem rowT_plain (at_ : Nat) (bs : List UInt8) (m : Nat) : Plain (rowT at_ bs m) := by
  refine plain_append (plain_append (plain_blanks _ _) fun c hc => ?_) (plain_blanks _ _)
  obtain ⟨b, _, rfl⟩ := List.mem_map.1 hc
  rfl
theorem rowT_length (at_ : Nat) (bs : List UInt8) (m : Nat) : (rowT at_ bs m).length = at_ + bs.length + m := by simp [rowT]; omega
theorem rowT_set (at_ : Nat) (bs : List UInt8) (b : UInt8) (m : Nat) : (rowT at_ bs (m + 1)).set (at_ + bs.length) ⟨chr b, 0, a0⟩ = rowT at_ (bs ++ [b]) m := by
  unfold rowT
  have hl : (List.replicate at_ (blankC a0) ++ bs.map (fun b => (⟨chr b, 0, a0⟩ : Cell))).length = at_ + bs.length := by simp
  rw [List.set_append_right _ _ (by omega), hl, Nat.sub_self, List.replicate_succ, List.set_cons_zero]
  simp
theorem encR_chr (b : UInt8) : encR (chr b) = [u8 (chr b)] := by
  have h := chr_range b
  have hv : validR (chr b) = true := validR_iff.2 ⟨by omega, by omega, .inl (by omega)⟩
  rw [encR, fixR, if_pos hv, encV, if_pos (by omega)]
theorem textB_row (at_ : Nat) (bs : List UInt8) (m : Nat) : textB (rowT at_ bs m) = wantT at_ bs ++ List.replicate m 32 := by
  unfold textB
  rw [plain_mend (rowT_plain at_ bs m)]
  have blanks : ∀ n, (List.replicate n (blankC a0)).flatMap cellB = List.replicate n 32 := by
    intro n
    induction n with
    | zero => rfl
    | succ n ih =>
      rw [List.replicate_succ, List.flatMap_cons, ih]
      rfl
  have mid : (bs.map (fun b => (⟨chr b, 0, a0⟩ : Cell))).flatMap cellB = bs.map fun b => u8 (chr b) := by
    induction bs with
    | nil => rfl
    | cons b r ih =>
      rw [List.map_cons, List.flatMap_cons, ih, List.map_cons]
      have h := chr_range b
      have : cellB (⟨chr b, 0, a0⟩ : Cell) = [u8 (chr b)] := by
        rw [cellB, if_neg (show ¬ ((0 : Int) = 2) by decide), if_neg (show ¬ (chr b = 0) by omega), encR_chr]
      rw [this]
      rfl
  rw [rowT, List.flatMap_append, List.flatMap_append, blanks, blanks, mid, wantT]
theorem trimR_blanks (l : List UInt8) : ∀ m, trimR (l ++ List.replicate m 32) = trimR l
  | 0 => by simp
  | m + 1 => by rw [List.replicate_succ', ← List.append_assoc, trimR_blank, trimR_blanks l m]
theorem strOf_append (l m : List UInt8) : strOf l ++ strOf m = strOf (l ++ m) := by
  apply ByteArray.ext
  simp [strOf]
theorem newT : newL 240 a0 = List.replicate 240 (blankC a0) := by rw [newL, if_neg (by decide)]; rfl

theorem LineTexts_law {text : Slc} {bs : List UInt8} {at_ : Int} {w : World} {K : Bool → World → Prop} (h : Rd byteE w text bs) (hK : ∀ w', Below w.heap.size w w' → K true w') : c_phosphorlaw13_LineTexts text at_ w K := by
  refine call_phosphorlaw13_LineTexts _ _ ?_
  unfold sh_phosphorlaw13_LineTexts
  refine known_spec fun w1 hB1 => ?_
  refine cond_f rfl ?_
  rw [h.n]
  refine joinP_of fun J hJ => ?_
  refine cond_of (fun _ => hK _ hB1) (fun hl => ?_)
  refine cond_of (fun _ => hK _ hB1) (fun h0 => ?_)
  refine cond_of (fun _ => hK _ hB1) (fun h1 => ?_)
  have hl := of_decide_eq_false hl
  have h0 := of_decide_eq_false h0
  have h1 := of_decide_eq_false h1
  refine hJ _ _ ?_
  obtain ⟨a, rfl⟩ : ∃ a : Nat, at_ = a := ⟨at_.toNat, by omega⟩
  refine New_spec fun l w3 ho3 hB3 => ?_
  have hB03 : Below w.heap.size w w3 := hB1.trans (hB3.mono hB1.size)
  change Own cellE w3 w1.heap.size l (newL 240 a0) at ho3
  rw [newT] at ho3
  refine loopP_rule (fun (s : ByteArray × Int × Unit) w4 => ∃ k : Nat, s.2.1 = k ∧ k ≤ a ∧ s.1 = strOf (List.replicate k 32) ∧ w4 = w3) (fun s => a - s.2.1.toNat) ⟨0, rfl, by omega, rfl, rfl⟩ ?_
  rintro ⟨s, i, _⟩ w4 ⟨k, rfl, hk, rfl, rfl⟩ I hI
  dsimp only at *
  refine cond_of (fun hlt => ?_) (fun hge => ?_)
  · have hlt := of_decide_eq_true hlt
    have e32 : ((⟨#[32]⟩ : ByteArray)) = strOf [32] := rfl
    rw [e32, strOf_size, strOf_size, strOf_append]
    refine ⟨by simp; omega, ?_⟩
    rw [wrap64_id (by omega)]
    exact hI _ _ ⟨k + 1, by simp, by omega, by rw [List.replicate_succ'], rfl⟩ (by simp; omega)
  · have hge := of_decide_eq_false hge
    have : k = a := by omega
    subst this
    refine loopP_rule (fun (s : Slc × ByteArray × Int × Int × Unit) w5 => ∃ n : Nat, s.2.2.2.1 = n ∧ n ≤ bs.length ∧ Rd cellE w5 s.1 (rowT k (bs.take n) (240 - k - n)) ∧ s.2.1 = strOf (wantT k (bs.take n)) ∧ s.2.2.1 = ((trimR (wantT k (bs.take n))).length : Nat) ∧ Below w.heap.size w w5)
      (fun s => bs.length - s.2.2.2.1.toNat) ⟨0, rfl, by omega, ?_, ?_, ?_, hB03⟩ ?_
    · have : rowT k (bs.take 0) (240 - k - 0) = List.replicate 240 (blankC a0) := by
        rw [rowT, List.take_zero, List.map_nil, List.append_nil, List.replicate_append_replicate]
        congr 1
        omega
      rw [this]
      exact ho3.rd
    · simp [wantT]
    · have : trimR (wantT k (bs.take 0)) = [] := by
        have := trimR_blanks [] k
        simpa [wantT, trimR_nil] using this
      rw [this]
      rfl
    rintro ⟨l', want, e, i, _⟩ w5 ⟨n, rfl, hn, hrd, rfl, rfl, hB⟩ I2 hI2
    dsimp only at *
    have hwl : (wantT k (bs.take n)).length ≤ 1000 := by simp [wantT]; omega
    refine cond_of (fun hlt => ?_) (fun hge => ?_)
    · have hlt := of_decide_eq_true hlt
      have hnl : n < bs.length := by omega
      have hx : bs[n]? = some bs[n] := List.getElem?_eq_getElem hnl
      refine (h.ext hB).ix rfl (by omega) (by omega) fun hc => ?_
      refine ldI_of (x := (bs[n].toNat : Int)) (by simpa using hc 0 _ rfl) ?_
      refine ⟨by decide, ?_⟩
      have hr := chr_range bs[n]
      have hm : ((bs[n].toNat : Int)).tmod 95 = (bs[n].toNat : Int) % 95 := Int.tmod_eq_emod_of_nonneg (by omega)
      rw [hm]
      have hw8 : IntKind.u8.wrap ((32 : Int) + (bs[n].toNat : Int) % 95) = chr bs[n] := IntWalk.u8_in _ (by omega)
      rw [hw8]
      have hw32 : IntKind.i32.wrap (chr bs[n]) = chr bs[n] := IntWalk.i32_in _ (by omega)
      rw [hw32, wrap64_id (x := (k : Int) + n) (by omega), wrap64_id (x := (n : Int) + 1) (by omega)]
      have hrl := rowT_length k (bs.take n) (240 - k - n)
      rw [List.length_take, Nat.min_eq_left hn] at hrl
      have hbad : ¬ badPut (rowT k (bs.take n) (240 - k - n)).length ((k : Int) + n) 1 := by rw [hrl]; unfold badPut; omega
      refine Put_spec hrd (by omega) fun q w6 ho6 hB6 => ?_
      rw [decide_eq_false hbad]
      refine cond_f rfl ?_
      have hB06 : Below w.heap.size w w6 := hB.trans (hB6.mono hB.size)
      have htk : bs.take (n + 1) = bs.take n ++ [bs[n]] := by rw [List.take_add_one, hx]; rfl
      have hlist : putP (rowT k (bs.take n) (240 - k - n)) ((k : Int) + n) (chr bs[n]) 1 ⟨0, 0, 0⟩ = rowT k (bs.take (n + 1)) (240 - k - (n + 1)) := by
        rw [put_plain (rowT_plain _ _ _) hbad, show ((k : Int) + n).toNat = k + n by omega, htk, show 240 - k - n = 240 - k - (n + 1) + 1 by omega]
        have := rowT_set k (bs.take n) bs[n] (240 - k - (n + 1))
        rwa [List.length_take, Nat.min_eq_left hn] at this
      rw [hlist] at ho6
      refine nw_blk fun w7 hb7 hB7 hs7 => ?_
      have hr7 : Rd byteE w7 ⟨some ⟨w6.heap.size, 0, none⟩, 1, 1⟩ [u8 (chr bs[n])] := rd_one (E := byteE) hb7 (by
        show [Value.int .u8 ((u8 (chr bs[n])).toNat : Int)] = _
        rw [u8_toNat (by omega) (by omega)])
      have hrun := run_bytes_str hr7
      refine ⟨_, _, hrun, ?_⟩
      dsimp only
      rw [strOf_append, strOf_size, strOf_size]
      refine ⟨by simp only [List.length_cons, List.length_nil]; omega, ?_⟩
      have hB07 : Below w.heap.size w w7 := hB06.trans (hB7.mono hB06.size)
      have hwant : wantT k (bs.take (n + 1)) = wantT k (bs.take n) ++ [u8 (chr bs[n])] := by
        rw [wantT, htk, List.map_append, ← List.append_assoc]; rfl
      refine cond_of (fun h32 => ?_) (fun h32 => ?_)
      · have h32 : chr bs[n] ≠ 32 := by simpa using h32
        refine hI2 _ _ ⟨n + 1, by simp, by omega, ho6.rd.ext hB7, by rw [hwant], ?_, hB07⟩ (by simp; omega)
        have hne : u8 (chr bs[n]) ≠ 32 := fun e => by
          have h1 := u8_toNat (x := chr bs[n]) (by omega) (by omega)
          rw [e] at h1
          have h2 : ((32 : UInt8).toNat : Int) = 32 := rfl
          omega
        dsimp only
        rw [hwant, trimR_keep _ _ hne, strOf_size]
      · have h32 : chr bs[n] = 32 := by simpa using h32
        refine hI2 _ _ ⟨n + 1, by simp, by omega, ho6.rd.ext hB7, by rw [hwant], ?_, hB07⟩ (by simp; omega)
        have he : u8 (chr bs[n]) = 32 := by rw [h32]; rfl
        dsimp only
        rw [hwant, he, trimR_blank]
    · have hge := of_decide_eq_false hge
      have : n = bs.length := by omega
      subst this
      rw [List.take_length] at hrd hwl ⊢
      have hle := trimR_le (wantT k bs)
      refine bnd_some (by omega) (by rw [strOf_size]; omega) (bnd_none ?_)
      have hsl : (strOf (wantT k bs)).extract 0 (((trimR (wantT k bs)).length : Nat) : Int).toNat = strOf (trimR (wantT k bs)) := by
        rw [strOf_extract, show (((trimR (wantT k bs)).length : Nat) : Int).toNat = (trimR (wantT k bs)).length from rfl, ← trimR_take]
      rw [hsl]
      refine Text_spec hrd.drew (by rw [rowT_length]; omega) fun w9 hB9 => ?_
      have ht : textS (rowT k bs (240 - k - bs.length)) = strOf (trimR (wantT k bs)) := by rw [textS, textB_row, trimR_blanks]
      rw [ht, beq_self_eq_true]
      exact hK _ (hB.drew.trans (hB9.mono hB.size))

/-! ### LineShifts -/
theorem ins_plain {xs : List Cell} (h : Plain xs) {col k c : Int} {a : Attr} (hc : manyL xs.length col k = c) (h0 : c ≠ 0) :
    insL xs col k a = xs.take col.toNat ++ List.replicate c.toNat (blankC a) ++ (xs.take (xs.length - c.toNat)).drop col.toNat := by
  unfold insL
  rw [hc]
  dsimp only
  rw [if_neg h0, plain_mend h]
  exact plain_mend (plain_append (plain_append (plain_take h _) (plain_blanks _ _)) (plain_drop (plain_take h _) _))
theorem shifts {xs : List Cell} (h : Plain xs) {col n : Int} {a : Attr} (hcol : 0 ≤ col) (hcl : col < xs.length) (hn : 1 ≤ n) :
    delL (insL xs col n a) col n a = xs.take (xs.length - (min n (xs.length - col)).toNat) ++ List.replicate (min n (xs.length - col)).toNat (blankC a) ∧ (insL xs col n a).length = xs.length := by
  have hm : manyL xs.length col n = min n (xs.length - col) := by rw [manyL, if_neg (by omega)]
  have e1 := ins_plain h (a := a) hm (by omega)
  have hc0 : 1 ≤ min n ((xs.length : Int) - col) := by omega
  have hc1 : min n ((xs.length : Int) - col) ≤ xs.length - col := by omega
  generalize min n ((xs.length : Int) - col) = c at *
  have hlen : (insL xs col n a).length = xs.length := by rw [e1]; simp; omega
  refine ⟨?_, hlen⟩
  have hp : Plain (insL xs col n a) := by
    rw [e1]
    exact plain_append (plain_append (plain_take h _) (plain_blanks _ _)) (plain_drop (plain_take h _) _)
  have e2 : delL (insL xs col n a) col n a = mendL ((insL xs col n a).take col.toNat ++ (insL xs col n a).drop (col + c).toNat ++ List.replicate c.toNat (blankC a)) := by
    unfold delL
    rw [hlen, hm]
    dsimp only
    rw [if_neg (by omega), plain_mend hp]
  rw [e2, plain_mend (plain_append (plain_append (plain_take hp _) (plain_drop hp _)) (plain_blanks _ _))]
  congr 1
  have hl1 : (xs.take col.toNat).length = col.toNat := by simp; omega
  have hl2 : (xs.take col.toNat ++ List.replicate c.toNat (blankC a)).length = (col + c).toNat := by simp; omega
  have t1 : (insL xs col n a).take col.toNat = xs.take col.toNat := by
    rw [e1, List.append_assoc, List.take_append_of_le_length (by omega), List.take_of_length_le (by omega)]
  have t2 : (insL xs col n a).drop (col + c).toNat = (xs.take (xs.length - c.toNat)).drop col.toNat := by
    rw [e1, ← hl2, List.drop_left]
  rw [t1, t2]
  have : xs.take col.toNat = (xs.take (xs.length - c.toNat)).take col.toNat := by rw [List.take_take, Nat.min_eq_left (by omega)]
  rw [this, List.take_append_drop]

theorem LineShifts_law {l : Slc} {xs : List Cell} {col n : Int} {a : Attr} {w : World} {K : Bool → World → Prop} (h : Rd cellE w l xs) (hK : ∀ w', Below w.heap.size w w' → K true w') : c_phosphorlaw13_LineShifts l col n a w K := by
  refine call_phosphorlaw13_LineShifts _ _ _ _ ?_
  unfold sh_phosphorlaw13_LineShifts
  refine nw_blk fun w1 hb1 hB1 hs1 => ?_
  refine known_spec fun w2 hB2 => ?_
  have hB02 : Below w.heap.size w w2 := hB1.trans (hB2.mono hB1.size)
  have hb2 := hb1.ext hB2
  refine cond_f rfl ?_
  rw [h.n]
  refine joinP_of fun J hJ => ?_
  refine cond_of (fun _ => hK _ hB02) (fun hl => ?_)
  have hl := of_decide_eq_false hl
  refine rRight_spec (h.ext hB02) ?_
  refine cond_of (fun _ => hK _ hB02) (fun hr => ?_)
  refine cond_of (fun _ => hK _ hB02) (fun h1 => ?_)
  refine cond_of (fun _ => hK _ hB02) (fun h2 => ?_)
  refine cond_of (fun _ => hK _ hB02) (fun h3 => ?_)
  refine cond_of (fun _ => hK _ hB02) (fun h4 => ?_)
  have h1 := of_decide_eq_false h1
  have h2 := of_decide_eq_false h2
  have h3 := of_decide_eq_false h3
  have h4 := of_decide_eq_false h4
  refine hJ _ _ ?_
  refine loopP_rule (fun (s : Int × Unit) w4 => ∃ k : Nat, s.1 = k ∧ k ≤ xs.length ∧ (∀ (i : Nat) x, i < k → xs[i]? = some x → x.Kind = 0) ∧ w4 = w2) (fun s => xs.length - s.1.toNat) ⟨0, rfl, by omega, fun i x hi => by omega, rfl⟩ ?_
  rintro ⟨i, _⟩ w4 ⟨k, rfl, hk, hpl, rfl⟩ I hI
  dsimp only at *
  refine cond_of (fun hlt => ?_) (fun hge => ?_)
  · have hlt := of_decide_eq_true hlt
    obtain ⟨x, hx, hxs⟩ := get_of (xs := xs) (k := k) (by omega)
    refine (h.ext hB02).ix rfl (by omega) (by omega) fun hc => ?_
    rw [hxs] at hc
    refine ldI_of (cell_kind hc) ?_
    refine cond_of (fun _ => hK _ hB02) (fun h0 => ?_)
    have h0 : x.Kind = 0 := by simpa using h0
    rw [wrap64_id (by omega)]
    refine hI _ _ ⟨k + 1, by simp, by omega, fun i y hi hy => ?_, rfl⟩ (by simp; omega)
    rcases Nat.lt_or_ge i k with h' | h'
    · exact hpl i y h' hy
    · have : i = k := by omega
      subst this
      rw [hx] at hy
      cases hy
      exact h0
  · have hge := of_decide_eq_false hge
    have : k = xs.length := by omega
    subst this
    have hplain : Plain xs := fun c hc => by
      obtain ⟨i, hi⟩ := List.getElem?_of_mem hc
      exact hpl i c (List.getElem?_eq_some_iff.1 hi).1 hi
    refine ldS_of (x := a) hb2.drew.cells ?_
    refine ldS_of (x := a) hb2.drew.cells ?_
    obtain ⟨e1, e2⟩ := shifts hplain (col := col) (n := n) (a := a) (by omega) (by omega) (by omega)
    refine Insert_spec ((h.ext hB02).drew) (by omega) fun q w5 ho5 hB5 => ?_
    refine ⟨(hb2.drew.ext hB5).cells, ?_⟩
    have hB05 : Below w.heap.size w w5 := hB02.drew.trans (hB5.mono hB02.size)
    refine Delete_spec ho5.rd (by rw [e2]; omega) fun r w6 ho6 hB6 => ?_
    have hB06 : Below w.heap.size w w6 := hB05.trans (hB6.mono hB05.size)
    have hb6 := (hb2.drew.ext hB5).ext hB6
    rw [e1] at ho6
    have hc0 : 1 ≤ min n ((xs.length : Int) - col) := by omega
    have hc1 : min n ((xs.length : Int) - col) ≤ xs.length - col := by omega
    have hc2 : min n ((xs.length : Int) - col) = n ∨ min n ((xs.length : Int) - col) = xs.length - col := by omega
    have hc3 : min n ((xs.length : Int) - col) ≤ n := by omega
    generalize min n ((xs.length : Int) - col) = c at *
    have hzl : (xs.take (xs.length - c.toNat) ++ List.replicate c.toNat (blankC a)).length = xs.length := by simp; omega
    have hz1 : ∀ i : Nat, i < xs.length - c.toNat → (xs.take (xs.length - c.toNat) ++ List.replicate c.toNat (blankC a))[i]? = xs[i]? := fun i hi => by
      rw [List.getElem?_append_left (by simp; omega), List.getElem?_take_of_lt hi]
    have hz2 : ∀ i : Nat, xs.length - c.toNat ≤ i → i < xs.length → (xs.take (xs.length - c.toNat) ++ List.replicate c.toNat (blankC a))[i]? = some (blankC a) := fun i hi hi' => by
      rw [List.getElem?_append_right (by simp; omega), List.getElem?_replicate, if_pos (by simp; omega)]
    generalize xs.take (xs.length - c.toNat) ++ List.replicate c.toNat (blankC a) = zs at *
    have hrn : r.n = zs.length := ho6.rd.n
    rw [hrn, hzl]
    refine cond_f (by simp) ?_
    refine loopP_rule (fun (s : Int × Unit) w7 => ∃ k : Nat, s.1 = k ∧ k ≤ xs.length ∧ Rd cellE w7 r zs ∧ Blk w7 w.heap.size 23 (T_api_Attr.rep.cells a) ∧ Below w.heap.size w w7) (fun s => xs.length - s.1.toNat) ⟨0, rfl, by omega, ho6.rd, hb6, hB06⟩ ?_
    rintro ⟨i, _⟩ w7 ⟨k, rfl, hk, hrd, hb7, hB⟩ I2 hI2
    dsimp only at *
    refine cond_of (fun hlt => ?_) (fun hge => hK _ hB)
    have hlt := of_decide_eq_true hlt
    rw [wrap64_id (x := (k : Int) + 1) (by omega), wrap64_id (x := (xs.length : Int) - n) (by omega)]
    obtain ⟨x, hx, hxs⟩ := get_of (xs := xs) (k := k) (by omega)
    obtain ⟨z, hz, hzs⟩ := get_of (xs := zs) (k := k) (by omega)
    have next : I2 ((k : Int) + 1, ()) w7.drew := hI2 _ _ ⟨k + 1, by simp, by omega, hrd.drew, hb7.drew, hB.drew⟩ (by simp; omega)
    refine joinP_of fun J4 hJ4 => ?_
    have yes : z = x → J4 (true, ()) w7 := fun e => hJ4 _ _ (cond_t rfl (by
      refine hrd.drew.ix rfl (by omega) (by omega) fun hc => ?_
      rw [hzs] at hc
      refine ldS_of (x := z) hc ?_
      refine (h.ext hB).drew.ix rfl (by omega) (by omega) fun hc => ?_
      rw [hxs] at hc
      refine ldS_of (x := x) hc ?_
      change cond (!(sameC z x)) _ _
      rw [sameC_iff.2 e]
      exact next))
    have no : z = blankC a → J4 (false, ()) w7 := fun e => hJ4 _ _ (cond_f rfl (by
      refine hrd.drew.ix rfl (by omega) (by omega) fun hc => ?_
      rw [hzs] at hc
      refine ldS_of (x := z) hc ?_
      refine ldS_of (x := a) hb7.drew.cells ?_
      change cond (!(sameC z (blankC a))) _ _
      rw [sameC_iff.2 e]
      exact next))
    have same : k < xs.length - c.toNat → z = x := fun hlt' => by
      have := hz1 k hlt'
      rw [hz, hx] at this
      exact Option.some.inj this
    refine cond_of (fun hc => ?_) (fun hc => ?_)
    · have hc := of_decide_eq_true hc
      exact yes (same (by omega))
    · have hc := of_decide_eq_false hc
      by_cases hn' : (k : Int) < xs.length - n
      · rw [decide_eq_true hn']
        exact yes (same (by omega))
      · rw [decide_eq_false hn']
        refine no ?_
        have := hz2 k (by omega) (by omega)
        rw [hz] at this
        exact Option.some.inj this

end Go.Proofs.YtgejghejnibocaaDoor
