/- Replies, the program's and the document's; the document's decimals; Split; known. -/
import Derived.Test.YtpadlibcalomnaaDoorK5
import Derived.Lib.SlBytesConst
set_option linter.unusedVariables false
namespace Go.Proofs.YtpadlibcalomnaaDoor
open Go.Vc Go.RowKit
set_option maxRecDepth 400000

section
variable {w : World}
/-- []byte of a constant. -/
theorem lits_bytes {vs : List Value} {n : Nat} {bs : List UInt8} {K : Slc → World → Prop} (hv : vs = bs.map fun b => Value.int .u8 (b.toNat : Int)) (hn : n = bs.length) (hl : bs.length ≤ 1000000)
    (hK : ∀ s w', Rd E_uint8 w' s bs → s.blk = some w.heap.size → Below w.heap.size w w' → w'.heap.size = w.heap.size + 1 → s.a = some ⟨w.heap.size, 0, none⟩ → K s w') :
    nw ty_uint8 vs w fun t w1 => runK1 PG (convert ty_sl_uint8 ty_sl_uint8 (.slice (some t) n n)) Kind.slice w1 K := by
  subst hn hv
  refine ⟨⟨some ⟨w.heap.size, 0, none⟩, bs.length, bs.length⟩, _, Lib.run_convert_bytes_const w ty_sl_uint8 ty_uint8 _ _ _ (by kernel_rfl) (by kernel_rfl), hK _ _ ⟨rfl, Nat.le_refl _, by show bs.length ≤ maxLen; simp only [maxLen]; omega, fun _ => rfl, fun i x hx j v hj => ?_⟩ rfl ((Below.refl _ w).alloc (Nat.le_refl _) _) (by simp) rfl⟩
  have hj0 : j = 0 := by
    have := (List.getElem?_eq_some_iff.1 hj).1
    simp [E_uint8] at this
    exact this
  subst hj0
  have hv : v = .int .u8 (x.toNat : Int) := by
    simp [E_uint8] at hj
    exact hj.symm
  subst hv
  have hi : i < bs.length := (List.getElem?_eq_some_iff.1 hx).1
  show World.cell? _ (((⟨w.heap.size, 0, none⟩ : Addr).add (i * 1)).add 0) = _
  rw [add_zero, add_mk, Nat.mul_one, Nat.zero_add]
  have hnew : ∀ o : Obj, (w.alloc o).heap[w.heap.size]? = some o := fun o => by
    show (w.heap.push o)[w.heap.size]? = _
    simp
  unfold World.cell?
  dsimp only
  rw [hnew]
  show (bs.map fun b => Value.int .u8 (b.toNat : Int)).toArray[i]? = _
  rw [List.getElem?_toArray, List.getElem?_map, hx]
  rfl
/-- string([]byte{b}). -/
theorem one_byte {v : Int} {b : UInt8} {K : ByteArray → World → Prop} (hv : v = b.toNat) (hK : ∀ w', Below w.heap.size w w' → K (strB [b]) w') :
    nw ty_uint8 [(.int .u8 v)] w fun t8 w1 => runK1 PG (convert ty_sl_uint8 ty_string (.slice (some t8) 1 1)) Kind.string w1 K := by
  subst hv
  refine nw_blk fun w1 hb1 hB1 hs1 => ?_
  exact toStr_spec (s := ⟨some ⟨w.heap.size, 0, none⟩, 1, 1⟩) (rd_one (E := E_uint8) (y := b) hb1 rfl) (hK w1 hB1)
theorem digit_byte {m : Nat} (h : m < 10) : IntKind.u8.wrap (IntKind.i64.wrap ((48 : Int) + (m : Int))) = ((UInt8.ofNat (48 + m)).toNat : Int) := by
  rw [i64_in (by omega), show (48 : Int) + (m : Int) = ((48 + m : Nat) : Int) by omega, wrap_nat .u8 (by show _ < 2 ^ 8; omega)]
  simp
  omega
/-- A document's decimal. -/
theorem dec_loop (u : Nat) : (if u < 10 then ([] : List UInt8) else Lib.decDigits (u / 10)) ++ [UInt8.ofNat (48 + u % 10)] = Lib.decDigits u := by
  conv => rhs; rw [Lib.decDigits]
  split
  · rename_i h
    rw [Nat.mod_eq_of_lt h]
    rfl
  · rfl
theorem decimal_spec (u : Nat) (hu : u ≤ 4294967295 ∨ u ≤ 9223372036854775807) {K : ByteArray → World → Prop} (hK : ∀ w', Below w.heap.size w w' → K (strB (Lib.decDigits u)) w') : c_phosphorref19_decimal (u : Int) w K := by
  have hu : u ≤ 9223372036854775807 := by omega
  refine call_phosphorref19_decimal _ ?_
  unfold sh_phosphorref19_decimal
  refine ⟨by decide, ?_⟩
  have tm : ∀ n : Nat, ((n : Int).tmod 10) = ((n % 10 : Nat) : Int) := fun n => by rw [Int.ofNat_tmod]; rfl
  have td : ∀ n : Nat, ((n : Int).tdiv 10) = ((n / 10 : Nat) : Int) := fun n => by rw [Int.ofNat_tdiv]; rfl
  rw [tm, digit_byte (Nat.mod_lt _ (by omega))]
  refine one_byte rfl fun w2 hB2 => ?_
  refine loopP_rule (fun (s : Int × ByteArray × Unit) w3 => ∃ (n : Nat) (bs : List UInt8), s.1 = n ∧ s.2.1 = strB bs ∧ n ≤ u ∧ bs.length + (Lib.decDigits n).length ≤ 100 ∧ (if n < 10 then ([] : List UInt8) else Lib.decDigits (n / 10)) ++ bs = Lib.decDigits u ∧ Below w.heap.size w w3)
    (fun s => s.1.toNat) ⟨u, [UInt8.ofNat (48 + u % 10)], rfl, rfl, Nat.le_refl _, ?_, dec_loop u, hB2⟩ ?_
  · have := itoa_len (n := (u : Int)) (by omega) (by omega)
    unfold Lib.itoa at this
    rw [if_neg (by omega), Int.toNat_natCast] at this
    simp
    omega
  rintro ⟨a, b, u'⟩ w3 ⟨n, bs, ha, hb, hn, hbl, hd, hB3⟩ I hI
  dsimp only at ha hb ⊢
  subst ha hb
  by_cases h10 : n < 10
  · refine cond_f (by simp; omega) ?_
    rw [if_pos h10, List.nil_append] at hd
    rw [hd]
    exact hK w3 hB3
  · refine cond_t (by simp; omega) ⟨by decide, by decide, ?_⟩
    rw [td, i64_in (x := ((n / 10 : Nat) : Int)) (by omega), tm, digit_byte (Nat.mod_lt _ (by omega))]
    refine one_byte rfl fun w5 hB5 => ?_
    have hlen : (Lib.decDigits n).length = (Lib.decDigits (n / 10)).length + 1 := by
      conv => lhs; rw [Lib.decDigits]
      rw [dif_neg h10, List.length_append]
      rfl
    have hpos : 1 ≤ (Lib.decDigits (n / 10)).length := by
      rw [Lib.decDigits]
      split
      · simp
      · simp
    rw [strB_app, strB_size, strB_size]
    refine ⟨by rw [List.length_singleton]; omega, ?_⟩
    rw [if_neg h10] at hd
    refine hI _ _ ⟨n / 10, _, rfl, rfl, by omega, ?_, ?_, hB3.trans (hB5.mono hB3.size)⟩ (by simp; omega)
    · rw [List.length_append, List.length_singleton]
      omega
    · rw [← hd, ← dec_loop (n / 10), List.append_assoc]
theorem index_at : ∀ (x : List UInt8) (c : UInt8) (r : List UInt8), (∀ b ∈ x, b ≠ c) → Lib.indexByte (x ++ c :: r) c = x.length
  | [], c, r, _ => by simp [Lib.indexByte]
  | b :: x, c, r, h => by
    have h1 := index_at x c r fun b hb => h b (by simp [hb])
    have h2 : b ≠ c := h b (by simp)
    have h3 : ¬ (x.length : Int) = -1 := by omega
    simp [Lib.indexByte, h2, h1, h3]
theorem bytesCut_spec {s : Slc} {x r : List UInt8} (c : UInt8) {g : Nat} (hs : Rd E_uint8 w s (x ++ c :: r)) (hx : ∀ b ∈ x, b ≠ c) (hsa : s.a = some ⟨g, 0, none⟩) {sep : Slc} (hsep : Rd E_uint8 w sep [c]) (hl : (x ++ c :: r).length ≤ 1000000) {K : Slc → Slc → Bool → World → Prop}
    (hK : ∀ p q, Rd E_uint8 w.drew p x → Rd E_uint8 w.drew q r → p.a.isSome = true → q.a.isSome = true → K p q true w.drew) : c_bytes_Cut s sep w K := by
  refine call_bytes_Cut _ _ ?_
  unfold sh_bytes_Cut
  refine call_bytes_Index _ _ ?_
  unfold sh_bytes_Index
  have hn := hs.n
  have hsn := hsep.n
  have hsn1 : sep.n = 1 := hsn
  rw [List.length_append, List.length_cons] at hn
  rw [List.length_append, List.length_cons] at hl
  refine cond_f (by rw [hsn1]; rfl) (cond_t (by rw [hsn1]; rfl) ?_)
  refine hsep.ix (k := 1) rfl (by omega) (by rw [List.length_singleton]; decide) fun hcell => ?_
  refine ldI_of (x := (c.toNat : Int)) (by simpa using hcell 0 _ rfl) ?_
  have hc : Calls PG 85 #[.slice (some ⟨g, 0, none⟩) s.n s.c, .int .u8 (c.toNat : Int)] w fun e w' => e = .returned (.int .i64 (Lib.indexByte (Lib.bytesOf ((x ++ c :: r).map fun b => (b.toNat : Int))) ((c.toNat : Int)).toNat.toUInt8)) ∧ w' = w :=
    Tryd.bytes_IndexByte g 0 s.n s.c ((x ++ c :: r).map fun b => (b.toNat : Int)) (c.toNat : Int) w (by simp; omega) (fun i hi => by
      have hil : i < (x ++ c :: r).length := by rw [List.length_append, List.length_cons]; omega
      have := hs.at_ i (x ++ c :: r)[i] (by simp [hil]) 0 (.int .u8 ((x ++ c :: r)[i].toNat : Int)) rfl
      simp only [Slc.at_, hsa, Option.getD_some, add_zero] at this
      rw [add_mk, show i * E_uint8.k = i from Nat.mul_one i] at this
      rw [this, List.getD_eq_getElem?_getD, List.getElem?_map, List.getElem?_eq_getElem hil]
      rfl)
  have hbytes : Lib.bytesOf ((x ++ c :: r).map fun b => (b.toNat : Int)) = x ++ c :: r := by
    unfold Lib.bytesOf
    rw [List.map_map]
    conv => rhs; rw [← List.map_id (x ++ c :: r)]
    exact List.map_congr_left fun b _ => by simp
  rw [hbytes, show ((c.toNat : Int)).toNat.toUInt8 = c by simp, index_at x c r hx] at hc
  have he : s = ⟨some ⟨g, 0, none⟩, s.n, s.c⟩ := by cases s; cases hsa; rfl
  rw [he]
  refine Calls.mono hc ?_
  rintro e w' ⟨rfl, rfl⟩
  refine ⟨_, rfl, ?_⟩
  rw [← he]
  refine cond_t (by simp) ?_
  have hs' : Rd E_uint8 w'.drew s (x ++ c :: r) := hs.drew
  refine hs'.slK (E := E_uint8) (k := 1) (l := 0) (m := x.length) rfl (.inl ⟨rfl, rfl⟩) (.inr rfl) (by omega) (by simp) fun hp => ?_
  rw [hsn1, i64_in (by omega)]
  refine hs'.slK (E := E_uint8) (k := 1) (l := x.length + 1) (m := (x ++ c :: r).length) rfl (.inr (by simp)) (.inl ⟨rfl, rfl⟩) (by simp) (Nat.le_refl _) fun hq => ?_
  have e1 : ((x ++ c :: r).take x.length).drop 0 = x := by simp
  have e2 : ((x ++ c :: r).take (x ++ c :: r).length).drop (x.length + 1) = r := by rw [List.take_length]; simp
  rw [e1] at hp
  rw [e2] at hq
  have hcut : ∀ l m k, (cut s.a l m k).isSome = true := fun l m k => by unfold cut; rw [hsa]; split <;> rfl
  exact hK _ _ hp hq (hcut _ _ _) (hcut _ _ _)
theorem Clone_spec {s : Slc} {bs : List UInt8} (hs : Rd E_uint8 w s bs) (ha : s.a.isSome = true) (hl : bs.length ≤ 1000000) {K : Slc → World → Prop} (hK : ∀ q w', Own E_uint8 w' w.heap.size q bs → Below w.heap.size w w' → K q w') : c_bytes_Clone s w K := by
  refine call_bytes_Clone _ ?_
  unfold sh_bytes_Clone
  refine cond_f (by cases h : s.a with | none => rw [h] at ha; cases ha | some a => rfl) ?_
  refine nw_blk fun w1 hb1 hB1 hs1 => ?_
  refine apK_own (E := E_uint8) sT_sl_uint8 (own_empty hb1 (Nat.le_refl _)) (hs.ext hB1) (by omega) (by rw [by_sl_uint8]; simp; omega) (by simp; unfold maxLen; omega) fun q w2 ho hg hr => hK q w2 ho (hB1.grown hg (by omega) fun k hk => by cases hk; exact Nat.le_refl _)
/-! ### Replies -/
theorem reply_no {L : List Int} {wd : List UInt8} : replyNo L wd = ((decide (L[8]?.getD 0 = 0) && decide (L[9]?.getD 0 = 0)) || (decide (L[4]?.getD 0 = 1) && decide (wd = [79, 75])) || decide ((2 : Int) ≤ L[4]?.getD 0) || decide (L[8]?.getD 0 < 0) || decide (L[9]?.getD 0 < 0) || decide (L[10]?.getD 0 < 0)) := rfl
theorem word_eq (wd : List UInt8) : ((strB wd).toList == (⟨#[79, 75]⟩ : ByteArray).toList) = decide (wd = [79, 75]) := by
  rw [strB_toList, show (⟨#[79, 75]⟩ : ByteArray) = strB [79, 75] from rfl, strB_toList]
  by_cases h : wd = [79, 75]
  · rw [h]; rfl
  · rw [decide_eq_false h]; simpa using h
theorem rItem_len (c : UInt8) {n : Int} (h0 : -9223372036854775808 ≤ n) (h1 : n ≤ 9223372036854775807) : (rItem c n).length ≤ 1 ∧ ∀ x ∈ rItem c n, x.length ≤ 22 := by
  have := itoa_len h0 h1
  unfold rItem
  split
  · simp
  · refine ⟨by simp, fun x hx => ?_⟩
    rw [List.mem_singleton] at hx
    subst hx
    simp
    omega
/-- The keys' numbers are numbers of 64 bits. -/
def Wide (L : List Int) : Prop := ∀ i : Nat, -9223372036854775808 ≤ L[i]?.getD 0 ∧ L[i]?.getD 0 ≤ 9223372036854775807
theorem reply_len {L : List Int} (hw : Wide L) : (rItems L).length ≤ 3 ∧ (joinC (rItems L)).length ≤ 100 := by
  have a := rItem_len 105 (hw 8).1 (hw 8).2
  have b := rItem_len 73 (hw 9).1 (hw 9).2
  have c := rItem_len 112 (hw 10).1 (hw 10).2
  have h3 : (rItems L).length ≤ 3 := by unfold rItems; rw [List.length_append, List.length_append]; omega
  have := joinC_len 22 (rItems L) fun x hx => by
    unfold rItems at hx
    rcases List.mem_append.1 hx with hx | hx
    · rcases List.mem_append.1 hx with hx | hx
      · exact a.2 x hx
      · exact b.2 x hx
    · exact c.2 x hx
  exact ⟨h3, by omega⟩
theorem Reply_spec {k : T_keys_Keys} (hT : Tab w) (hw : Wide (toL k)) (wd : List UInt8) (hwl : wd.length ≤ 100000) {K : Slc → World → Prop} (hK : ∀ q w', Rd E_uint8 w' q (replyL (toL k) wd) → Below w.heap.size w w' → K q w') : c_keys_Reply k (strB wd) w K := by
  refine call_keys_Reply _ _ ?_
  unfold sh_keys_Reply
  refine nw_blk fun w1 hb1 hB1 hs1 => ?_
  obtain ⟨L, hL⟩ : ∃ L, toL k = L := ⟨_, rfl⟩
  rw [hL] at hw hK
  have h4 : L[4]?.getD 0 = k.Quiet := by rw [← hL]; rfl
  have h8 : L[8]?.getD 0 = k.Id := by rw [← hL]; rfl
  have h9 : L[9]?.getD 0 = k.Number := by rw [← hL]; rfl
  have h10 : L[10]?.getD 0 = k.Place := by rw [← hL]; rfl
  have ld : ∀ {w2 : World}, Blk w2 w.heap.size ty_keys_Keys (T_keys_Keys.rep.cells k) → w2.cell? ((⟨w.heap.size, 0, none⟩ : Addr).add 4) = some (.int .i64 k.Quiet) ∧ w2.cell? ((⟨w.heap.size, 0, none⟩ : Addr).add 8) = some (.int .i64 k.Id) ∧ w2.cell? ((⟨w.heap.size, 0, none⟩ : Addr).add 9) = some (.int .i64 k.Number) ∧ w2.cell? ((⟨w.heap.size, 0, none⟩ : Addr).add 10) = some (.int .i64 k.Place) :=
    fun hb => ⟨hb.cells 4 _ rfl, hb.cells 8 _ rfl, hb.cells 9 _ rfl, hb.cells 10 _ rfl⟩
  obtain ⟨l4, l8, l9, l10⟩ := ld hb1
  have hno : replyNo L wd = true → K ⟨none, 0, 0⟩ w1 := fun h => hK _ w1 (by unfold replyL; rw [if_pos h]; exact Rd.nil _ _) hB1
  rw [reply_no, h4, h8, h9, h10] at hno
  refine ldI_of l4 ?_
  refine joinP_of fun J1 hJ1 => joinP_of fun J3 hJ3 => joinP_of fun J4 hJ4 => ?_
  -- the reply itself
  have hmain : replyNo L wd = false → J1 () w1 := by
    intro hn
    refine hJ1 _ _ ?_
    refine ldI_of l8 (ldI_of l9 (ldI_of l10 ?_))
    refine nw_blk fun w3 hb3 hB3 hs3 => ?_
    have hB13 := hB1.trans (hB3.mono (by omega))
    have rI : ∀ i : Nat, i ≤ 3 → List (List UInt8) := fun i _ => ([rItem 105 k.Id, rItem 73 k.Number, rItem 112 k.Place].take i).flatten
    have hrI : rItems L = ([rItem 105 k.Id, rItem 73 k.Number, rItem 112 k.Place].take 3).flatten := by unfold rItems; rw [h8, h9, h10]; simp
    have hw8 := hw 8
    have hw9 := hw 9
    have hw10 := hw 10
    rw [h8] at hw8
    rw [h9] at hw9
    rw [h10] at hw10
    refine loopP_rule (fun (s : Slc × Int × Unit) w4 => ∃ i : Nat, s.2.1 = i ∧ i ≤ 3 ∧ Blk w4 w1.heap.size ty_struct_key_string_n_int [(.string (strB [105, 61])), (.int .i64 k.Id), (.string (strB [73, 61])), (.int .i64 k.Number), (.string (strB [112, 61])), (.int .i64 k.Place)] ∧ Below w.heap.size w w4 ∧ w3.heap.size ≤ w4.heap.size ∧ Own E_string w4 w3.heap.size s.1 ((([rItem 105 k.Id, rItem 73 k.Number, rItem 112 k.Place].take i).flatten).map strB))
      (fun s => 3 - s.2.1.toNat) ⟨0, rfl, by omega, hb3, hB13, Nat.le_refl _, Own.nil _ _ _⟩ ?_
    rintro ⟨q, i, u⟩ w4 ⟨m, hi, hm, hb4, hB4, hs4, ho4⟩ I hI
    dsimp only at hi ho4 ⊢
    subst hi
    by_cases hlt : m < 3
    · refine cond_t (by simp; omega) ⟨⟨by omega, by omega⟩, ?_⟩
      obtain ⟨c, n, hcn, hnw, hcells⟩ : ∃ (c : UInt8) (n : Int), [rItem 105 k.Id, rItem 73 k.Number, rItem 112 k.Place][m]? = some (rItem c n) ∧ (-9223372036854775808 ≤ n ∧ n ≤ 9223372036854775807) ∧
          cellsAt w4 ((⟨w1.heap.size, 0, none⟩ : Addr).add (((m : Int)).toNat * 2)) (T_struct_key_string_n_int.rep.cells ⟨strB [c, 61], n⟩) := by
        have : m = 0 ∨ m = 1 ∨ m = 2 := by omega
        rcases this with rfl | rfl | rfl
        · exact ⟨105, k.Id, rfl, hw8, hb4.sub 0 _ rfl⟩
        · exact ⟨73, k.Number, rfl, hw9, hb4.sub 2 _ rfl⟩
        · exact ⟨112, k.Place, rfl, hw10, hb4.sub 4 _ rfl⟩
      have htk : (([rItem 105 k.Id, rItem 73 k.Number, rItem 112 k.Place].take (m + 1)).flatten) = (([rItem 105 k.Id, rItem 73 k.Number, rItem 112 k.Place].take m).flatten) ++ rItem c n := by
        rw [List.take_add_one, hcn, List.flatten_append]
        simp
      refine ldS_of (x := (⟨strB [c, 61], n⟩ : T_struct_key_string_n_int)) hcells ?_
      refine box_of (t := ty_struct_key_string_n_int) (vs := T_struct_key_string_n_int.rep.cells ⟨strB [c, 61], n⟩) rfl fun w6 hb6 hB6 hs6 => ?_
      refine ldI_of (x := n) (hb6.cells 1 _ rfl) ?_
      have ho6 := ho4.ext hB6
      have hb46 := hb4.ext hB6
      have hB46 := hB4.trans (hB6.mono hB4.size)
      have e4 := hB4.size
      rw [i64_in (by omega)]
      refine cond_of (fun hne => ?_) fun he => ?_
      · have hne : n ≠ 0 := by simpa using hne
        have hit : rItem c n = [c :: 61 :: Lib.itoa n] := by unfold rItem; rw [if_neg hne]
        have hb6d : Blk w6.drew w4.heap.size ty_struct_key_string_n_int (T_struct_key_string_n_int.rep.cells ⟨strB [c, 61], n⟩) := hb6.drew
        refine ldStr_of (x := strB [c, 61]) (hb6d.cells 0 _ rfl) (ldI_of (x := n) (hb6d.cells 1 _ rfl) ?_)
        refine Itoa_spec (hT.ext hB46.drew) hnw.1 hnw.2 fun w7 hB7 => ?_
        have hil := itoa_len hnw.1 hnw.2
        refine ⟨(hb6d.ext hB7).cells 0 _ rfl, by rw [strB_size, strB_size]; simp; omega, ?_⟩
        rw [strB_app]
        show nw ty_string [(.string (strB (c :: 61 :: Lib.itoa n)))] w7 _
        have e7 : w6.heap.size ≤ w7.heap.size := hB7.size
        have ho7 : Own E_string w7 w3.heap.size q _ := ho6.drew.ext hB7
        have hb47 := hb46.drew.ext hB7
        have hlen : (([rItem 105 k.Id, rItem 73 k.Number, rItem 112 k.Place].take m).flatten).length ≤ 1000 := by
          have a := (rItem_len 105 hw8.1 hw8.2).1
          have b := (rItem_len 73 hw9.1 hw9.2).1
          have : m = 0 ∨ m = 1 ∨ m = 2 := by omega
          rcases this with rfl | rfl | rfl <;> simp <;> omega
        refine snoc_str ho7 (by omega) hlen fun r w9 ho9 hc9 hr9 => ?_
        have hne1 : ∀ j, q.blk = some j → w3.heap.size ≤ j := fun j hj => (ho7.lt j hj).1
        refine hI _ _ ⟨m + 1, by simp, by omega, hb47.chg hc9 fun e => ?_, (hB46.drew.trans (hB7.mono (by show _ ≤ w6.heap.size; omega))).trans (hc9.below (by omega) fun i hi e => ?_), by have := hc9.size; omega, ?_⟩ (by simp; omega)
        · have := hne1 _ e; omega
        · have := hne1 _ e; omega
        · dsimp only; rw [htk, hit]; exact ho9
      · have he : n = 0 := by simpa using he
        have hit : rItem c n = [] := by unfold rItem; rw [if_pos he]
        refine hI _ _ ⟨m + 1, by simp, by omega, hb46, hB46, by omega, ?_⟩ (by simp; omega)
        dsimp only
        rw [htk, hit, List.append_nil]
        exact ho6
    · refine cond_f (by simp; omega) ?_
      obtain rfl : m = 3 := by omega
      rw [← hrI] at ho4
      obtain ⟨hl1, hl2⟩ := reply_len hw
      refine Join_spec (l := rItems L) ho4 (by omega) (by omega) fun w10 hB10 => ?_
      have e1 : (⟨#[27, 95, 71]⟩ : ByteArray) = strB [27, 95, 71] := rfl
      have e2 : (⟨#[59]⟩ : ByteArray) = strB [59] := rfl
      have e3 : (⟨#[27, 92]⟩ : ByteArray) = strB [27, 92] := rfl
      rw [e1, e2, e3]
      simp only [strB_app, strB_size, List.length_append, List.length_cons, List.length_nil]
      refine ⟨by omega, by omega, by omega, by omega, ?_⟩
      have hrep : replyL L wd = [27, 95, 71] ++ joinC (rItems L) ++ [59] ++ wd ++ [27, 92] := by unfold replyL; rw [if_neg (by rw [hn]; simp)]
      rw [← hrep]
      refine toBytes_spec (by rw [hrep]; simp; omega) fun r w11 hr11 _ hB11 _ => ?_
      have e4 := hB4.size
      have e10 := hB10.size
      exact hK r w11 hr11 ((hB4.trans (hB10.mono (by omega))).trans (hB11.mono (by omega)))
  rw [reply_no, h4, h8, h9, h10] at hmain
  -- the conditions
  have hJ4' : ¬(k.Id = 0 ∧ k.Number = 0) → ¬ k.Id < 0 → ¬ k.Number < 0 → ¬ k.Place < 0 → J4 () w1 := by
    intro hid a b c
    refine hJ4 _ _ ?_
    have hid' : (decide (k.Id = 0) && decide (k.Number = 0)) = false := by
      cases h : (decide (k.Id = 0) && decide (k.Number = 0)) with
      | false => rfl
      | true => exact absurd (by simpa using h) hid
    rw [hid', decide_eq_false a, decide_eq_false b, decide_eq_false c] at hno hmain
    simp only [Bool.false_or, Bool.or_false] at hno hmain
    refine cond_of (fun hq => ?_) fun hq => ?_
    · have hq : k.Quiet = 1 := by simpa using hq
      rw [hq] at hno hmain ⊢
      rw [word_eq]
      by_cases hwd : wd = [79, 75]
      · rw [decide_eq_true hwd] at *
        exact cond_f rfl (hJ3 _ _ (cond_t (by decide) (hno (by decide))))
      · rw [decide_eq_false hwd] at *
        exact cond_t rfl (hJ3 _ _ (cond_f (by decide) (hmain (by decide))))
    · have hq : ¬ k.Quiet = 1 := by simpa using hq
      rw [decide_eq_false hq, Bool.false_and, Bool.false_or] at hno hmain
      refine hJ3 _ _ (cond_of (fun h1 => hno ?_) fun h1 => hmain ?_)
      · have h1 : k.Quiet ≥ 1 := of_decide_eq_true h1
        exact decide_eq_true (by omega)
      · have h1 : ¬ k.Quiet ≥ 1 := of_decide_eq_false h1
        exact decide_eq_false (by omega)
  have tail : ¬(k.Id = 0 ∧ k.Number = 0) → ldI .i64 ((⟨w.heap.size, 0, none⟩ : Addr).add 8) w1 fun t22 => cond (decide (t22 < (0 : Int))) (K (⟨none, 0, 0⟩ : Slc) w1) (ldI .i64 ((⟨w.heap.size, 0, none⟩ : Addr).add 9) w1 fun t27 => cond (decide (t27 < (0 : Int))) (K (⟨none, 0, 0⟩ : Slc) w1) (ldI .i64 ((⟨w.heap.size, 0, none⟩ : Addr).add 10) w1 fun t32 => cond (decide (t32 < (0 : Int))) (K (⟨none, 0, 0⟩ : Slc) w1) (J4 (()) w1))) := by
    intro hid
    refine ldI_of l8 (cond_of (fun h => hno ?_) fun ha => ?_)
    · rw [h]; simp
    refine ldI_of l9 (cond_of (fun h => hno ?_) fun hb => ?_)
    · rw [h]; simp
    refine ldI_of l10 (cond_of (fun h => hno ?_) fun hc => ?_)
    · rw [h]; simp
    exact hJ4' hid (of_decide_eq_false ha) (of_decide_eq_false hb) (of_decide_eq_false hc)
  refine ldI_of l8 (cond_of (fun h0 => ?_) fun h0 => ?_)
  · have h0 : k.Id = 0 := by simpa using h0
    refine ldI_of l9 (cond_of (fun h1 => hno ?_) fun h1 => ?_)
    · have h1 : k.Number = 0 := by simpa using h1
      rw [h0, h1]
      simp
    · have h1 : ¬ k.Number = 0 := by simpa using h1
      exact tail fun hh => h1 hh.2
  · have h0 : ¬ k.Id = 0 := by simpa using h0
    exact tail fun hh => h0 hh.1
end
end Go.Proofs.YtpadlibcalomnaaDoor
