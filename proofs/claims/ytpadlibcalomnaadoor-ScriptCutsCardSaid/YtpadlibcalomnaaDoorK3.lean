/- The program's graphics keys: a key and its value; a text cut at commas; Parse. -/
import Derived.Test.YtpadlibcalomnaaDoorK2
set_option linter.unusedVariables false
namespace Go.Proofs.YtpadlibcalomnaaDoor
open Go.Vc Go.RowKit
set_option maxRecDepth 400000

theorem letter_or (c : UInt8) : (decide (bitsR .or .u8 (c.toNat : Int) 32 ≥ 97) && decide (bitsR .or .u8 (c.toNat : Int) 32 ≤ 122)) = isLetter c := by
  refine all256 (P := fun c => (decide (bitsR .or .u8 (c.toNat : Int) 32 ≥ 97) && decide (bitsR .or .u8 (c.toNat : Int) 32 ≤ 122)) = isLetter c) (fun n hn => ?_) c
  have e : bitsR .or .u8 (((UInt8.ofNat n).toNat : Nat) : Int) ((32 : Nat) : Int) = (((UInt8.ofNat n).toNat ||| 32 : Nat) : Int) := bits_or .u8 (by show _ < 2 ^ 8; exact (UInt8.ofNat n).toNat_lt) (by decide)
  have e' : bitsR .or .u8 (((UInt8.ofNat n).toNat : Nat) : Int) 32 = (((UInt8.ofNat n).toNat ||| 32 : Nat) : Int) := e
  rw [e']
  have key : ∀ n, n < 256 → (decide ((((UInt8.ofNat n).toNat ||| 32 : Nat) : Int) ≥ 97) && decide ((((UInt8.ofNat n).toNat ||| 32 : Nat) : Int) ≤ 122)) = isLetter (UInt8.ofNat n) := by decide +kernel
  exact key n hn
section
variable {w : World} {g : Nat} {L : List Int}
theorem KM.ext {w' : World} (h : KM w g L) (hb : Below w.heap.size w w') : KM w' g L := ⟨h.blk.ext hb, h.len⟩
theorem KM.st (h : KM w g L) {j : Nat} (hj : j < 22) {v : Int} {u : Value} (hu : u = cellK j v) {K : World → Prop} (hK : ∀ w', KM w' g (L.set j v) → Chg (fun k => k = g) w w' → w'.heap.size = w.heap.size → K w') : stK ⟨g, j, none⟩ [u] w K := by
  subst hu
  refine stK_blk h.blk (by rw [cellsK_len, h.len, List.length_singleton]; omega) fun w' hb hg hs => hK w' ⟨?_, by rw [List.length_set]; exact h.len⟩ (Chg.gg hg) hs
  have : putL (cellsK L) j [cellK j v] = cellsK (L.set j v) := by
    have := cellsF_set L 0 j v
    rw [Nat.zero_add] at this
    exact this
  rwa [this] at hb
theorem KM.cell (h : KM w g L) {j : Nat} (hj : j < 22) : w.cell? ⟨g, j, none⟩ = some (cellK j (L[j]?.getD 0)) := h.blk.cell j (cellsK_get h.len hj)
theorem isNone_map {α β : Type} (o : Option α) (f : α → β) : (o.map f).isNone = o.isNone := by cases o <;> rfl
theorem numPos_lt {j : Nat} (h : j < 17) : numPos j < 22 ∧ ¬ numPos j < 4 := by unfold numPos; split <;> omega
theorem KM.drew (h : KM w g L) : KM w.drew g L := ⟨h.blk.drew, h.len⟩
theorem one_spec (h : KM w g L) (s : List UInt8) {K : Bool → World → Prop} (hK : ∀ b w' L', KM w' g L' → Chg (fun k => k = g) w w' → (b = true → oneL L s = some L') → (b = false → oneL L s = none) → K b w') : c_keys_Keys_one (some ⟨g, 0, none⟩) (strB s) w K := by
  refine call_keys_Keys_one _ _ ?_
  unfold sh_keys_Keys_one
  have hno : ∀ {w' : World} {L' : List Int}, KM w' g L' → Chg (fun k => k = g) w w' → oneL L s = none → K false w' := fun hk hc hn => hK false _ _ hk hc (fun e => by cases e) fun _ => hn
  have hyes : ∀ {w' : World} {L' : List Int}, KM w' g L' → Chg (fun k => k = g) w w' → oneL L s = some L' → K true w' := fun hk hc hn => hK true _ _ hk hc (fun _ => hn) fun e => by cases e
  have c0 : Chg (fun k => k = g) w w := Chg.refl _ _
  refine joinP_of fun J1 hJ1 => ?_
  rcases s with _ | ⟨c, _ | ⟨e, v⟩⟩
  · exact cond_t (by simp [strB_size]) (hno h c0 rfl)
  · exact cond_t (by simp [strB_size]) (hno h c0 rfl)
  · refine cond_f (by simp [strB_size]; omega) ?_
    refine ixS_of (k := 1) (b := e) rfl rfl ?_
    by_cases he : e = 61
    case neg =>
      refine cond_t ?_ (hno h c0 ?_)
      · have : e.toNat ≠ 61 := fun hh => he (UInt8.toNat_inj.1 hh)
        simp
        omega
      · unfold oneL
        dsimp only
        rw [if_pos (.inl he)]
    subst he
    refine cond_f (by decide) (hJ1 _ _ ?_)
    refine ixS_of (k := 0) (b := c) rfl rfl ?_
    refine slS_of (l := 2) (h := (c :: 61 :: v).length) (.inr rfl) (.inl ⟨rfl, rfl⟩) (by simp) (Nat.le_refl _) ?_
    rw [List.take_length]
    show joinP _ _
    have hv : (c :: (61 : UInt8) :: v).drop 2 = v := rfl
    rw [hv]
    have hd := h.drew
    have cd : Chg (fun k => k = g) w w.drew := Chg.of_ext (Below.refl _ w).drew
    refine joinP_of fun J2 hJ2 => ?_
    have hj2 : J2 (isLetter c, ()) w.drew → cond (decide (bitsR .or .u8 (c.toNat : Int) (32 : Int) ≥ (97 : Int))) (J2 ((decide (bitsR .or .u8 (c.toNat : Int) (32 : Int) ≤ (122 : Int))), ()) w.drew) (J2 (false, ()) w.drew) := by
      intro hj
      rw [← letter_or] at hj
      refine cond_of (fun ha => ?_) fun ha => ?_
      · rw [ha, Bool.true_and] at hj; exact hj
      · rw [ha, Bool.false_and] at hj; exact hj
    refine hj2 (hJ2 _ _ ?_)
    dsimp only
    cases hl : isLetter c with
    | false =>
      refine cond_t rfl (hno hd cd ?_)
      unfold oneL
      dsimp only
      rw [if_pos (.inr hl)]
    | true =>
      have hone : oneL L (c :: 61 :: v) = if c = 122 then (depthL v).map fun m => L.set 20 m
          else match signIx c with
            | some j => sgnL L j v
            | none => match numIx c with
              | some j => (readN v).map fun n => L.set j (n : Int)
              | none => some L := by
        unfold oneL
        dsimp only
        rw [if_neg (by rw [hl]; simp)]
        rfl
      refine cond_f rfl ?_
      by_cases hz : c = 122
      · subst hz
        rw [if_pos rfl] at hone
        refine cond_t (by decide) (depth_spec v fun n ok h1 h0 => onPtr_a ?_)
        rw [add_mk, Nat.zero_add]
        refine hd.st (j := 20) (by omega) (v := n) rfl fun w4 hk4 hc4 hs4 => ?_
        have hc := cd.trans hc4 fun i _ hi => hi
        cases ok with
        | true => exact hyes hk4 hc (by rw [hone, h1 rfl]; rfl)
        | false => exact hno hk4 hc (by rw [hone, h0 rfl]; rfl)
      rw [if_neg hz] at hone
      refine cond_f ?_ ?_
      · have : c.toNat ≠ 122 := fun hh => hz (UInt8.toNat_inj.1 hh)
        simp
        omega
      refine sign_spec c rfl fun w5 hB5 => ?_
      rw [isNone_map]
      have h5 := hd.ext hB5
      have c5 := cd.trans (Chg.of_ext (S := fun k => k = g) hB5) fun i _ hi => hi
      cases hs : signIx c with
      | some j =>
        rw [hs] at hone
        have hj4 : j < 4 := by
          rcases sign_facts c with hh | ⟨j', _, hh, e⟩
          · unfold signIx at hs; rw [if_pos hh] at hs; cases hs
          · rw [hs] at e; cases e; exact hh
        refine cond_t rfl (joinP_of fun J3 hJ3 => ?_)
        rcases v with _ | ⟨b, _ | ⟨b', v'⟩⟩
        · exact cond_f (by simp [strB_size]) (hJ3 _ _ (cond_f rfl (hno h5 c5 hone)))
        rotate_left
        · exact cond_f (by simp [strB_size]; omega) (hJ3 _ _ (cond_f rfl (hno h5 c5 hone)))
        · refine cond_t (by simp [strB_size]) (ixS_of (k := 0) (b := b) rfl rfl (visible_spec b rfl (hJ3 _ _ ?_)))
          cases hvb : visB b with
          | false =>
            refine cond_f rfl (hno h5 c5 ?_)
            rw [hone]
            show sgnL L j [b] = _
            unfold sgnL
            dsimp only
            rw [hvb]
            rfl
          | true =>
            refine cond_t rfl (ixS_of (k := 0) (b := b) rfl rfl ?_)
            refine sign_spec c rfl fun w7 hB7 => ?_
            rw [hs]
            have h7 := h5.drew.ext hB7
            have c7 := (c5.trans (Chg.of_ext (S := fun k => k = g) (Below.refl _ w5).drew) fun i _ hi => hi).trans (Chg.of_ext (S := fun k => k = g) hB7) fun i _ hi => hi
            refine onPtr_a (h7.st (j := j) (by omega) (v := (b.toNat : Int)) (by unfold cellK; rw [if_pos hj4]) fun w8 hk8 hc8 hs8 => ?_)
            refine hyes hk8 (c7.trans hc8 fun i _ hi => hi) ?_
            rw [hone]
            show sgnL L j [b] = _
            unfold sgnL
            dsimp only
            rw [hvb]
            rfl
      | none =>
        rw [hs] at hone
        refine cond_f rfl ?_
        refine number_spec c rfl fun w10 hB10 => ?_
        rw [isNone_map]
        have h10 := h5.ext hB10
        have c10 := c5.trans (Chg.of_ext (S := fun k => k = g) hB10) fun i _ hi => hi
        cases hn : numIx c with
        | none =>
          rw [hn] at hone
          exact cond_f rfl (hyes h10 c10 hone)
        | some j =>
          rw [hn] at hone
          have hj : j < 22 ∧ ¬ j < 4 := by
            rcases num_facts c with hh | ⟨j', _, hh, e⟩
            · unfold numIx at hn; rw [if_pos hh] at hn; cases hn
            · rw [hn] at e; cases e; exact numPos_lt hh
          refine cond_t rfl (number_spec c rfl fun w11 hB11 => ?_)
          rw [hn]
          have h11 := h10.ext hB11
          have c11 := c10.trans (Chg.of_ext (S := fun k => k = g) hB11) fun i _ hi => hi
          refine read_spec v fun n ok hnn h1 h0 => onPtr_a (h11.st (j := j) hj.1 (v := (n : Int)) (by unfold cellK; rw [if_neg hj.2]) fun w13 hk13 hc13 hs13 => ?_)
          have hc := c11.trans hc13 fun i _ hi => hi
          cases ok with
          | true => exact hyes hk13 hc (by rw [hone]; dsimp only; rw [h1 rfl]; rfl)
          | false => exact hno hk13 hc (by rw [hone]; dsimp only; rw [h0 rfl]; rfl)
end
/-! ### Cut at commas -/
theorem indexByte_split : ∀ (s : List UInt8), (Lib.indexByte s 44 = -1 ∧ splitC s = [s] ∧ Lib.countByte s 44 = 0) ∨ ∃ (x r : List UInt8), s = x ++ 44 :: r ∧ Lib.indexByte s 44 = x.length ∧ splitC s = x :: splitC r ∧ Lib.countByte s 44 = Lib.countByte r 44 + 1
  | [] => .inl ⟨rfl, rfl, rfl⟩
  | b :: s => by
    by_cases hb : b = 44
    · subst hb
      refine .inr ⟨[], s, rfl, by simp [Lib.indexByte], by simp [splitC], by simp [Lib.countByte]⟩
    · rcases indexByte_split s with ⟨h1, h2, h3⟩ | ⟨x, r, h0, h1, h2, h3⟩
      · refine .inl ⟨by simp [Lib.indexByte, hb, h1], by rw [splitC, if_neg hb, h2], ?_⟩
        unfold Lib.countByte at h3 ⊢
        rw [List.count_cons_of_ne hb]
        exact h3
      · refine .inr ⟨b :: x, r, by rw [h0]; rfl, ?_, by rw [splitC, if_neg hb, h2], ?_⟩
        · have : ¬ (x.length : Int) = -1 := by omega
          simp [Lib.indexByte, hb, h1, this]
        · unfold Lib.countByte at h3 ⊢
          rw [List.count_cons_of_ne hb]
          exact h3
theorem splitC_len (s : List UInt8) : (splitC s).length = Lib.countByte s 44 + 1 := by
  have : ∀ n (s : List UInt8), s.length = n → (splitC s).length = Lib.countByte s 44 + 1 := by
    intro n
    induction n using Nat.strongRecOn with
    | _ n ih =>
      intro s hs
      rcases indexByte_split s with ⟨h1, h2, h3⟩ | ⟨x, r, h0, h1, h2, h3⟩
      · rw [h2, h3]; rfl
      · rw [h2, h3, List.length_cons, ih r.length (by rw [← hs, h0]; simp; omega) r rfl]
  exact this _ s rfl
section
variable {w : World}
theorem Index_one (s : List UInt8) (c : UInt8) {K : Int → World → Prop} (hK : K (Lib.indexByte s c) w) : c_strings_Index (strB s) (strB [c]) w K := by
  refine Calls.mono (Tryd.strings_Index_one (strB s) c w) ?_
  rintro e w' ⟨rfl, rfl⟩
  exact ⟨_, rfl, hK⟩
theorem Count_one (s : List UInt8) (c : UInt8) {K : Int → World → Prop} (hK : K (Lib.countByte s c) w) : c_strings_Count (strB s) (strB [c]) w K := by
  refine Calls.mono (Tryd.strings_Count_one (strB s) c w) ?_
  rintro e w' ⟨rfl, rfl⟩
  exact ⟨_, rfl, hK⟩
theorem Split_spec (s : List UInt8) (hl : s.length ≤ 1000000) {K : Slc → World → Prop} (hK : ∀ q w', Rd E_string w' q ((splitC s).map strB) → Below w.heap.size w w' → (∀ k, q.blk = some k → w.heap.size ≤ k) → K q w') : c_strings_Split (strB s) (strB [44]) w K := by
  refine call_strings_Split _ _ ?_
  unfold sh_strings_Split
  refine call_strings_genSplit _ _ _ _ ?_
  unfold sh_strings_genSplit
  refine cond_f (by decide) (cond_f (by rw [strB_toList]; simp [ByteArray.toList_eq]) ?_)
  refine joinP_of fun J1 hJ1 => ?_
  refine cond_t (by decide) (Count_one s 44 (hJ1 _ _ ?_))
  dsimp only
  have hn := splitC_len s
  have hcle : Lib.countByte s 44 ≤ s.length := List.count_le_length
  obtain ⟨n, hnn⟩ : ∃ n, Lib.countByte s 44 + 1 = n := ⟨_, rfl⟩
  rw [i64_in (x := ((Lib.countByte s 44 : Nat) : Int) + 1) (by omega), strB_size, i64_in (x := ((s.length : Nat) : Int) + 1) (by omega), show ((Lib.countByte s 44 : Nat) : Int) + 1 = (n : Int) by omega]
  have emin : (if ((s.length : Nat) : Int) + 1 < (n : Int) then ((s.length : Nat) : Int) + 1 else (n : Int)) = (n : Int) := if_neg (by omega)
  rw [emin]
  refine mkSl_of (E := E_string) sT_sl_string (x0 := ByteArray.empty) (by kernel_rfl) (n := n) rfl rfl (by rw [by_sl_string]; omega) (by unfold maxLen; omega) fun w3 ho hB3 => ?_
  rw [i64_in (x := (n : Int) - 1) (by omega)]
  generalize hq : (⟨some ⟨w.heap.size, 0, none⟩, n, n⟩ : Slc) = q at ho ⊢
  refine joinP_of fun J2 hJ2 => ?_
  have hqa : q.a = some ⟨w.heap.size, 0, none⟩ := by rw [← hq]
  have hqn : q.n = n := by rw [← hq]
  have hqc : q.c = n := by rw [← hq]
  refine loopP_rule (fun (st : ByteArray × Int × Unit) w6 => ∃ (k : Nat) (rest : List UInt8), st.2.1 = k ∧ st.1 = strB rest ∧ k < n ∧ Lib.countByte rest 44 + 1 + k = n ∧ rest.length ≤ s.length ∧ Own E_string w6 w.heap.size q (((splitC s).map strB).take k ++ List.replicate (n - k) ByteArray.empty) ∧ (splitC s).drop k = splitC rest ∧ Below w.heap.size w w6)
    (fun st => n - st.2.1.toNat) ⟨0, s, rfl, rfl, by omega, by omega, Nat.le_refl _, by simpa using ho, rfl, hB3⟩ ?_
  rintro ⟨t, i, u⟩ w6 ⟨k, rest, hi, ht, hk, hcnt, hrl, ho6, hdrop, hB6⟩ I hI
  dsimp only at hi ht ⊢
  subst hi ht
  have hsome := ho6.rd.some_ (by simp; omega)
  have hlen6 : (((splitC s).map strB).take k ++ List.replicate (n - k) ByteArray.empty).length = n := by simp; omega
  have hset : ∀ (x : List UInt8) (r : List (List UInt8)), (splitC s).drop k = x :: r → (((splitC s).map strB).take k ++ List.replicate (n - k) ByteArray.empty).set k (strB x) = ((splitC s).map strB).take (k + 1) ++ List.replicate (n - (k + 1)) ByteArray.empty := by
    intro x r hx
    have hl2 : (((splitC s).map strB).take k).length = k := by simp; omega
    rw [List.set_append_right _ _ (by omega), hl2, Nat.sub_self, show n - k = (n - (k + 1)) + 1 by omega, List.replicate_succ, List.set_cons_zero, List.take_add_one, List.append_assoc]
    congr 1
    have : ((splitC s).map strB)[k]? = some (strB x) := by
      rw [List.getElem?_map]
      have : (splitC s)[k]? = some x := by
        have := congrArg (fun l => l[0]?) hx
        simpa using this
      rw [this]
      rfl
    rw [this]
    rfl
  have hixx : (((splitC s).map strB).take k ++ List.replicate (n - k) ByteArray.empty)[k]? = some ByteArray.empty := by
    have hl2 : (((splitC s).map strB).take k).length = k := by simp; omega
    rw [List.getElem?_append_right (by omega), hl2, Nat.sub_self, List.getElem?_replicate, if_pos (by omega)]
  by_cases hlt : k + 1 < n
  · refine cond_t (by simp; omega) (Index_one rest 44 ?_)
    rcases indexByte_split rest with ⟨h1, h2, h3⟩ | ⟨x, r, h0, h1, h2, h3⟩
    · omega
    · have hxl : x.length + 1 + r.length = rest.length := by rw [h0]; simp; omega
      rw [h1]
      refine cond_f (by simp) ?_
      rw [i64_in (by omega)]
      refine slS_of (l := 0) (h := x.length) (.inl ⟨rfl, rfl⟩) (.inr (by simp)) (by omega) (by rw [h0]; simp) ?_
      have ex : (rest.take x.length).drop 0 = x := by rw [h0]; simp
      rw [ex]
      refine ixK_at (by rw [hqa]; rfl) (by omega) (by omega) ?_
      rw [Int.toNat_natCast]
      refine ho6.st0 (E := E_string) (i := k) (x := ByteArray.empty) (y := strB x) hixx rfl fun w8 ho8 hg8 hs8 => ?_
      rw [hset x (splitC r) (by rw [hdrop, h2])] at ho8
      refine slS_of (l := x.length + 1) (h := rest.length) (.inr ?_) (.inl ⟨rfl, rfl⟩) (by rw [h0]; simp) (Nat.le_refl _) ?_
      · rw [strB_size, show (([44] : List UInt8).length : Int) = 1 from rfl, i64_in (by omega)]
        simp
      have er : (rest.take rest.length).drop (x.length + 1) = r := by rw [List.take_length, h0]; simp
      rw [er, i64_in (by omega)]
      have hrlen : r.length < rest.length := by rw [h0]; simp; omega
      have hqb : q.blk = some w.heap.size := by unfold Slc.blk; rw [hqa]; rfl
      refine hI _ _ ⟨k + 1, r, by simp, rfl, hlt, by omega, by omega, ho8, ?_, hB6.grown hg8 hB6.size fun j hj => by rw [hqb] at hj; cases hj; exact Nat.le_refl _⟩ (by simp; omega)
      have : (splitC s).drop (k + 1) = ((splitC s).drop k).drop 1 := by rw [List.drop_drop]
      rw [this, hdrop, h2]
      rfl
  · obtain rfl : n = k + 1 := by omega
    refine cond_f (by simp) (hJ2 _ _ ?_)
    dsimp only
    have hlast : splitC rest = [rest] := by
      rcases indexByte_split rest with ⟨h1, h2, h3⟩ | ⟨x, r, h0, h1, h2, h3⟩
      · exact h2
      · omega
    refine ixK_at (by rw [hqa]; rfl) (by omega) (by omega) ?_
    rw [Int.toNat_natCast]
    refine ho6.st0 (E := E_string) (i := k) (x := ByteArray.empty) (y := strB rest) hixx rfl fun w8 ho8 hg8 hs8 => ?_
    rw [hset rest [] (by rw [hdrop, hlast]), Nat.sub_self, List.replicate_zero, List.append_nil, List.take_of_length_le (by simp; omega)] at ho8
    rw [i64_in (by omega)]
    have hqb : q.blk = some w.heap.size := by unfold Slc.blk; rw [hqa]; rfl
    have hl8 : ((splitC s).map strB).length = k + 1 := by simp; omega
    refine ho8.rd.slK (E := E_string) (k := 1) (l := 0) (m := k + 1) rfl (.inl ⟨rfl, rfl⟩) (.inr (by simp)) (by omega) (by omega) fun hrd => ?_
    rw [List.take_of_length_le (by omega), List.drop_zero] at hrd
    refine hK _ w8 hrd (hB6.grown hg8 hB6.size fun j hj => by rw [hqb] at hj; cases hj; exact Nat.le_refl _) fun j hj => ?_
    obtain ⟨a, ha, rfl⟩ := slk.1 hj
    obtain ⟨b, hb, e⟩ := cut_block ha
    rw [hqa] at hb
    cases hb
    rw [e]
    exact Nat.le_refl _
end
end Go.Proofs.YtpadlibcalomnaaDoor
