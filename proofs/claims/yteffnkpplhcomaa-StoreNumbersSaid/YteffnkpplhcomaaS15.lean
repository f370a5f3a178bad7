/- StoreNumbers: the law's function. -/
import Derived.Test.YteffnkpplhcomaaS14
set_option linter.unusedVariables false
namespace Go.Proofs.Yteffnkpplhcomaa
open Go.Vc Go.RowKit
set_option maxRecDepth 100000

section
variable {w : World} {g r : Nat} {n drop : Int} {K : Bool → World → Prop}
/-- The last look. -/
def numEnd (g : Nat) (n : Int) (o : Slc) (w15 : World) (K : Bool → World → Prop) : Prop :=
  c_store_Store_Number (some ⟨g, 0, none⟩) n w15 fun t133 t133_1 w20 =>
                      cond (t133_1 == (decide (((o.n : Nat) : Int) > (0 : Int))))
                        (cond (!t133_1)
                           (c_store_Store_Ids (some ⟨g, 0, none⟩) w20 fun t157 w21 =>
                            K (((t157.n : Nat) : Int) == ((o.n : Nat) : Int)) w21)
                           (ixK o (IntKind.i64.wrap (((o.n : Nat) : Int) - (1 : Int))) 1 fun t150 =>
                            ldI .i64 t150 w20 fun t151 =>
                            cond (t133 == t151)
                              (c_store_Store_Ids (some ⟨g, 0, none⟩) w20 fun t157_1 w22 =>
                               K (((t157_1.n : Nat) : Int) == ((o.n : Nat) : Int)) w22)
                              (K false w20)))
                        (K false w20)
theorem numEnd_spec {base j : Nat} {w0 : World} {S : St} {M : List (Int × Im)} {o : Slc} (h : StM w base g r S) (hk : StOk j S) (hj : j ≤ 100) (hM : InOrd S n M) (ho : Rd E_int w o (M.map (·.1))) (hn : n ≠ 0) (hB : Below w0.heap.size w0 w)
    (hK : ∀ w', Below w0.heap.size w0 w' → K true w') : numEnd g n o w K := by
  unfold numEnd
  have hon := ho.n
  rw [List.length_map] at hon
  have hl := hM.perm.length_eq
  have hlen := hk.len
  have ids : ∀ w1, Below w.heap.size w w1 → c_store_Store_Ids (some ⟨g, 0, none⟩) w1 fun t157 w21 => K (((t157.n : Nat) : Int) == ((o.n : Nat) : Int)) w21 := fun w1 hB1 => by
    refine Ids_spec (h.ext hB1) hk (by omega) fun q w2 hq hB2 => ?_
    have := hq.rd.n
    rw [List.length_map] at this
    rw [show ((q.n : Int) == (o.n : Int)) = true from beq_iff_eq.2 (by omega)]
    have hs1 := hB1.size
    exact hK w2 ((hB.trans (hB1.mono hB.size)).trans (hB2.mono (by have := hB.size; omega)))
  refine Number_spec h hk n fun b ok w1 hN hB1 => ?_
  rcases List.eq_nil_or_concat M with rfl | ⟨M0, q, rfl⟩
  · obtain ⟨rfl, rfl⟩ := hN.one hk hM.numNil
    rw [hon]
    refine cond_t rfl (cond_t rfl ?_)
    have := ids w1 hB1
    rwa [hon] at this
  · rw [List.concat_eq_append] at hM ho hon hl
    obtain ⟨rfl, rfl⟩ := hN.one hk (hM.numLast hn)
    have hol : o.n = M0.length + 1 := by rw [hon]; simp
    refine cond_t (by rw [hol, decide_eq_true (by omega)]; rfl) (cond_f rfl ?_)
    rw [wrap64_id (by simp at hl; omega)]
    refine (ho.ext hB1).ix (i := (o.n : Int) - 1) rfl (by omega) (by simp; omega) fun hc => ?_
    have hget : ((M0 ++ [q]).map (·.1))[((o.n : Int) - 1).toNat]'(by simp; omega) = q.1 := by
      have e : ((o.n : Int) - 1).toNat = M0.length := by omega
      simp only [e, List.map_append]
      rw [List.getElem_append_right (by simp)]
      simp
    refine ldI_of (x := q.1) (by rw [← hget]; simpa using hc 0 _ rfl) ?_
    exact cond_t (by simp) (ids w1 hB1)
/-- The low three bits of any number. -/
theorem and7 (x : Int) : ∃ k : Nat, k < 8 ∧ bitsR .and .i64 x (7 : Int) = (k : Int) := by
  refine ⟨(BitVec.ofInt 64 x).toNat % 8, Nat.mod_lt _ (by decide), ?_⟩
  show IntKind.i64.wrap (((BitVec.ofInt 64 x &&& BitVec.ofInt 64 7).toNat : Nat) : Int) = _
  rw [BitVec.toNat_and, show (BitVec.ofInt 64 7).toNat = 2 ^ 3 - 1 from rfl, Nat.and_two_pow_sub_one_eq_mod, wrap_nat .i64 (by show _ < 2 ^ 63; have := Nat.mod_lt (BitVec.ofInt 64 x).toNat (y := 2 ^ 3) (by decide); omega)]
theorem filter_take_succ {O : List Int} {id : Int} {j : Nat} {x : Int} (hx : O[j]? = some x) : (O.take (j + 1)).filter (fun k => k != id) = (O.take j).filter (fun k => k != id) ++ (if x != id then [x] else []) := by
  rw [List.take_add_one, hx, List.filter_append]
  congr 1
  cases h : x != id <;> simp [h]
theorem map_filter_fst (M : List (Int × Im)) (id : Int) : (M.map (·.1)).filter (fun k => k != id) = (M.filter (fun p => p.1 != id)).map (·.1) := by
  rw [List.filter_map]
  rfl
theorem numbers_law {ids : Slc} {xs : List Int} (hx : Rd E_int w ids xs) (hxi : ∀ x ∈ xs, -9223372036854775808 ≤ x ∧ x ≤ 9223372036854775807) (hK : ∀ w', Below w.heap.size w w' → K true w') : c_phosphorlaw21_StoreNumbers n ids drop w K := by
  refine call_phosphorlaw21_StoreNumbers _ _ _ ?_
  unfold sh_phosphorlaw21_StoreNumbers
  refine sknown_spec fun w1 hB1 => cond_f rfl (joinP_of fun J1 hJ1 => ?_)
  have hxn := hx.n
  rw [hxn]
  refine cond_of (fun _ => hK w1 hB1) fun g1 => cond_of (fun _ => hK w1 hB1) fun g2 => cond_of (fun _ => hK w1 hB1) fun g3 => cond_of (fun _ => hK w1 hB1) fun g4 => hJ1 _ _ ?_
  have g1 := of_decide_eq_false g1
  have g2 := of_decide_eq_false g2
  have g3 := of_decide_eq_false g3
  have hs1 := hB1.size
  refine New_spec (base := w1.heap.size) (fun e => by cases e) fun g r w2 he hg hr h2 hB2 => ?_
  refine joinP_of fun J hJ => cond_f rfl (cond_f rfl (hJ _ _ ?_))
  have hs2 := hB2.size
  have hgl := h2.blk.lt
  have hrl := h2.map.lt
  refine mkSl_of sT_sl_uint8 (x0 := (0 : UInt8)) rfl (n := 4) rfl rfl (by rw [by_sl_uint8]; omega) (by simp only [maxLen]; omega) fun w3 ho3 hB3 => ?_
  have hs3 := hB3.size
  refine box_of (t := ty_api_Matrix) (vs := T_api_Matrix.rep.cells ⟨1, 1, ⟨some ⟨w2.heap.size, 0, none⟩, 4, 4⟩⟩) rfl fun w4 hb4 hB4 hs4 => ?_
  have h4 := (h2.ext hB3).ext hB4
  have ho4 := ho3.ext hB4
  have hB04 : Below w.heap.size w w4 := ((hB1.trans (hB2.mono hs1)).trans (hB3.mono (by omega))).trans (hB4.mono (by omega))
  have on : ∀ {k : Nat}, onS g r k → k < w2.heap.size ∧ w.heap.size ≤ k := fun e => by rcases e with e | e <;> omega
  have hn0 : n ≠ 0 := by omega
  refine loopP_rule (Inv := fun (s : Slc × Int × Unit) w8 => ∃ (j : Nat) (S : St) (M : List (Int × Im)), s.2.1 = (j : Int) ∧ j ≤ xs.length ∧ StM w8 w1.heap.size g r S ∧ StOk j S ∧ S.quota = 1048576 ∧ InOrd S n M ∧ Own E_int w8 w4.heap.size s.1 (M.map (·.1)) ∧ Blk w8 w3.heap.size ty_api_Matrix (T_api_Matrix.rep.cells ⟨1, 1, ⟨some ⟨w2.heap.size, 0, none⟩, 4, 4⟩⟩) ∧ Own E_uint8 w8 w2.heap.size ⟨some ⟨w2.heap.size, 0, none⟩, 4, 4⟩ (List.replicate 4 (0 : UInt8)) ∧ Below w.heap.size w w8 ∧ w4.heap.size ≤ w8.heap.size)
    (μ := fun s => xs.length - s.2.1.toNat) ⟨0, _, [], rfl, Nat.zero_le _, h4, new_ok he, rfl, ⟨.refl _, .nil, fun p hp => by cases hp⟩, Own.nil _ _ _, hb4, ho4, hB04, Nat.le_refl _⟩ ?_
  rintro ⟨o, i, ⟨⟩⟩ w8 ⟨j, S, M, hij, hjl, h8, hk8, hq8, hM8, ho8, hb8, hP8, hB8, hs8⟩ I hI
  have hij : i = (j : Int) := hij
  subst hij
  have ho8 : Own E_int w8 w4.heap.size o (M.map (·.1)) := ho8
  refine cond_of (fun hlt => ?_) fun hge => ?_
  · have hlt : j < xs.length := by have := of_decide_eq_true hlt; omega
    refine (hx.ext hB8).ix (i := (j : Int)) rfl (by omega) (by omega) fun hc => ?_
    have hxj := hxi xs[j] (List.getElem_mem _)
    refine ldI_of (x := xs[((j : Int)).toNat]) (by simpa using hc 0 _ rfl) ?_
    obtain ⟨id, hid, hid1⟩ : ∃ id : Int, IntKind.i64.wrap ((1 : Int) + bitsR .and .i64 (xs[((j : Int)).toNat]'(by simpa using hlt)) (7 : Int)) = id ∧ 1 ≤ id ∧ id ≤ 8 := by
      have hb : ∃ k : Nat, k < 8 ∧ bitsR .and .i64 (xs[((j : Int)).toNat]'(by simpa using hlt)) (7 : Int) = (k : Int) := and7 _
      obtain ⟨k, hk, e⟩ := hb
      rw [e, wrap64_id (by omega)]
      exact ⟨_, rfl, by omega, by omega⟩
    rw [hid]
    have hlenO := ho8.rd.n
    rw [List.length_map] at hlenO
    refine ldS_of (x := (⟨1, 1, ⟨some ⟨w2.heap.size, 0, none⟩, 4, 4⟩⟩ : T_api_Matrix)) hb8.cells ?_
    have hput := hM8.put hk8 (by omega) hq8 (id := id) (by omega)
    have hokP : putErr S id n 1 1 4 = 0 := by
      unfold putErr
      rw [show rightM 1 1 4 = true from rfl, show isNum id = true from by unfold isNum; rw [decide_eq_true (by omega), decide_eq_true (by omega)]; rfl, show isNum n = true from by unfold isNum; rw [decide_eq_true (by omega), decide_eq_true (by omega)]; rfl]
      rw [if_pos (by decide), if_neg (by rw [hq8]; decide)]
    refine Put_spec (bs := List.replicate 4 (0 : UInt8)) h8 hk8 (by omega) (by omega) hP8.rd (fun _ a ha e => by cases ha; have := (on e).1; simp at this) (fun w' e => absurd hokP e) fun P q w9 e0 h9 hk9 ho9 hc9 => ?_
    have hpp := hput P (bs := List.replicate 4 (0 : UInt8)) rfl
    have hpl : (List.replicate 4 (0 : UInt8)).length = 4 := rfl
    rw [hpl] at h9 hk9 ho9
    rw [hpp.1] at h9 hk9
    have hs9 := hc9.size
    have hb9 := hb8.chg hc9 fun e => by have := (on e).1; omega
    have hP9 := hP8.chg hc9 fun k hk e => by have := (on e).1; have := (hP8.lt k hk).1; omega
    have hO9 := ho8.chg hc9 fun k hk e => by have := (on e).1; have := (ho8.lt k hk).1; omega
    have hB9 : Below w.heap.size w w9 := hB8.trans (hc9.below (by have := hB8.size; omega) fun i hi e => by have := (on e).2; omega)
    have hMl := hM8.perm.length_eq
    have hkl := hk8.len
    refine loopP_rule (Inv := fun (s : Slc × Int × Unit) w10 => ∃ k : Nat, s.2.1 = (k : Int) ∧ k ≤ M.length ∧ Own E_int w10 w9.heap.size s.1 (((M.map (·.1)).take k).filter (fun x => x != id)) ∧ Below w9.heap.size w9 w10) (μ := fun s => M.length - s.2.1.toNat) ⟨0, rfl, Nat.zero_le _, by simpa using Own.nil E_int w9 w9.heap.size, Below.refl _ _⟩ ?_
    rintro ⟨rest, i2, ⟨⟩⟩ w10 ⟨k, hik, hkM, hrest, hB10⟩ I4 hI4
    have hik : i2 = (k : Int) := hik
    subst hik
    have hrest : Own E_int w10 w9.heap.size rest (((M.map (·.1)).take k).filter (fun x => x != id)) := hrest
    have hs10 := hB10.size
    have hrl : (((M.map (·.1)).take k).filter (fun x => x != id)).length ≤ 1000 := by
      have h1 := List.length_filter_le (fun x => x != id) ((M.map (·.1)).take k)
      have h2 := List.length_take_le k (M.map (·.1))
      omega
    rw [hlenO]
    refine cond_of (fun hkl2 => ?_) fun hkg => ?_
    · have hkl2 : k < M.length := by have := of_decide_eq_true hkl2; omega
      have hO10 := hO9.ext hB10
      have hkO : k < (M.map (·.1)).length := by simpa using hkl2
      have hkO' : ((k : Int)).toNat < (M.map (·.1)).length := by omega
      have hOk : (M.map (·.1))[k]? = some (M.map (·.1))[k] := List.getElem?_eq_getElem _
      have hft := filter_take_succ (id := id) hOk
      refine hO10.rd.ix (i := (k : Int)) rfl (by omega) (by simp; omega) fun hd => ?_
      have hcell : ∀ {w' : World}, cellsAt w' (o.at_ E_int.k ((k : Int)).toNat) (E_int.cells (M.map (·.1))[((k : Int)).toNat]) → w'.cell? (o.at_ E_int.k ((k : Int)).toNat) = some (.int .i64 (M.map (·.1))[k]) := fun h => by simpa using h 0 _ rfl
      refine ldI_of (x := (M.map (·.1))[k]) (hcell hd) ?_
      rw [wrap64_id (x := (k : Int) + 1) (by omega)]
      refine cond_of (fun hne => ?_) fun heq => ?_
      · refine hO10.rd.ix (i := (k : Int)) rfl (by omega) (by simp; omega) fun hd => ?_
        refine ldI_of (x := (M.map (·.1))[k]) (hcell hd) ?_
        refine apI1 hrest (by omega) (by omega) fun q2 w12 hq2 hc12 _ => ?_
        rw [hne] at hft
        have hft : ((M.map (·.1)).take (k + 1)).filter (fun x => x != id) = ((M.map (·.1)).take k).filter (fun x => x != id) ++ [(M.map (·.1))[k]] := hft
        refine hI4 _ _ ⟨k + 1, by simp, by omega, ?_, hB10.trans (hc12.below (by omega) fun i hi e => by have := (hrest.lt i e).1; omega)⟩ (by show M.length - ((k : Int) + 1).toNat < M.length - ((k : Int)).toNat; omega)
        show Own E_int w12 w9.heap.size q2 _
        rw [hft]
        exact hq2
      · rw [heq] at hft
        have hft : ((M.map (·.1)).take (k + 1)).filter (fun x => x != id) = ((M.map (·.1)).take k).filter (fun x => x != id) ++ [] := hft
        refine hI4 _ _ ⟨k + 1, by simp, by omega, ?_, hB10⟩ (by show M.length - ((k : Int) + 1).toNat < M.length - ((k : Int)).toNat; omega)
        show Own E_int w10 w9.heap.size rest _
        rw [hft, List.append_nil]
        exact hrest
    · have hkg : ¬ _ := of_decide_eq_false hkg
      have hkM2 : k = M.length := by omega
      subst hkM2
      rw [List.take_of_length_le (by simp)] at hrest hrl
      refine apI1 hrest (by omega) (by omega) fun q2 w12 hq2 hc12 _ => ?_
      have hB12 : Below w9.heap.size w9 w12 := hB10.trans (hc12.below (by omega) fun i hi e => by have := (hrest.lt i e).1; omega)
      rw [wrap64_id (x := (j : Int) + 1) (by omega)]
      have hs12 := hB12.size
      refine hI _ _ ⟨j + 1, _, _, by simp, by omega, h9.ext hB12, hk9, hpp.2.2, hpp.2.1, ?_, hb9.ext hB12, hP9.ext hB12, hB9.trans (hB12.mono hB9.size), by omega⟩ (by show xs.length - ((j : Int) + 1).toNat < xs.length - ((j : Int)).toNat; omega)
      show Own E_int w12 w4.heap.size q2 _
      rw [List.map_append, ← map_filter_fst]
      exact hq2.base (by omega)
  · have hge : ¬ _ := of_decide_eq_false hge
    refine loopP_rule (Inv := fun (s : Slc × Int × Unit) w15 => ∃ (k : Nat) (S : St) (M : List (Int × Im)), s.2.1 = (k : Int) ∧ k + M.length ≤ 100 ∧ StM w15 w1.heap.size g r S ∧ StOk j S ∧ InOrd S n M ∧ Rd E_int w15 s.1 (M.map (·.1)) ∧ (∀ a, s.1.a = some a → w4.heap.size ≤ a.block) ∧ Below w.heap.size w w15 ∧ w4.heap.size ≤ w15.heap.size) (μ := fun s => 1000 - s.2.1.toNat)
      ⟨0, S, M, rfl, by have := hM8.perm.length_eq; have := hk8.len; omega, h8, hk8, hM8, ho8.rd, fun a ha => (ho8.lt _ (slk.2 ⟨a, ha, rfl⟩)).1, hB8, hs8⟩ ?_
    clear h8 hk8 hM8 ho8 hb8 hP8 hB8 hs8 hq8 hI
    rintro ⟨o2, i2, ⟨⟩⟩ w15 ⟨k, S, M, hik, hkM, h15, hk15, hM15, ho15, hob, hB15, hs15⟩ I5 hI5
    have hik : i2 = (k : Int) := hik
    subst hik
    have ho15 : Rd E_int w15 o2 (M.map (·.1)) := ho15
    have hob : ∀ a, o2.a = some a → w4.heap.size ≤ a.block := hob
    refine joinP_of fun J6 hJ6 => ?_
    have hend := numEnd_spec (n := n) (w0 := w) h15 hk15 (by omega) hM15 ho15 hn0 hB15 hK
    refine cond_of (fun _ => ?_) fun _ => hend
    refine cond_of (fun hpos => ?_) fun _ => hend
    have hpos : (o2.n : Int) > 0 := of_decide_eq_true hpos
    refine hJ6 _ _ ?_
    have hon := ho15.n
    rw [List.length_map] at hon
    rcases List.eq_nil_or_concat M with rfl | ⟨M0, q, rfl⟩
    · simp at hon; omega
    rw [List.concat_eq_append] at hM15 ho15 hon hkM
    have hol : o2.n = M0.length + 1 := by rw [hon]; simp
    have hkM : k + (M0.length + 1) ≤ 100 := by simpa using hkM
    refine Number_spec h15 hk15 n fun b ok w17 hN hB17 => ?_
    obtain ⟨rfl, rfl⟩ := hN.one hk15 (hM15.numLast hn0)
    have ho17 := ho15.ext hB17
    have h17 := h15.ext hB17
    refine joinP_of fun J7 hJ7 => cond_f rfl ?_
    rw [wrap64_id (x := (o2.n : Int) - 1) (by omega)]
    refine ho17.ix (i := (o2.n : Int) - 1) rfl (by omega) (by simp; omega) fun hc => ?_
    have hget : ((M0 ++ [q]).map (·.1))[((o2.n : Int) - 1).toNat]'(by simp; omega) = q.1 := by
      have e : ((o2.n : Int) - 1).toNat = M0.length := by omega
      simp only [e, List.map_append]
      rw [List.getElem_append_right (by simp)]
      simp
    refine ldI_of (x := q.1) (by rw [← hget]; simpa using hc 0 _ rfl) (cond_f (by simp) ?_)
    have hdr := hM15.drop hk15
    refine Drop_spec h17 hk15 q.1 fun w19 h19 hc19 => ?_
    rw [hdr.2]
    refine cond_f rfl (hJ7 _ _ ?_)
    have ho19 : Rd E_int w19 o2 ((M0 ++ [q]).map (·.1)) := ho17.chg hc19 fun a ha e => by have := hob a ha; have := (on e).1; omega
    have hs17 := hB17.size
    have hs19 := hc19.size
    refine ho19.slK (l := 0) (m := M0.length) rfl (.inl ⟨rfl, rfl⟩) (.inr (by show some (IntKind.i64.wrap ((o2.n : Int) - 1)) = _; rw [wrap64_id (by omega)]; congr 1; omega)) (Nat.zero_le _) (by simp) fun hr => ?_
    rw [wrap64_id (by omega)]
    have hB19 : Below w.heap.size w w19 := (hB15.trans (hB17.mono hB15.size)).trans (hc19.below (by have := hB15.size; omega) fun i hi e => by have := (on e).2; omega)
    refine hI5 _ _ ⟨k + 1, S.drop q.1, M0, by simp, by omega, h19, drop_ok hk15 q.1, hdr.1, ?_, fun a ha => ?_, hB19, by omega⟩ (by show 1000 - ((k : Int) + 1).toNat < 1000 - ((k : Int)).toNat; omega)
    · have e : (((M0 ++ [q]).map (·.1)).take M0.length).drop 0 = M0.map (·.1) := by
        rw [List.drop_zero, List.map_append, List.take_append_of_le_length (by simp), List.take_of_length_le (by simp)]
      rw [e] at hr
      exact hr
    · obtain ⟨b, hb, hab⟩ := cut_block ha
      rw [hab]
      exact hob b hb
end
end Go.Proofs.Yteffnkpplhcomaa
