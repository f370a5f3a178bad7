/- What every law of the loader runs first; the law LoadCuts. The law LoadCuts. -/
import Derived.Test.YtmagnpcgpinmcaaGreatP3
set_option linter.unusedVariables false
set_option linter.unusedVariables false
namespace Go.Proofs.YtmagnpcgpinmcaaGreat
open Go.Vc Go.RowKit
set_option maxRecDepth 400000
def firstK : T_keys_Keys := ⟨116, 100, 0, 97, 0, 32, 0, 0, 0, 0, 0, 0, 0, 0, 0, 0, 0, 0, 0, 0, 0, 0⟩
def key1 : T_keys_Keys := ⟨116, 100, 0, 97, 0, 24, 1, 1, 0, 0, 0, 0, 0, 0, 0, 0, 0, 0, 0, 0, 0, 0⟩
def cfg1 : LdK := ⟨key1, 4, 3⟩
def ldAQ : LdS := ⟨⟨[0, 16], 0, false, false⟩, [], 0, false⟩
def ldID : LdS := ⟨b64N, [1, 2, 3], 0, false⟩
theorem known_aq : addL cfg1 ld0 [65, 81] = ldAQ := by rfl
theorem known_id : addL cfg1 ldAQ [73, 68] = ldID := by rfl
theorem known_res : resL cfg1 ldID = (0, 1, 1, [1, 2, 3, 255]) := by
  have e : endL cfg1 (shutL ldID) = shutL ldID := by rfl
  unfold resL
  rw [if_neg (by decide), e, if_neg (by decide)]
  unfold lastL
  rw [if_neg (by decide)]
  unfold madeL
  rw [if_neg (by decide), if_neg (by decide), if_neg (by decide)]
  rfl
section
variable {w : World}
theorem First_spec {K : T_keys_Keys → World → Prop} (hK : ∀ w', Below w.heap.size w w' → K firstK w') : c_keys_First w K := by
  refine call_keys_First ?_
  unfold sh_keys_First
  refine nw_blk fun w1 h1 hB1 hs1 => ?_
  exact res_of (r := T_keys_Keys.rep) (x := firstK) h1 rfl rfl fun w2 hc2 hs2 => hK w2 (below_one hB1 hc2 (Nat.le_refl _))
theorem known20_spec {K : Bool → World → Prop} (hK : ∀ w', Below w.heap.size w w' → K true w') : c_phosphorlaw20_known w K := by
  refine call_phosphorlaw20_known ?_
  unfold sh_phosphorlaw20_known
  refine First_spec fun w1 hB1 => nw_blk fun w2 h2 hB2 hs2 => all_of h2 rfl fun w3 h3 hc3 hs3 => ?_
  have hB3 : Below w.heap.size w w3 := below_one (below_t hB1 hB2) hc3 hB1.size
  rw [add_mk]
  refine stK_blk h3 (by simp [T_keys_Keys.rep]) fun w4 h4 hg4 hs4 => ?_
  rw [add_mk]
  refine stK_blk h4 (by simp [T_keys_Keys.rep, putL]) fun w5 h5 hg5 hs5 => ?_
  rw [add_mk]
  refine stK_blk h5 (by simp [T_keys_Keys.rep, putL]) fun w6 h6 hg6 hs6 => ?_
  have hc6 : Chg (fun k => k = w1.heap.size) w3 w6 := ((Chg.gg hg4).trans (Chg.gg hg5) fun i _ hi => hi).trans (Chg.gg hg6) fun i _ hi => hi
  have hB6 : Below w.heap.size w w6 := below_one hB3 hc6 hB1.size
  have h6 : Blk w6 w1.heap.size ty_keys_Keys (T_keys_Keys.rep.cells key1) := h6
  refine ldS_of (r := T_keys_Keys.rep) (x := key1) h6.cells ?_
  have hnp : newP key1 4 = 0 := by rfl
  refine lNew_spec (fun hne => absurd hnp hne) fun _ g gd w7 hA hB7 => ?_
  have hA : LdA w7 w6.heap.size g gd cfg1 ld0 (fun i => i = g ∨ i = gd) := hA
  have hB07 := below_t hB6 hB7
  refine joinP_of fun J1 hJ1 => ?_
  refine cond_f rfl (cond_f rfl (hJ1 _ _ ?_))
  refine lits_bytes (bs := [65, 81]) rfl rfl (by simp) fun t1 w8 ht1 htb1 hB8 hs8 => ?_
  have hA8 := hA.ext hB8
  have hs67 := hB7.size
  have hs78 := hB8.size
  refine ladd_spec hA8 (by omega) rfl ht1 (fun k hk _ hS => by
    rw [htb1] at hk
    cases hk
    have := (hA.lt _ hS).2
    omega) (by simp [ld0]) fun S9 w9 hA9 ho9 hl9 hS9 hc9 => ?_
  rw [known_aq] at hA9 ho9 ⊢
  have hs9 := hc9.size
  refine lits_bytes (bs := [73, 68]) rfl rfl (by simp) fun t2 w10 ht2 htb2 hB10 hs10 => ?_
  have hA10 := hA9.ext hB10
  have hs10' := hB10.size
  refine ladd_spec hA10 (by omega) rfl ht2 (fun k hk _ hS => by
    rw [htb2] at hk
    cases hk
    have := (hA9.lt _ hS).2
    omega) (by simp [ldAQ]) fun S11 w11 hA11 ho11 hl11 hS11 hc11 => ?_
  rw [known_id] at hA11 ho11 ⊢
  have hs11 := hc11.size
  refine lheld_spec hA11 ?_
  have hC : CfgOk cfg1 := ⟨hnp, rfl, by decide⟩
  refine lEnd_spec hA11 (by omega) hC (by simp [ldID]) fun m S12 w12 hA12 hm hmS hS12 hc12 => ?_
  rw [known_res] at hm ⊢
  have hs12 := hc12.size
  -- below w all is as it was
  have hbel : Below w.heap.size w w12 := by
    have b8 := below_t hB07 hB8
    have hsw := hB07.size
    have hw6 := hB6.size
    have b9 := b8.trans (hc9.below (by omega) fun i hi hS => by have := (hA.lt i hS).1; omega)
    have b10 := b9.trans (hB10.mono (by omega))
    have b11 := b10.trans (hc11.below (by omega) fun i hi hS => by
      rcases hS9 i hS with h | h
      · have := (hA.lt i h).1; omega
      · omega)
    exact b11.trans (hc12.below (by omega) fun i hi hS => by
      rcases hS11 i hS with h | h
      · rcases hS9 i h with h | h
        · have := (hA.lt i h).1; omega
        · omega
      · omega)
  obtain ⟨hmW, hmH, hmP⟩ := hm
  refine nw_blk fun w13 h13 hB13 hs13 => all_of h13 rfl fun w14 h14 hc14 hs14 => ?_
  have hB14 : Below w12.heap.size w12 w14 := below_one hB13 hc14 (Nat.le_refl _)
  refine cond_t rfl (cond_t rfl ?_)
  refine ldSl_of (x := m.P) (h14.cells 2 _ rfl) ⟨_, _, run_bytes_strB (hmP.rd.ext hB14), ?_⟩
  dsimp only
  rw [strB_toList, show (⟨#[1, 2, 3, 255]⟩ : ByteArray).toList = [1, 2, 3, 255] by rw [ByteArray.toList_eq]]
  exact hK w14 (below_t hbel hB14)
end
end Go.Proofs.YtmagnpcgpinmcaaGreat

set_option linter.unusedVariables false
namespace Go.Proofs.YtmagnpcgpinmcaaGreat
open Go.Vc Go.RowKit
set_option maxRecDepth 400000
section
variable {w : World}
theorem newP_cfg {k : T_keys_Keys} {room : Int} (h : newP k room = 0) (hr : room ≤ 100000) : CfgOk ⟨k, room.toNat, (needsP k).2⟩ := by
  have h0 : ¬ (room < 0 ∨ room > 1073741824) := fun hh => by unfold newP at h; rw [if_pos hh] at h; cases h
  refine ⟨?_, rfl, ?_⟩
  · show newP k ((room.toNat : Nat) : Int) = 0
    rw [show ((room.toNat : Nat) : Int) = room by omega]
    exact h
  · show room.toNat ≤ 100000
    omega
theorem loadcuts_law {k : T_keys_Keys} {text cuts : Slc} {ts : List UInt8} {cs : List Int} {K : Bool → World → Prop} (ht : Rd E_uint8 w text ts) (htl : ∀ k, text.blk = some k → k < w.heap.size) (hcu : Rd E_int w cuts cs) (hK : ∀ w', Below w.heap.size w w' → K true w') : c_phosphorlaw20_LoadCuts k text cuts w K := by
  refine call_phosphorlaw20_LoadCuts _ _ _ ?_
  unfold sh_phosphorlaw20_LoadCuts
  refine nw_blk fun w1 h1 hB1 hs1 => known20_spec fun w2 hB2 => cond_f rfl (joinP_of fun J1 hJ1 => ?_)
  have hB02 := below_t hB1 hB2
  have h2 := h1.ext hB2
  rw [ht.n, hcu.n]
  refine cond_of (fun _ => hK w2 hB02) fun c1 => cond_of (fun _ => hK w2 hB02) fun c2 => hJ1 _ _ ?_
  have c1 := of_decide_eq_false c1
  have c2 := of_decide_eq_false c2
  refine ldS_of (r := T_keys_Keys.rep) (x := k) h2.cells ?_
  by_cases hnp : newP k 8192 = 0
  · refine lNew_spec (fun hne => absurd hnp hne) fun _ g gd w3 hA hB3 => ?_
    have hB03 := below_t hB02 hB3
    refine ldS_of (r := T_keys_Keys.rep) (x := k) (h2.ext hB3).cells ?_
    refine lNew_spec (fun hne => absurd hnp hne) fun _ g2 gd2 w4 hA2 hB4 => ?_
    have hB04 := below_t hB03 hB4
    obtain ⟨C, hCe⟩ : ∃ C : LdK, C = ⟨k, (8192 : Int).toNat, (needsP k).2⟩ := ⟨_, rfl⟩
    have hC : CfgOk C := by rw [hCe]; exact newP_cfg hnp (by decide)
    rw [← hCe] at hA hA2
    refine cond_f rfl (joinP_of fun J2 hJ2 => cond_f rfl (cond_f rfl (hJ2 _ _ ?_)))
    have hA4 := hA.ext hB4
    have s02 := hB02.size
    have s3 := hB3.size
    have s4 := hB4.size
    refine ladd_spec hA4 (by omega) rfl (ht.ext hB04) (fun i hi _ hS => by have := htl i hi; have := (hA.lt i hS).1; omega) (by simp [ld0]; omega) fun Sa w5 hA5 ho5 hl5 hS5 hc5 => ?_
    have s5 := hc5.size
    have hB05 : Below w.heap.size w w5 := hB04.trans (hc5.below (by omega) fun i hi hS => by have := (hA.lt i hS).1; omega)
    have hA25 : LdA w5 w3.heap.size g2 gd2 C ld0 (fun i => i = g2 ∨ i = gd2) := hA2.chg hc5 fun i hi hS => by
      have h1 := (hA2.lt i hi).1
      have h2 := (hA.lt i hS).2
      omega
    have hdis : ∀ i, Sa i → ¬ (i = g2 ∨ i = gd2) := fun i hi h => by
      rcases hS5 i hi with h5 | h5
      · have h1 := (hA2.lt i h).1
        have h2 := (hA.lt i h5).2
        omega
      · have := (hA2.lt i h).2
        omega
    refine loopP_rule (fun (st : Slc × Int × Unit) w6 => ∃ (m i : Nat) (Sb : Nat → Prop), st.2.1 = i ∧ m ≤ ts.length ∧ (m < ts.length → i ≤ cs.length) ∧ i ≤ cs.length + 1 ∧ Rd E_uint8 w6 st.1 (ts.drop m) ∧ (∀ k, st.1.blk = some k → k < w.heap.size) ∧ LdA w6 w2.heap.size g gd C (addL C ld0 ts) Sa ∧ LdA w6 w3.heap.size g2 gd2 C (addL C ld0 (ts.take m)) Sb ∧ (addL C ld0 (ts.take m)).over = false ∧ (addL C ld0 (ts.take m)).b.length ≤ 3 * m ∧ (∀ i, Sa i → ¬ Sb i) ∧ Below w.heap.size w w6 ∧ w5.heap.size ≤ w6.heap.size) (fun st => (cs.length - st.2.1.toNat) + min 1 st.1.n)
      ⟨0, 0, _, rfl, by omega, by omega, by omega, by rw [List.drop_zero]; exact ht.ext hB05, htl, hA5, hA25, rfl, by simp [addL, ld0], hdis, hB05, Nat.le_refl _⟩ ?_
    rintro ⟨rest, i', u⟩ w6 ⟨m, i, Sb, rfl, hm, hmi, hi, hrd, hrb, hA6, hA26, hob, hlb, hdis6, hB06, hs56⟩ I hI
    dsimp only at hrd hrb ⊢
    have hrn : rest.n = ts.length - m := by rw [hrd.n, List.length_drop]
    rw [hrn]
    refine cond_of (fun e => ?_) fun e => ?_
    · have e := of_decide_eq_true e
      have hml : m < ts.length := by omega
      have hil := hmi hml
      refine joinP_of fun J4 hJ4 => ?_
      have step : ∀ v : Nat, v ≤ ts.length - m → (i < cs.length ∨ v = ts.length - m) → J4 ((v : Int), ()) w6 := by
        intro v hv hor
        refine hJ4 _ _ ?_
        refine hrd.slK (l := 0) (m := v) rfl (.inl ⟨rfl, rfl⟩) (.inr rfl) (by omega) (by rw [List.length_drop]; omega) fun hp1 => ?_
        rw [List.drop_zero] at hp1
        have hb1 : ∀ k, (⟨cut rest.a 0 rest.c E_uint8.k, v - 0, rest.c - 0⟩ : Slc).blk = some k → k < w.heap.size := fun k hk => by
          obtain ⟨a, ha, rfl⟩ := slk.1 hk
          obtain ⟨a', ha', e⟩ := cut_block (show cut rest.a 0 rest.c E_uint8.k = some a from ha)
          rw [e]
          exact hrb a'.block (slk.2 ⟨a', ha', rfl⟩)
        have hpl : ((ts.drop m).take v).length ≤ ts.length := by rw [List.length_take, List.length_drop]; omega
        have hsz6 := hB06.size
        refine ladd_spec hA26 (by omega) hob hp1 (fun i hi _ hS => by have := hb1 i hi; have := (hA26.lt i hS).1; omega) (by omega) fun Sb' w7 hA27 hob7 hlb7 hS7 hc7 => ?_
        have hv2 : ((ts.drop m).take v).length = v := by rw [List.length_take, List.length_drop]; omega
        have htk : ts.take (m + v) = ts.take m ++ (ts.drop m).take v := by rw [List.take_add]
        rw [hv2] at hlb7
        rw [← addL_append, ← htk] at hA27 hob7 hlb7
        have hrd7 : Rd E_uint8 w7 rest (ts.drop m) := hrd.chg hc7 fun a ha hS => by
          have h1 := hrb a.block (slk.2 ⟨a, ha, rfl⟩)
          have h2 := (hA26.lt _ hS).1
          omega
        refine hrd7.slK (l := v) (m := (ts.drop m).length) rfl (.inr rfl) (.inl ⟨rfl, rfl⟩) (by rw [List.length_drop]; omega) (Nat.le_refl _) fun hp2 => ?_
        rw [List.take_length, List.drop_drop] at hp2
        have hs7 := hc7.size
        rw [wrap64_id (by omega)]
        refine hI _ _ ⟨m + v, i + 1, Sb', rfl, by omega, fun h => ?_, by omega, hp2, fun k hk => ?_, hA6.chg hc7 fun j hj hS => hdis6 j hj hS, hA27, hob7, by omega, fun j hj hS => ?_, hB06.trans (hc7.below (by omega) fun i hi hS => by have := (hA26.lt i hS).1; omega), by omega⟩ ?_
        · rcases hor with h2 | h2
          · omega
          · omega
        · obtain ⟨a, ha, rfl⟩ := slk.1 hk
          obtain ⟨a', ha', e⟩ := cut_block (show cut rest.a v rest.c E_uint8.k = some a from ha)
          rw [e]
          exact hrb a'.block (slk.2 ⟨a', ha', rfl⟩)
        · rcases hS7 j hS with h | h
          · exact hdis6 j hj h
          · have := (hA6.lt j hj).2; omega
        · dsimp only
          rw [List.length_drop, hrn]
          rcases hor with h2 | h2
          · omega
          · omega
      refine cond_of (fun e2 => ?_) fun e2 => ?_
      · have e2 := of_decide_eq_true e2
        have hil2 : i < cs.length := by have := hcu.n; omega
        have hcu6 := hcu.ext hB06
        obtain ⟨c, hc⟩ : ∃ c, cs[i]? = some c := ⟨_, List.getElem?_eq_getElem hil2⟩
        refine hcu6.ix (i := (i : Int)) rfl (by omega) (by omega) fun _ => ?_
        refine ldI_of (x := c) (by
          have := hcu6.at_ i c hc 0 _ rfl
          have h2 : w6.cell? (cuts.at_ E_int.k i) = some (.int .i64 c) := by simpa using this
          rw [Int.toNat_natCast]
          exact h2) ?_
        have en : IntKind.i64.wrap (((ts.length - m : Nat) : Int) + (1 : Int)) = ((ts.length - m + 1 : Nat) : Int) := by rw [wrap64_id (by omega)]; rfl
        rw [en]
        refine ⟨by omega, ?_⟩
        have hb1 : c.tmod ((ts.length - m + 1 : Nat) : Int) < ((ts.length - m + 1 : Nat) : Int) := Int.tmod_lt_of_pos _ (by omega)
        have hb2 : -((ts.length - m + 1 : Nat) : Int) < c.tmod ((ts.length - m + 1 : Nat) : Int) := Int.lt_tmod_of_pos _ (by omega)
        generalize c.tmod ((ts.length - m + 1 : Nat) : Int) = r at hb1 hb2 ⊢
        refine cond_of (fun e3 => ?_) fun e3 => ?_
        · have e3 := of_decide_eq_true e3
          rw [wrap64_id (by omega), show (0 : Int) - r = (((0 - r).toNat : Nat) : Int) by omega]
          exact step _ (by omega) (.inl hil2)
        · have e3 := of_decide_eq_false e3
          rw [show r = ((r.toNat : Nat) : Int) by omega]
          exact step _ (by omega) (.inl hil2)
      · exact step _ (Nat.le_refl _) (.inr rfl)
    · have e := of_decide_eq_false e
      obtain rfl : m = ts.length := by omega
      rw [List.take_length] at hA26 hob hlb
      refine lheld_spec hA6 (lheld_spec hA26 (cond_f (by simp) ?_))
      have hsz6 := hB06.size
      refine lEnd_spec hA6 (by omega) hC (by omega) fun x Sa' w7 hA7 hx hxS hSa7 hc7 => ?_
      have hs7 := hc7.size
      have hA27 := hA26.chg hc7 fun j hj hS => hdis6 j hS hj
      refine nw_blk fun w8 h8 hB8 hs8 => all_of h8 rfl fun w9 h9 hc9 hs9 => ?_
      have hB79 : Below w7.heap.size w7 w9 := below_one hB8 hc9 (Nat.le_refl _)
      have hA29 := hA27.ext hB79
      have hs79 := hB79.size
      refine lEnd_spec hA29 (by omega) hC (by omega) fun y Sb' w10 hA10 hy hyS hSb7 hc10 => ?_
      obtain ⟨hxW, hxH, hxP⟩ := hx
      obtain ⟨hyW, hyH, hyP⟩ := hy
      have hB07 : Below w.heap.size w w7 := hB06.trans (hc7.below (by omega) fun i hi hS => by have := (hA6.lt i hS).1; omega)
      have hB010 : Below w.heap.size w w10 := (below_t hB07 hB79).trans (hc10.below (by omega) fun i hi hS => by have := (hA29.lt i hS).1; omega)
      have hxP10 := (hxP.ext hB79).chg hc10 fun j hj hS => by
        have h1 := (hxP.lt j hj).1
        have h2 := (hA26.lt j hS).2
        omega
      have h910 : Blk w10 w7.heap.size ty_api_Matrix (T_api_Matrix.rep.cells x) := h9.chg hc10 fun hS => by have := (hA27.lt _ hS).2; omega
      refine nw_blk fun w11 h11 hB11 hs11 => all_of h11 rfl fun w12 h12 hc12 hs12 => ?_
      have hB12 : Below w10.heap.size w10 w12 := below_one hB11 hc12 (Nat.le_refl _)
      have h912 := h910.ext hB12
      rw [beq_self_eq_true]
      refine cond_t rfl ?_
      refine ldI_of (x := x.W) (h912.cells 0 _ rfl) (ldI_of (x := y.W) (h12.cells 0 _ rfl) (cond_t (by rw [hxW, hyW]; exact beq_self_eq_true _) ?_))
      refine ldI_of (x := x.H) (h912.cells 1 _ rfl) (ldI_of (x := y.H) (h12.cells 1 _ rfl) (cond_t (by rw [hxH, hyH]; exact beq_self_eq_true _) ?_))
      refine ldSl_of (x := x.P) (h912.cells 2 _ rfl) ⟨_, _, run_bytes_strB (hxP10.rd.ext hB12), ?_⟩
      refine ldSl_of (x := y.P) (h12.cells 2 _ rfl) ⟨_, _, run_bytes_strB (hyP.rd.ext hB12), ?_⟩
      dsimp only
      rw [beq_self_eq_true]
      exact hK w12 (below_t hB010 hB12)
  · refine lNew_spec (fun _ w3 hB3 => ?_) fun h0 => absurd h0 hnp
    refine ldS_of (r := T_keys_Keys.rep) (x := k) (h2.ext hB3).cells ?_
    refine lNew_spec (fun _ w4 hB4 => ?_) fun h0 => absurd h0 hnp
    refine cond_t (bneI_t (by omega)) (cond_t rfl (cond_t rfl ?_))
    rw [beq_self_eq_true]
    exact hK w4 (below_t (below_t hB02 hB3) hB4)
end
end Go.Proofs.YtmagnpcgpinmcaaGreat
