/- The document's Parse. -/
import Derived.Test.YtpadlibcalomnaaDoorK11
set_option linter.unusedVariables false
namespace Go.Proofs.YtpadlibcalomnaaDoor
open Go.Vc Go.RowKit
set_option maxRecDepth 400000
section
variable {w : World}
/-- What is still to be cut. -/
def restL (bs : List UInt8) (at_ : Nat) : List (List UInt8) := if at_ ≤ bs.length then splitC (bs.drop at_) else []
theorem take_drop_succ {bs : List UInt8} {a i : Nat} {b : UInt8} (h : a ≤ i) (hb : bs[i]? = some b) : (bs.take (i + 1)).drop a = (bs.take i).drop a ++ [b] := by
  have hi : i < bs.length := (List.getElem?_eq_some_iff.1 hb).1
  rw [List.getElem?_eq_getElem hi] at hb
  rw [List.take_succ_eq_append_getElem hi, List.drop_append_of_le_length (by rw [List.length_take]; omega), Option.some.inj hb]
theorem rest_end {bs : List UInt8} {a i : Nat} (ha : a ≤ i) (hi : i ≤ bs.length) (hno : ∀ b ∈ (bs.take i).drop a, b ≠ 44) (hend : i = bs.length ∨ bs[i]? = some 44) : restL bs a = (bs.take i).drop a :: restL bs (i + 1) := by
  unfold restL
  rw [if_pos (by omega)]
  rcases hend with rfl | h
  · rw [if_neg (by omega), List.take_length] at *
    exact splitC_one _ hno
  · have hl : i < bs.length := (List.getElem?_eq_some_iff.1 h).1
    rw [if_pos (by omega)]
    rw [List.getElem?_eq_getElem hl] at h
    have e : bs.drop a = (bs.take i).drop a ++ 44 :: bs.drop (i + 1) := by
      have h2 : bs = bs.take i ++ (44 :: bs.drop (i + 1)) := by
        rw [← Option.some.inj h, ← List.drop_eq_getElem_cons hl, List.take_append_drop]
      conv => lhs; rw [h2]
      rw [List.drop_append_of_le_length (by rw [List.length_take]; omega)]
    rw [e]
    exact splitC_app _ hno _
theorem rParse_spec {b : Slc} {bs : List UInt8} (hrd : Rd E_uint8 w b bs) {K : T_keys_Keys → Int → World → Prop} (hK : ∀ w', Below w.heap.size w w' → K (ofL (parseL bs).1) (parseL bs).2 w') : c_phosphorref19_Parse b w K := by
  refine call_phosphorref19_Parse _ ?_
  unfold sh_phosphorref19_Parse
  have hn := hrd.n
  refine nwZ fun w1 hz1 hB1 hs1 => ?_
  have hend : ∀ {w5 : World} {L : List Int} {e : Int} {vs : List Value}, L.length = 22 → vs = T_keys_Keys.rep.cells (ofL L) → parseL bs = (L, e) → KR w5 w.heap.size zeroL → Below w.heap.size w w5 →
      stK ⟨w.heap.size, 0, none⟩ vs w5 fun w6 => ldS T_keys_Keys.rep ⟨w.heap.size, 0, none⟩ w6 fun r => K r e w6 := by
    intro w5 L e vs hl hvs hp hz hB5
    subst hvs
    refine ret_of hz fun w6 hc6 hs6 => ?_
    have := hK w6 (hB5.trans (hc6.below hB5.size fun i hi e => by omega))
    rw [hp] at this
    exact this
  refine cond_of (fun h => ?_) fun h => ?_
  · have h : (512 : Int) < b.n := of_decide_eq_true h
    exact hend (L := zeroL) rfl rfl (by unfold parseL; rw [if_pos (by omega)]) hz1 hB1
  have h : ¬ (512 : Int) < b.n := of_decide_eq_false h
  refine rFirst_spec fun w3 hB3 => nwZ fun w4 hk4 hB4 hs4 => hk4.stAll fun w5 hk5 hc5 hs5 => ?_
  rw [list22 first_len] at hk5
  have hgl : w.heap.size < w3.heap.size := by have := hB3.size; omega
  have hz5 : KR w5 w.heap.size zeroL := ((hz1.ext hB3).ext hB4).chg hc5 (by omega)
  have hB15 : Below w.heap.size w w5 := ((hB1.trans (hB3.mono (by omega))).trans (hB4.mono (by omega))).trans (hc5.below (by omega) fun i hi e => by omega)
  refine cond_of (fun h0 => ?_) fun h0 => ?_
  · have h0 : (b.n : Int) = 0 := by simpa using h0
    have hnil : bs = [] := List.eq_nil_of_length_eq_zero (by omega)
    refine ldS_of (x := ofL firstL) hk5.cells ?_
    exact hend (L := firstL) rfl rfl (by unfold parseL; rw [if_neg (by omega), if_pos hnil]) hz5 hB15
  have h0 : ¬ (b.n : Int) = 0 := by simpa using h0
  have hne : bs ≠ [] := fun e => by subst e; simp at hn; omega
  have hfold : parseL bs = match (splitC bs).foldlM oneL firstL with | some k => (k, 0) | none => (zeroL, 3) := by unfold parseL; rw [if_neg (by omega), if_neg hne]; cases List.foldlM oneL firstL (splitC bs) <;> rfl
  have hb512 : bs.length ≤ 512 := by omega
  have hrd5 := hrd.ext hB15
  refine loopP_rule (fun (s : Int × Int × Unit) w7 => ∃ (a i : Nat) (L : List Int), s.1 = a ∧ s.2.1 = i ∧ a ≤ i ∧ i ≤ bs.length + 1 ∧ (i ≤ bs.length ∨ a = i) ∧ KR w7 w3.heap.size L ∧ KR w7 w.heap.size zeroL ∧ Rd E_uint8 w7 b bs ∧ Below w.heap.size w w7 ∧ w5.heap.size ≤ w7.heap.size ∧ (∀ x ∈ (bs.take i).drop a, x ≠ 44) ∧ (splitC bs).foldlM oneL firstL = (restL bs a).foldlM oneL L)
    (fun s => bs.length + 1 - s.2.1.toNat) ⟨0, 0, firstL, rfl, rfl, Nat.le_refl _, by omega, .inl (by omega), hk5, hz5, hrd5, hB15, Nat.le_refl _, by simp, by unfold restL; rw [if_pos (by omega), List.drop_zero]⟩ ?_
  rintro ⟨a, i, u⟩ w7 ⟨a, m, L, ha, hi, hle, hm, hor, hk7, hz7, hrd7, hB7, hsz7, hno, hf⟩ I hI
  dsimp only at ha hi ⊢
  subst ha hi
  by_cases hlt : m ≤ bs.length
  case neg =>
    refine cond_f (by simp; omega) ?_
    have e : restL bs a = [] := by unfold restL; rw [if_neg (by omega)]
    rw [e] at hf
    refine ldS_of (x := ofL L) hk7.cells ?_
    exact hend (L := L) hk7.len rfl (by rw [hfold, hf]; rfl) hz7 hB7
  refine cond_t (by simp; omega) (joinP_of fun J2 hJ2 => ?_)
  have hw : IntKind.i64.wrap ((m : Int) + (1 : Int)) = ((m + 1 : Nat) : Int) := by rw [i64_in (by omega)]; simp
  have hmain : (m = bs.length ∨ bs[m]? = some 44) → J2 () w7 := by
    intro hcut
    have hrest := rest_end hle hlt hno hcut
    rw [hrest, List.foldlM_cons] at hf
    refine hJ2 _ _ (ldS_of (x := ofL L) hk7.drew.cells ?_)
    refine hrd7.drew.slK (l := a) (m := m) rfl (.inr rfl) (.inr rfl) hle hlt fun hrdp => ?_
    rw [hw]
    -- after one
    have hstep : ∀ (wa : World) (x : Nat) (X : List Int) (t : T_keys_Keys) (ok : Bool), KR wa x X → w5.heap.size ≤ x → KR wa w3.heap.size L → KR wa w.heap.size zeroL → Rd E_uint8 wa b bs → Below w.heap.size w wa → w5.heap.size ≤ wa.heap.size →
        (ok = true → oneL L ((bs.take m).drop a) = some (toL t)) → (ok = false → oneL L ((bs.take m).drop a) = none) →
        stK ⟨x, 0, none⟩ (T_keys_Keys.rep.cells t) wa fun w12 => cond (!ok)
          (stK ⟨w.heap.size, 0, none⟩ (T_keys_Keys.rep.cells (ofL zeroL)) w12 fun w13 => ldS T_keys_Keys.rep ⟨w.heap.size, 0, none⟩ w13 fun r => K r 3 w13)
          (ldS T_keys_Keys.rep ⟨x, 0, none⟩ w12 fun t48 => stK ⟨w3.heap.size, 0, none⟩ (T_keys_Keys.rep.cells t48) w12 fun w14 => I (((m + 1 : Nat) : Int), ((m + 1 : Nat) : Int), ()) w14) := by
      intro wa x X t ok hx hx5 hk hz hr hB hs h1 h0
      have hrx : ∀ y, b.a = some y → y.block < w.heap.size ∨ bs = [] := by
        intro y hy
        exact .inl (by
          have := hrd.lt (i := 0) (by omega)
          unfold Slc.at_ at this
          rw [hy] at this
          simpa using this)
      refine hx.stAll fun w12 hx12 hc12 hs12 => ?_
      have hk12 := hk.chg hc12 (by omega)
      have hz12 := hz.chg hc12 (by omega)
      have hB12 : Below w.heap.size w w12 := hB.trans (hc12.below hB.size fun i hi e => by omega)
      have hr12 := hr.chg hc12 fun y hy e => by
        rcases hrx y hy with h | h
        · omega
        · exact hne h
      cases ok with
      | false =>
        refine cond_t rfl (hend (L := zeroL) rfl rfl ?_ hz12 hB12)
        rw [hfold, hf, h0 rfl]
        rfl
      | true =>
        refine cond_f rfl (ldS_of (x := t) hx12.cellsT (hk12.stAll fun w14 hk14 hc14 hs14 => ?_))
        refine hI _ _ ⟨m + 1, m + 1, toL t, rfl, rfl, Nat.le_refl _, by omega, .inr rfl, hk14, hz12.chg hc14 (by omega), hr12.chg hc14 fun y hy e => ?_, hB12.trans (hc14.below hB12.size fun i hi e => by omega), by omega, ?_, ?_⟩ (by simp; omega)
        · rcases hrx y hy with h | h
          · omega
          · exact hne h
        · rw [List.drop_of_length_le (by rw [List.length_take]; omega)]
          simp
        · rw [hf, h1 rfl]
          rfl
    have hk7d := hk7.drew
    have hz7d := hz7.drew
    have hr7d := hrd7.drew
    have hB7d : Below w.heap.size w w7.drew := hB7.drew
    have hone : ∀ {wb : World} {J : T_keys_Keys → Bool → World → Prop}, (∀ t ok w', Below wb.heap.size wb w' → (ok = true → oneL L ((bs.take m).drop a) = some (toL t)) → (ok = false → oneL L ((bs.take m).drop a) = none) → J t ok w') → c_phosphorref19_one (ofL L) (strB ((bs.take m).drop a)) wb J := by
      intro wb J hJ
      refine rone_spec _ fun t ok w' hB h1 h0 => hJ t ok w' hB (fun h => ?_) fun h => ?_
      · have := h1 h
        rwa [list22 hk7.len] at this
      · have := h0 h
        rwa [list22 hk7.len] at this
    refine ⟨toStr_spec hrdp ⟨hk7d.cells, ?_, ?_⟩, ?_⟩
    · refine hone fun t ok w10 hB10 h1 h0 => nwZ fun w11 hx11 hB11 hs11 => ⟨((hk7d.ext hB10).ext hB11).cells, ?_⟩
      have hs7 : w7.drew.heap.size = w7.heap.size := rfl
      have h7 := hB7d.size
      have h10 := hB10.size
      have hB710 := hB7d.trans (hB10.mono h7)
      exact hstep w11 _ _ t ok hx11 (by omega) ((hk7d.ext hB10).ext hB11) ((hz7d.ext hB10).ext hB11) ((hr7d.ext hB10).ext hB11) (hB710.trans (hB11.mono hB710.size)) (by omega) h1 h0
    · refine nwZ fun w11 hx11 hB11 hs11 => ⟨(hk7d.ext hB11).cells, ?_⟩
      refine hone fun t ok w10 hB10 h1 h0 => ?_
      have hs7 : w7.drew.heap.size = w7.heap.size := rfl
      have h7 := hB7d.size
      have h10 := hB10.size
      have hB711 := hB7d.trans (hB11.mono h7)
      exact hstep w10 _ _ t ok (hx11.ext hB10) (by omega) ((hk7d.ext hB11).ext hB10) ((hz7d.ext hB11).ext hB10) ((hr7d.ext hB11).ext hB10) (hB711.trans (hB10.mono hB711.size)) (by omega) h1 h0
    · refine nwZ fun w11 hx11 hB11 hs11 => ⟨(hk7d.ext hB11).cells, toStr_spec (hrdp.ext hB11) ⟨(hk7d.ext hB11).cells, ?_⟩⟩
      refine hone fun t ok w10 hB10 h1 h0 => ?_
      have hs7 : w7.drew.heap.size = w7.heap.size := rfl
      have h7 := hB7d.size
      have h10 := hB10.size
      have hB711 := hB7d.trans (hB11.mono h7)
      exact hstep w10 _ _ t ok (hx11.ext hB10) (by omega) ((hk7d.ext hB11).ext hB10) ((hz7d.ext hB11).ext hB10) ((hr7d.ext hB11).ext hB10) (hB711.trans (hB10.mono hB711.size)) (by omega) h1 h0
  by_cases hml : m < bs.length
  · refine cond_t (by simp; omega) ?_
    refine hrd7.ix (k := 1) rfl (by omega) (by omega) fun hcell => ?_
    obtain ⟨x, hx, hx'⟩ := get_of (xs := bs) (k := m) hml
    rw [hx' _] at hcell
    refine ldI_of (x := (x.toNat : Int)) (by simpa using hcell 0 _ rfl) (cond_of (fun h44 => ?_) fun h44 => hmain (.inr ?_))
    · have h44 : ¬ (x.toNat : Int) = 44 := by simpa using h44
      rw [hw]
      refine hI _ _ ⟨a, m + 1, L, rfl, rfl, by omega, by omega, .inl (by omega), hk7, hz7, hrd7, hB7, hsz7, ?_, hf⟩ (by simp; omega)
      rw [take_drop_succ hle hx]
      intro y hy
      rcases List.mem_append.1 hy with hy | hy
      · exact hno y hy
      · rw [List.mem_singleton] at hy
        subst hy
        intro e
        rw [e] at h44
        exact h44 rfl
    · have h44 : (x.toNat : Int) = 44 := by simpa using h44
      rw [hx]
      congr 1
      exact UInt8.toNat_inj.1 (by rw [show (44 : UInt8).toNat = 44 from rfl]; omega)
  · exact cond_f (by simp; omega) (hmain (.inl (by omega)))
end
end Go.Proofs.YtpadlibcalomnaaDoor
