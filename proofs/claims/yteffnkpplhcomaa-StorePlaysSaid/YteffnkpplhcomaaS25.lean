/- What both stores tell is held against each other. -/
import Derived.Test.YteffnkpplhcomaaS24
set_option linter.unusedVariables false
namespace Go.Proofs.Yteffnkpplhcomaa
open Go.Vc Go.RowKit
set_option maxRecDepth 100000

section
variable {w w' : World} {base base' g g' r n : Nat} {q : Slc} {S S' : St}
theorem ints_true {a b : Slc} {xs : List Int} (ha : Rd E_int w a xs) (hb : Rd E_int w b xs) {K : Bool → World → Prop} (hK : ∀ w', Below w.heap.size w w' → K true w') : c_phosphorlaw21_ints a b w K := by
  refine call_phosphorlaw21_ints _ _ ?_
  unfold sh_phosphorlaw21_ints
  have han := ha.n
  have hbn := hb.n
  have hm : xs.length ≤ maxLen := by have h1 := ha.nc; have h2 := ha.cm; omega
  unfold maxLen at hm
  rw [han, hbn]
  refine cond_f (by simp) ?_
  refine loopP_rule (Inv := fun (s : Int × Unit) w1 => ∃ j : Nat, s.1 = (j : Int) ∧ j ≤ xs.length ∧ Below w.heap.size w w1) (μ := fun s => xs.length - s.1.toNat) ⟨0, rfl, Nat.zero_le _, Below.refl _ _⟩ ?_
  rintro ⟨i, ⟨⟩⟩ w1 ⟨j, hij, hj, hB⟩ I hI
  have hij : i = (j : Int) := hij
  subst hij
  refine cond_of (fun hd => ?_) fun _ => hK w1 hB
  have hd : (j : Int) < (xs.length : Int) := of_decide_eq_true hd
  have hjl : j < xs.length := by omega
  have hBd := hB.drew
  refine (ha.ext hBd).ix (i := (j : Int)) rfl (by omega) (by omega) fun hc => ?_
  refine ldI_of (x := xs[j]) (by simpa using hc 0 _ rfl) ?_
  refine (hb.ext hBd).ix (i := (j : Int)) rfl (by omega) (by omega) fun hc => ?_
  refine ldI_of (x := xs[j]) (by simpa using hc 0 _ rfl) ?_
  refine cond_f (by simp) ?_
  rw [wrap64_id (by omega)]
  exact hI _ _ ⟨j + 1, by simp, by omega, hBd⟩ (by show xs.length - ((j : Int) + 1).toNat < xs.length - ((j : Int)).toNat; omega)
theorem of7_spec {m : T_api_Matrix} {K : T_phosphorref7_Matrix → World → Prop} (hK : ∀ w', Below w.heap.size w w' → K ⟨m.W, m.H, m.P⟩ w') : c_phosphorlaw7_Of m w K := by
  refine call_phosphorlaw7_Of _ ?_
  unfold sh_phosphorlaw7_Of
  refine nw_blk fun w1 hb1 hB1 hs1 => nw_blk fun w2 hb2 hB2 hs2 => ?_
  have hb12 := hb1.ext hB2
  refine ldI_of (x := m.W) (hb12.cells 0 _ rfl) (ldI_of (x := m.H) (hb12.cells 1 _ rfl) (ldSl_of (x := m.P) (hb12.cells 2 _ rfl) ?_))
  refine stK_blk hb2 (by simp) fun w3 hb3 hg3 hs3 => ?_
  have hb3 : Blk w3 w1.heap.size ty_phosphorref7_Matrix (T_phosphorref7_Matrix.rep.cells ⟨m.W, m.H, m.P⟩) := hb3
  refine ldS_of (x := (⟨m.W, m.H, m.P⟩ : T_phosphorref7_Matrix)) hb3.cells (hK w3 ?_)
  exact (hB1.trans (hB2.mono (by omega))).grown hg3 (by omega) fun k hk => by cases hk; omega
theorem alike_true {a : T_api_Matrix} {b : T_phosphorref7_Matrix} {bs : List UInt8} (ha : Rd E_uint8 w a.P bs) (hb : Rd E_uint8 w b.P bs) (h1 : a.W = b.W) (h2 : a.H = b.H) {K : Bool → World → Prop} (hK : ∀ w', Below w.heap.size w w' → K true w') : c_phosphorlaw7_Alike a b w K := by
  refine call_phosphorlaw7_Alike _ _ ?_
  unfold sh_phosphorlaw7_Alike
  refine nw_blk fun w1 hb1 hB1 hs1 => nw_blk fun w2 hb2 hB2 hs2 => ?_
  have hBd : Below w.heap.size w w2.drew := (hB1.trans (hB2.mono (by omega))).drew
  refine ldS_of (x := a) (hb1.ext hB2).drew.cells (ldS_of (x := b) hb2.drew.cells ?_)
  have hb2d := hb2.drew
  generalize w2.drew = wd at hBd hb2d
  refine of7_spec fun w3 hB3 => ⟨(hb2d.ext hB3).cells, ?_⟩
  have hB03 : Below w.heap.size w w3 := hBd.trans (hB3.mono hBd.size)
  refine call_phosphorref7_Same _ _ ?_
  unfold sh_phosphorref7_Same
  refine nw_blk fun w4 hb4 hB4 hs4 => nw_blk fun w5 hb5 hB5 hs5 => ?_
  have hb45 := hb4.ext hB5
  have hs03 := hB03.size
  have hB05 : Below w.heap.size w w5 := (hB03.trans (hB4.mono hs03)).trans (hB5.mono (by omega))
  refine ldI_of (x := a.W) (hb45.cells 0 _ rfl) (ldI_of (x := b.W) (hb5.cells 0 _ rfl) (cond_t (by simp [h1]) ?_))
  refine ldI_of (x := a.H) (hb45.cells 1 _ rfl) (ldI_of (x := b.H) (hb5.cells 1 _ rfl) (cond_t (by simp [h2]) ?_))
  refine ldSl_of (x := a.P) (hb45.cells 2 _ rfl) ⟨_, w5, run_bytes_strB (ha.ext hB05), ?_⟩
  refine ldSl_of (x := b.P) (hb5.cells 2 _ rfl) ⟨_, w5, run_bytes_strB (hb.ext hB05), ?_⟩
  simp only [beq_self_eq_true]
  exact hK w5 hB05
theorem RefM.bsRd (h : RefM w base g q S) (hs : Srt S.L) (id : Int) : Rd E_uint8 w (vOf S.L id).m.P (bsOf S.L id) := by
  unfold vOf bsOf
  cases hl : lookL S.L id with
  | none => exact Rd.nil _ _
  | some x => exact (h.img _ ((lookL_some hs).1 hl)).rd
theorem looks_true (h : StM w base g r S) (h' : RefM w base' g' q S') (hk : StOk n S) (hk' : StOk n S') (hn : n ≤ 1000) (hsim : Sim S S') (id num : Int) {K : Bool → World → Prop} (hK : ∀ w', Below w.heap.size w w' → K true w') :
    c_phosphorlaw21_Looks (some ⟨g, 0, none⟩) (some ⟨g', 0, none⟩) id num w K := by
  refine call_phosphorlaw21_Looks _ _ _ _ ?_
  unfold sh_phosphorlaw21_Looks
  have hl := hk.len
  have hl' := hk'.len
  have hst := hsim.stamp id
  have hso := hsim.some id
  refine Get_spec h hk id fun P w1 hP hB1 => ?_
  refine box_of (t := ty_api_Matrix) (vs := T_api_Matrix.rep.cells ⟨(vOf S.L id).m.W, (vOf S.L id).m.H, P⟩) rfl fun w2 hb2 hB2 hs2 => ?_
  have hB02 : Below w.heap.size w w2 := hB1.trans (hB2.mono hB1.size)
  refine rGet_spec (h'.ext hB02) (by omega) id fun w3 hB3 => ?_
  refine box_of (t := ty_phosphorref7_Matrix) (vs := T_phosphorref7_Matrix.rep.cells ⟨(vOf S'.L id).m.W, (vOf S'.L id).m.H, (vOf S'.L id).m.P⟩) rfl fun w4 hb4 hB4 hs4 => ?_
  have hB24 : Below w2.heap.size w2 w4 := hB3.trans (hB4.mono hB3.size)
  have hB04 := hB02.trans (hB24.mono hB02.size)
  refine Number_spec (h.ext hB04) hk num fun b ok w5 hN hB5 => ?_
  have hB05 := hB04.trans (hB5.mono hB04.size)
  refine rNumber_spec (h'.ext hB05) (by omega) num fun b' ok' w6 hN' hB6 => ?_
  have hB06 := hB05.trans (hB6.mono hB05.size)
  obtain ⟨rfl, rfl⟩ := hN.one hk (hsim.num hN')
  refine Stamp_spec (h.ext hB06) id fun w7 hB7 => ?_
  have hB07 := hB06.trans (hB7.mono hB06.size)
  refine rStamp_spec (h'.ext hB07) (by omega) id ?_
  have hB47 : Below w4.heap.size w4 w7 := (hB5.trans (hB6.mono hB5.size)).trans (hB7.mono (hB5.trans (hB6.mono hB5.size)).size)
  have hb27 := ((hb2.ext hB24).ext hB47).drew
  have hb47 := (hb4.ext hB47).drew
  have hB27 : Below w2.heap.size w2 w7 := hB24.trans (hB47.mono hB24.size)
  have hP7 := ((hP.ext hB2).ext hB27).drew
  have hB07d := hB07.drew
  refine ldS_of (x := (⟨(vOf S.L id).m.W, (vOf S.L id).m.H, P⟩ : T_api_Matrix)) hb27.cells ?_
  refine ldS_of (x := (⟨(vOf S'.L id).m.W, (vOf S'.L id).m.H, (vOf S'.L id).m.P⟩ : T_phosphorref7_Matrix)) hb47.cells ?_
  refine alike_true (bs := bsOf S.L id) hP7.rd (by rw [hst.2.2.2]; exact (h'.ext hB07d).bsRd hk'.srt id) hst.2.1 hst.2.2.1 fun w8 hB8 => ?_
  have hB08 := hB07d.trans (hB8.mono hB07d.size)
  refine cond_t rfl (cond_t (by simp [hso]) (cond_t (by simp) (cond_t (by simp) (cond_t ?_ (cond_t (by simp [hso]) ?_)))))
  · have := hst.1
    unfold vOf at this ⊢
    simp [this]
  refine Ids_spec (h.ext hB08) hk hn fun o1 w9 ho1 hB9 => ?_
  have hB09 := hB08.trans (hB9.mono hB08.size)
  refine rIds_spec (h'.ext hB09) (by omega) fun o2 w10 ho2 hB10 => ?_
  have hB010 := hB09.trans (hB10.mono hB09.size)
  refine ints_true (ho1.ext hB10).rd (by rw [hsim.keys]; exact ho2.rd) fun w11 hB11 => ?_
  have hB011 := hB010.trans (hB11.mono hB010.size)
  refine cond_t rfl (Used_spec (h.ext hB011) (rUsed_spec (h'.ext hB011) hk' hn (cond_t (by simp [hsim.quota.2.2]) ?_)))
  refine onPtr_some' (ldI_of (x := S'.res) ((h'.ext hB011).blk.cells 1 _ rfl) (Reserved_spec (h.ext hB011) ⟨(h'.ext hB011).blk.cells 1 _ rfl, ?_⟩))
  rw [hsim.quota.2.1]
  simp only [beq_self_eq_true]
  exact hK w11 hB011
end
end Go.Proofs.Yteffnkpplhcomaa
