/- StorePlays: the law's function. -/
import Derived.Test.YteffnkpplhcomaaS25
import Derived.Test.YteffnkpplhcomaaS17
set_option linter.unusedVariables false
namespace Go.Proofs.Yteffnkpplhcomaa
open Go.Vc Go.RowKit
set_option maxRecDepth 100000

section
variable {w w' : World} {base base' g g' r n : Nat} {q : Slc} {S S' : St} {l : Slc} {xs : List T_phosphorlaw21_Act} {quota : Int} {K : Bool → World → Prop}
theorem RefM.byS (h : StM w base g r S) (h' : RefM w base' g' q S') (hc : Chg (onS g r) w w') : RefM w' base' g' q S' := by
  refine h'.keep hc (fun e => ?_) (fun k hk e => ?_) fun p hp k hk e => ?_
  · rcases e with e | e
    · exact h'.blk.ne_t h.blk (by decide) e
    · exact h.map.ne_blk h'.blk e.symm
  · rcases e with e | e
    · exact own_ne_b h'.row h.blk (by decide) k hk e
    · exact h.map.ne_own h'.row k hk e
  · rcases e with e | e
    · exact (h'.img p hp).ne_b h.blk (by decide) k hk e
    · exact (h'.img p hp).ne_m h.map k hk e
theorem StM.byR (h : StM w base g r S) (h' : RefM w base' g' q S') (hc : Chg (onR g') w w') : StM w' base g r S :=
  h.other h'.blk (by decide) (h'.blk.ne_t h.blk (by decide)) hc
theorem StOk.next (hk5 : StOk n S) : StOk (n + 1) S := ⟨hk5.q0, hk5.q1, hk5.used, hk5.fits, Nat.le_succ_of_le hk5.len, hk5.clk0, by have := hk5.clk; omega, hk5.srt, (fun p hp => by have := hk5.keys p hp; omega), hk5.stamps, hk5.borns, hk5.st1, hk5.bo1⟩
theorem plays_law (hx : Rd actE w l xs) (hq : ∀ x ∈ xs, actQ w x) (hK : ∀ w', Below w.heap.size w w' → K true w') : c_phosphorlaw21_StorePlays quota l w K := by
  refine call_phosphorlaw21_StorePlays _ _ ?_
  unfold sh_phosphorlaw21_StorePlays
  refine sknown_spec fun w1 hB1 => cond_f rfl ?_
  have yes := hK w1 hB1
  refine Few_spec (hx.ext hB1) fun b hb => ?_
  cases b with
  | false => exact cond_t rfl yes
  | true =>
  have h120 := hb rfl
  refine cond_f rfl ?_
  have hs1 := hB1.size
  refine New_spec (base := w.heap.size) (fun e => ?_) fun g r w2 he hg hr h2 hB2 => ?_
  · refine rNew_spec (base := w.heap.size) (fun _ => ?_) fun g' w' e' _ _ _ => by rw [e] at e'; cases e'
    refine joinP_of fun J1 hJ1 => cond_f rfl (cond_f rfl (hJ1 _ _ ?_))
    exact cond_t rfl yes
  refine rNew_spec (base := w.heap.size) (fun e => by rw [he] at e; cases e) fun gR w3 he' hgR hR3 hB3 => ?_
  have hs2 := hB2.size
  have hs3 := hB3.size
  refine joinP_of fun J1 hJ1 => cond_f rfl (cond_f rfl (hJ1 _ _ (cond_f rfl ?_)))
  have hxn := hx.n
  rw [hxn]
  refine loopP_rule (Inv := fun (s : Option Addr × Int × Unit) w6 => ∃ (j : Nat) (S S' : St) (g r : Nat) (q : Slc), s.1 = some ⟨g, 0, none⟩ ∧ s.2.1 = (j : Int) ∧ j ≤ xs.length ∧ StM w6 w.heap.size g r S ∧ RefM w6 w.heap.size gR q S' ∧ StOk j S ∧ StOk j S' ∧ Sim S S' ∧ w.heap.size ≤ g ∧ w.heap.size ≤ r ∧ Below w.heap.size w w6) (μ := fun s => xs.length - s.2.1.toNat)
    ⟨0, _, _, g, r, _, rfl, rfl, Nat.zero_le _, h2.ext hB3, hR3, new_ok he, new_ok he, rfl, by omega, by omega, (hB1.trans (hB2.mono hs1)).trans (hB3.mono (by omega))⟩ ?_
  clear h2 hR3 hg hr
  rintro ⟨t, i, ⟨⟩⟩ w6 ⟨j, S, S', g, r, q, ht, hij, hj, h6, hR6, hk, hk', hsim, hg, hr, hB6⟩ I hI
  have ht : t = some ⟨g, 0, none⟩ := ht
  have hij : i = (j : Int) := hij
  subst ht hij
  refine cond_of (fun hd => ?_) fun _ => hK w6 hB6
  have hd : (j : Int) < (xs.length : Int) := of_decide_eq_true hd
  have hlt : j < xs.length := by omega
  refine (hx.ext hB6).ix (i := (j : Int)) rfl (by omega) (by omega) fun hc => ?_
  obtain ⟨a, ha⟩ : ∃ a, a = xs[((j : Int)).toNat] := ⟨_, rfl⟩
  have hamem : a ∈ xs := by rw [ha]; exact List.getElem_mem _
  obtain ⟨⟨bs, hbs⟩, hN⟩ := hq a hamem
  refine ldS_of (x := a) (by rw [ha]; exact hc) ?_
  have hgl := h6.blk.lt
  have hrl := h6.map.lt
  have hRl := hR6.blk.lt
  refine box_of (t := ty_phosphorlaw21_Act) (vs := T_phosphorlaw21_Act.rep.cells a) rfl fun w8 hb8 hB8 hs8 => ?_
  have h8 := h6.ext hB8
  have hR8 := hR6.ext hB8
  have hB08 : Below w.heap.size w w8 := hB6.trans (hB8.mono hB6.size)
  have hs6 := hB6.size
  have onS' : ∀ {k : Nat}, onS g r k → w.heap.size ≤ k ∧ k < w6.heap.size := fun e => by rcases e with e | e <;> omega
  have onR' : ∀ {k : Nat}, onR gR k → w.heap.size ≤ k ∧ k < w6.heap.size := fun e => by have e : _ = gR := e; omega
  have bS : ∀ {wa wb : World}, Below w.heap.size w wa → Chg (onS g r) wa wb → Below w.heap.size w wb := fun hB hc => hB.trans (hc.below hB.size fun i _ e => by have := (onS' e).1; omega)
  have bR : ∀ {wa wb : World}, Below w.heap.size w wa → Chg (onR gR) wa wb → Below w.heap.size w wb := fun hB hc => hB.trans (hc.below hB.size fun i _ e => by have := (onR' e).1; omega)
  have kS : ∀ {wa wb : World} {vs : List Value}, Blk wa w6.heap.size ty_phosphorlaw21_Act vs → Chg (onS g r) wa wb → Blk wb w6.heap.size ty_phosphorlaw21_Act vs := fun hb hc => hb.chg hc fun e => by have := (onS' e).2; omega
  have kR : ∀ {wa wb : World} {vs : List Value}, Blk wa w6.heap.size ty_phosphorlaw21_Act vs → Chg (onR gR) wa wb → Blk wb w6.heap.size ty_phosphorlaw21_Act vs := fun hb hc => hb.chg hc fun e => by have := (onR' e).2; omega
  refine joinP_of fun J3 hJ3 => ?_
  have tail : ∀ (w9 : World) (g2 r2 : Nat) (q2 : Slc) (T T' : St), StM w9 w.heap.size g2 r2 T → RefM w9 w.heap.size gR q2 T' → StOk (j + 1) T → StOk (j + 1) T' → Sim T T' → w.heap.size ≤ g2 → w.heap.size ≤ r2 → Below w.heap.size w w9 → Blk w9 w6.heap.size ty_phosphorlaw21_Act (T_phosphorlaw21_Act.rep.cells a) → J3 (some ⟨g2, 0, none⟩, ()) w9 := fun w9 g2 r2 q2 T T' hT hT' hkT hkT' hs hg2 hr2 hB9 hb9 => by
    refine hJ3 _ _ ?_
    refine ldI_of (x := a.Id) (hb9.cells 1 _ rfl) (ldI_of (x := a.Number) (hb9.cells 2 _ rfl) ?_)
    refine looks_true hT hT' hkT hkT' (by omega) hs a.Id a.Number fun w10 hB10 => ?_
    refine cond_f rfl ?_
    rw [wrap64_id (x := (j : Int) + 1) (by omega)]
    exact hI _ _ ⟨j + 1, T, T', g2, r2, q2, rfl, by simp, by omega, hT.ext hB10, hT'.ext hB10, hkT, hkT', hs, hg2, hr2, hB9.trans (hB10.mono hB9.size)⟩ (by show xs.length - ((j : Int) + 1).toNat < xs.length - ((j : Int)).toNat; omega)
  have hdr : Below w8.heap.size w8 w8.drew := (Below.refl _ w8).drew
  refine ldI_of (x := a.Op) (hb8.cells 0 _ rfl) ?_
  refine cond_of (fun o1 => ?_) fun o1 => ?_
  · refine ldI_of (x := a.Id) (hb8.cells 1 _ rfl) (ldI_of (x := a.Number) (hb8.cells 2 _ rfl) (ldS_of (x := a.M) (hb8.sub 3 _ rfl) ?_))
    have hpe := hsim.putErr a.Id a.Number a.M.W a.M.H bs.length
    have hPb : ∀ (Q : Nat → Prop), (∀ k, Q k → w.heap.size ≤ k) → 0 < bs.length → ∀ a', a.M.P.a = some a' → ¬ Q a'.block := fun Q hQ hp a' ha' e => by
      have := rd_lt hbs hp a' ha'
      have := hQ _ e
      omega
    have rest : ∀ (w11 : World) (T : St) (x : Int) (y : Slc) (ys : List Int) (e : Int), StM w11 w.heap.size g r T → RefM w11 w.heap.size gR q S' → StOk (j + 1) T → Own E_int w11 w8.heap.size y ys → Below w.heap.size w w11 → Blk w11 w6.heap.size ty_phosphorlaw21_Act (T_phosphorlaw21_Act.rep.cells a) →
        e = putErr S' a.Id a.Number a.M.W a.M.H bs.length → (e ≠ 0 → x = 0 ∧ ys = [] ∧ Sim T S') → (e = 0 → x = newId (S'.putPre a.Id bs.length).1.L a.Id ∧ ys = (S'.putPre a.Id bs.length).2 ∧ ∀ P', Sim T ((S'.putPre a.Id bs.length).1.putAt (newId (S'.putPre a.Id bs.length).1.L a.Id) a.Number a.M.W a.M.H P' bs)) →
        ldI .i64 ((⟨w6.heap.size, 0, none⟩ : Addr).add 1) w11.drew fun t78 =>
                     ldI .i64 ((⟨w6.heap.size, 0, none⟩ : Addr).add 2) w11.drew fun t80 =>
                     ldS T_api_Matrix.rep ((⟨w6.heap.size, 0, none⟩ : Addr).add 3) w11.drew fun t82 =>
                     c_phosphorlaw7_Of t82 w11.drew fun t83 w12 =>
                     World.cell? w12 ((⟨w6.heap.size, 0, none⟩ : Addr).add 2) = some (.int .i64 t80) ∧
                     World.cell? w12 ((⟨w6.heap.size, 0, none⟩ : Addr).add 1) = some (.int .i64 t78) ∧
                     c_phosphorref21_Store_Put (some ⟨gR, 0, none⟩) t78 t80 t83 w12 fun t84 t84_1 t84_2 w13 =>
                     cond (x != t84)
                       (K false w13)
                       (c_phosphorlaw21_ints y t84_1 w13 fun t94 w14 =>
                        cond (!t94)
                          (K false w14)
                          (cond (e != t84_2)
                             (K false w14)
                             (J3 (some ⟨g, 0, none⟩, ()) w14))) := fun w11 T x y ys e hT hR hkT hy hB11 hb11 hee hE1 hE2 => by
      have hbd := hb11.drew
      have hTd := hT.drew
      have hRd := hR.drew
      have hyd := hy.drew
      have hBd := hB11.drew
      refine ldI_of (x := a.Id) (hbd.cells 1 _ rfl) (ldI_of (x := a.Number) (hbd.cells 2 _ rfl) (ldS_of (x := a.M) (hbd.sub 3 _ rfl) ?_))
      generalize w11.drew = wd at hbd hTd hRd hyd hBd
      refine of7_spec fun w12 hB12 => ?_
      have hb12 := hbd.ext hB12
      refine ⟨hb12.cells 2 _ rfl, hb12.cells 1 _ rfl, ?_⟩
      have hB012 := hBd.trans (hB12.mono hBd.size)
      have hT12 := hTd.ext hB12
      have hR12 := hRd.ext hB12
      have hy12 := hyd.ext hB12
      have hs12 := hB012.size
      have ends : ∀ (w13 : World) (T' : St) (q' : Slc) (o : Slc), StM w13 w.heap.size g r T → RefM w13 w.heap.size gR q' T' → StOk (j + 1) T' → Sim T T' → Rd E_int w13 y ys → Rd E_int w13 o ys → Below w.heap.size w w13 → Blk w13 w6.heap.size ty_phosphorlaw21_Act (T_phosphorlaw21_Act.rep.cells a) →
          cond (x != x) (K false w13) (c_phosphorlaw21_ints y o w13 fun t94 w14 => cond (!t94) (K false w14) (cond (e != e) (K false w14) (J3 (some ⟨g, 0, none⟩, ()) w14))) := fun w13 T' q' o hT hR hkT' hs hy ho hB hb => by
        refine cond_f (by simp) (ints_true hy ho fun w14 hB14 => cond_f rfl (cond_f (by simp) ?_))
        exact tail w14 g r q' T T' (hT.ext hB14) (hR.ext hB14) hkT hkT' hs hg hr (hB.trans (hB14.mono hB.size)) (hb.ext hB14)
      refine rPut_spec (bs := bs) hR12 hk' (by omega) (by omega) (hbs.ext hB012) (hPb (onR gR) fun k e => (onR' e).1) (fun w13 e0 h13 hB13 => ?_) fun P o q' w13 e0 h13 hk13 ho13 hc13 => ?_
      · rw [← hee] at e0 ⊢
        obtain ⟨rfl, rfl, hs⟩ := hE1 e0
        exact ends w13 S' q _ (hT12.ext hB13) h13 hk'.next hs (hy12.ext hB13).rd (Rd.nil _ _) (hB012.trans (hB13.mono hs12)) (hb12.ext hB13)
      · rw [← hee] at e0
        subst e0
        obtain ⟨rfl, rfl, hs⟩ := hE2 rfl
        refine ends w13 _ q' o (hT12.byR hR12 hc13) h13 hk13 (hs P) (hy12.chg hc13 fun k hk e => own_ne_b hy12 hR12.blk (by decide) k hk e).rd ho13.rd (bR hB012 hc13) (kR hb12 hc13)
    refine Put_spec (bs := bs) h8 hk (by omega) (by have := hB6.size; omega) (hbs.ext hB08) (hPb (onS g r) fun k e => (onS' e).1) (fun w11 e0 h11 hB11 => ?_) fun P y w11 e0 h11 hk11 ho11 hc11 => ?_
    · exact rest w11 S 0 _ [] _ h11 (hR8.ext hB11) hk.next (Own.nil _ _ _) (hB08.trans (hB11.mono hB08.size)) (hb8.ext hB11) hpe (fun _ => ⟨rfl, rfl, hsim⟩) fun e => absurd e e0
    · have hpp := hsim.putPre a.Id bs.length
      have hni := hpp.1.newId a.Id
      refine rest w11 _ _ y _ 0 h11 (RefM.byS h8 hR8 hc11) hk11 ho11 (bS hB08 hc11) (kS hb8 hc11) (by rw [← hpe, e0]) (fun e => absurd rfl e) fun _ => ⟨hni, hpp.2, fun P' => ?_⟩
      rw [hni]
      exact hpp.1.putAt _ _ _ _ _ _ _
  refine cond_of (fun o2 => ?_) fun o2 => ?_
  · refine ldI_of (x := a.N) (hb8.cells 6 _ rfl) ?_
    have hre := hsim.reserve a.N
    refine Reserve_spec h8 hk (by omega) fun o w15 h15 ho15 hc15 => ?_
    have hR15 := RefM.byS h8 hR8 hc15
    have hb15 := kS hb8 hc15
    have hB15 := bS hB08 hc15
    refine ldI_of (x := a.N) (hb15.cells 6 _ rfl) ?_
    refine rReserve_spec hR15 hk' (by omega) (by have := hB15.size; have := hc15.size; omega) fun o' q' w16 h16 ho16 hc16 => ?_
    have ho15' := ho15.chg hc16 fun k hk e => own_ne_b ho15 hR15.blk (by decide) k hk e
    refine ints_true ho15'.rd (by rw [hre.2]; exact ho16.rd) fun w17 hB17 => cond_f rfl (cond_f (by rw [hre.2]; simp) ?_)
    have hB16 := bR hB15 hc16
    exact tail w17 g r q' _ _ ((h15.byR hR15 hc16).ext hB17) (h16.ext hB17) (reserve_ok hk.next _) (reserve_ok hk'.next _) hre.1 hg hr (hB16.trans (hB17.mono hB16.size)) ((kR hb15 hc16).ext hB17)
  refine cond_of (fun o3 => ?_) fun o3 => ?_
  · refine ldI_of (x := a.Id) (hb8.drew.cells 1 _ rfl) (ldI_of (x := a.Id) (hb8.drew.cells 1 _ rfl) ?_)
    refine Use_spec h8.drew hk (by omega) a.Id fun w18 h18 hc18 => ?_
    have hb18 := kS hb8.drew hc18
    have hR18 := RefM.byS h8.drew hR8.drew hc18
    have hB18 := bS hB08.drew hc18
    refine ⟨hb18.cells 1 _ rfl, ?_⟩
    refine rUse_spec hR18 hk' (by omega) (by have := hB18.size; omega) a.Id fun q' w19 h19 hc19 => ?_
    refine cond_f (by simp [hsim.some a.Id]) ?_
    exact tail w19 g r q' _ _ (h18.byR hR18 hc19) h19 (use_ok hk _) (use_ok hk' _) (hsim.use _) hg hr (bR hB18 hc19) (kR hb18 hc19)
  refine cond_of (fun o4 => ?_) fun o4 => ?_
  · refine ldI_of (x := a.Id) (hb8.drew.cells 1 _ rfl) (ldI_of (x := a.Id) (hb8.drew.cells 1 _ rfl) ?_)
    refine Drop_spec h8.drew hk a.Id fun w18 h18 hc18 => ?_
    have hb18 := kS hb8.drew hc18
    have hR18 := RefM.byS h8.drew hR8.drew hc18
    have hB18 := bS hB08.drew hc18
    refine ⟨hb18.cells 1 _ rfl, ?_⟩
    refine rDrop_spec hR18 hk' (by omega) (by have := hB18.size; omega) a.Id fun q' w19 h19 hc19 => ?_
    refine cond_f (by simp [hsim.some a.Id]) ?_
    exact tail w19 g r q' _ _ (h18.byR hR18 hc19) h19 (drop_ok hk.next _) (drop_ok hk'.next _) (hsim.drop _) hg hr (bR hB18 hc19) (kR hb18 hc19)
  refine cond_of (fun o5 => ?_) fun o5 => ?_
  · refine Twin_spec h8 fun g2 r2 w22 hg2 hr2 h22 hB22 => ?_
    have hb22 := hb8.ext hB22
    have hS22 := h8.ext hB22
    have hR22 := hR8.ext hB22
    have hB022 := hB08.trans (hB22.mono hB08.size)
    refine ldI_of (x := a.Id) (hb22.cells 1 _ rfl) ?_
    refine Drop_spec hS22 hk a.Id fun w23 h23 hc23 => ?_
    have hb23 := kS hb22 hc23
    have hT23 := hS22.two h22 (by omega) (by omega) hc23
    have hR23 := RefM.byS hS22 hR22 hc23
    have hB23 := bS hB022 hc23
    refine Reserve_spec h23 (drop_ok hk a.Id) (by omega) fun o w24 h24 _ hc24 => cond_f rfl ?_
    exact tail w24 g2 r2 q S S' (h23.two hT23 (by omega) (by omega) hc24) (RefM.byS h23 hR23 hc24) hk.next hk'.next hsim (by have := hB08.size; omega) (by have := hB08.size; omega) (bS hB23 hc24) (kS hb23 hc24)
  · exact tail w8 g r q S S' h8 hR8 hk.next hk'.next hsim hg hr hB08 hb8
end
end Go.Proofs.Yteffnkpplhcomaa
