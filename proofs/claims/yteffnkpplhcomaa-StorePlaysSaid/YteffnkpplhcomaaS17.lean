/- StoreEldest: the law's function. -/
import Derived.Test.YteffnkpplhcomaaS16
set_option linter.unusedVariables false
namespace Go.Proofs.Yteffnkpplhcomaa
open Go.Vc Go.RowKit
set_option maxRecDepth 100000

section
variable {w : World} {l : Slc} {xs : List T_phosphorlaw21_Act} {quota : Int} {K : Bool → World → Prop}
theorem Few_spec (hx : Rd actE w l xs) (hK : ∀ b : Bool, (b = true → xs.length ≤ 120) → K b w) : c_phosphorlaw21_Few l w K := by
  refine call_phosphorlaw21_Few _ ?_
  unfold sh_phosphorlaw21_Few
  have hn := hx.n
  have hm : xs.length ≤ maxLen := by have h1 := hx.nc; have h2 := hx.cm; omega
  unfold maxLen at hm
  rw [hn]
  refine loopP_rule (Inv := fun (s : Int × Int × Unit) w1 => w1 = w ∧ ∃ j : Nat, s.2.1 = (j : Int) ∧ j ≤ xs.length) (μ := fun s => xs.length - s.2.1.toNat) ⟨rfl, 0, rfl, Nat.zero_le _⟩ ?_
  rintro ⟨n, i, ⟨⟩⟩ w1 ⟨rfl, j, hij, hj⟩ I hI
  have hij : i = (j : Int) := hij
  subst hij
  have no : K false w1 := hK false (fun e => by cases e)
  refine cond_of (fun hlt => ?_) fun _ => ?_
  · have hlt : j < xs.length := by have := of_decide_eq_true hlt; omega
    have hlt' : ((j : Int)).toNat < xs.length := by omega
    refine joinP_of fun J hJ => ?_
    have hc5 : ∀ {K : Addr → Prop}, (∀ a : Addr, cellsAt w1 a (actE.cells xs[((j : Int)).toNat]) → K a) → ixK l (j : Int) 7 K := fun {K} h => hx.ix (i := (j : Int)) rfl (by omega) (by omega) fun hd => h _ hd
    refine hc5 fun a ha => ?_
    rw [add_add]
    refine ldSl_of (x := xs[((j : Int)).toNat].M.P) (ha.get 5 rfl) ?_
    refine cond_of (fun _ => no) fun _ => cond_of (fun _ => no) fun _ => hJ _ _ ?_
    refine hc5 fun a ha => ?_
    rw [add_add]
    refine ldSl_of (x := xs[((j : Int)).toNat].M.P) (ha.get 5 rfl) ?_
    rw [wrap64_id (x := (j : Int) + 1) (by omega)]
    exact hI _ _ ⟨rfl, j + 1, by simp, by omega⟩ (by show xs.length - ((j : Int) + 1).toNat < xs.length - ((j : Int)).toNat; omega)
  · refine cond_of (fun h => ?_) fun _ => no
    have h := of_decide_eq_true h
    exact hK _ fun _ => by omega
/-- What is reserved never goes beyond what is free. -/
def ResOk (S : St) : Prop := 0 ≤ S.res ∧ S.res ≤ S.quota ∧ (0 < S.res → S.used ≤ S.quota - S.res)
theorem eldest_law (hx : Rd actE w l xs) (hq : ∀ x ∈ xs, actQ w x) (hK : ∀ w', Below w.heap.size w w' → K true w') : c_phosphorlaw21_StoreEldest quota l w K := by
  refine call_phosphorlaw21_StoreEldest _ _ ?_
  unfold sh_phosphorlaw21_StoreEldest
  refine sknown_spec fun w1 hB1 => cond_f rfl (joinP_of fun J1 hJ1 => ?_)
  have yes := hK w1 hB1
  refine Few_spec (hx.ext hB1) fun b hb => ?_
  cases b with
  | false => exact cond_t rfl yes
  | true =>
  have h120 := hb rfl
  refine cond_f rfl (cond_of (fun _ => yes) fun g1 => cond_of (fun _ => yes) fun g2 => hJ1 _ _ ?_)
  have g1 := of_decide_eq_false g1
  have g2 := of_decide_eq_false g2
  have hs1 := hB1.size
  refine New_spec (base := w1.heap.size) (fun e => by unfold newErr at e; rw [if_neg (by omega)] at e; cases e) fun g r w2 he hg hr h2 hB2 => ?_
  refine joinP_of fun J2 hJ2 => cond_f rfl (cond_f rfl (hJ2 _ _ ?_))
  have hs2 := hB2.size
  have hxn := hx.n
  rw [hxn]
  refine loopP_rule (Inv := fun (s : Int × Unit) w5 => ∃ (j : Nat) (S : St), s.1 = (j : Int) ∧ j ≤ xs.length ∧ StM w5 w1.heap.size g r S ∧ StOk j S ∧ S.quota = quota ∧ ResOk S ∧ Below w.heap.size w w5) (μ := fun s => xs.length - s.1.toNat)
    ⟨0, _, rfl, Nat.zero_le _, h2, new_ok he, rfl, ⟨Int.le_refl _, by show (0 : Int) ≤ quota; omega, fun e => by cases e⟩, hB1.trans (hB2.mono hs1)⟩ ?_
  rintro ⟨i, ⟨⟩⟩ w5 ⟨j, S, hij, hj, h5, hk5, hq5, hres, hB5⟩ I hI
  have hij : i = (j : Int) := hij
  subst hij
  refine cond_of (fun hlt => ?_) fun _ => hK w5 hB5
  have hlt : j < xs.length := by have := of_decide_eq_true hlt; omega
  have hlt' : ((j : Int)).toNat < xs.length := by omega
  have hgl := h5.blk.lt
  have hrl := h5.map.lt
  refine Twin_spec h5 fun g' r' w6 hg' hr' h6 hB6 => ?_
  refine cond_f rfl (joinP_of fun J4 hJ4 => ?_)
  have hS6 := h5.ext hB6
  have hB06 : Below w.heap.size w w6 := hB5.trans (hB6.mono hB5.size)
  obtain ⟨a, ha⟩ : ∃ a, a = xs[((j : Int)).toNat] := ⟨_, rfl⟩
  have hamem : a ∈ xs := by rw [ha]; exact List.getElem_mem _
  obtain ⟨⟨bs, hbs⟩, hN⟩ := hq a hamem
  have hc : ∀ {w' : World} {K : Addr → Prop}, Below w.heap.size w w' → (∀ p : Addr, cellsAt w' p (actE.cells a) → K p) → ixK l (j : Int) 7 K := fun hB h => (hx.ext hB).ix (i := (j : Int)) rfl (by omega) (by omega) fun hd => h _ (by rw [ha]; exact hd)
  have hwrapj : IntKind.i64.wrap ((j : Int) + 1) = ((j + 1 : Nat) : Int) := by rw [wrap64_id (by omega)]; rfl
  have on : ∀ {k : Nat}, onS g r k → w.heap.size ≤ k := fun e => by rcases e with e | e <;> omega
  have on' : ∀ {k : Nat}, onS g' r' k → w.heap.size ≤ k := fun e => by have := hB5.size; rcases e with e | e <;> omega
  have tail : ∀ (w7 : World) (S' T : St) (gone : Slc) (G : List Int) (need e : Int) (b : Nat), StM w7 w1.heap.size g r S' → StOk (j + 1) S' → S'.quota = quota → ResOk S' → StM w7 w1.heap.size g' r' T → StOk (j + 1) T → T.quota = quota → Own E_int w7 b gone G → (e ≠ 0 → G = []) →
      (G ≠ [] → 0 ≤ need ∧ need ≤ quota) → GoneL quota need T.used T.L G → Below w.heap.size w w7 → J4 (gone, need, e, ()) w7 := fun w7 S' T gone G need e b h7 hk7 hq7 hres7 hT hkT hqT ho hGe hGn hGo hB7 => by
    refine hJ4 _ _ ?_
    have hgn := ho.rd.n
    refine joinP_of fun J5 hJ5 => ?_
    have five : J5 () w7 := by
      refine hJ5 _ _ ?_
      refine eldLoop_spec (F := fun w => K false w) hT hkT (by omega) hqT hGo hGn ho fun w8 hc8 => ?_
      rw [hwrapj]
      refine hI _ _ ⟨j + 1, S', rfl, by omega, hT.two h7 (by omega) (by omega) hc8, hk7, hq7, hres7, hB7.trans (hc8.below hB7.size fun i _ e => by have := on' e; omega)⟩ (by show xs.length - (((j + 1 : Nat) : Int)).toNat < xs.length - ((j : Int)).toNat; omega)
    have hf := hk7.fits
    have h0 := hk7.used
    have chk : ∀ F : World → Prop, c_store_Store_Used (some ⟨g, 0, none⟩) w7 fun t136_1 w21 =>
                      c_store_Store_Reserved (some ⟨g, 0, none⟩) w21 fun t139_1 w22 =>
                      cond (decide (t136_1 > (IntKind.i64.wrap (quota - t139_1))))
                        (c_store_Store_Reserved (some ⟨g, 0, none⟩) w22 fun t144_1 w23 =>
                         cond (decide (t144_1 > (0 : Int)))
                           (F w23)
                           (c_store_Store_Used (some ⟨g, 0, none⟩) w23 fun t150_2 w24 =>
                            cond (decide (t150_2 > quota))
                              (F w24)
                              (J5 (()) w24)))
                        (c_store_Store_Used (some ⟨g, 0, none⟩) w22 fun t150_3 w25 =>
                         cond (decide (t150_3 > quota))
                           (F w25)
                           (J5 (()) w25)) := fun F => by
      obtain ⟨r0, r1, r2⟩ := hres7
      refine Used_spec h7 (Reserved_spec h7 ?_)
      rw [wrap64_id (by omega)]
      refine cond_of (fun e1 => ?_) fun e1 => ?_
      · have e1 := of_decide_eq_true e1
        refine Reserved_spec h7 (cond_f (decide_eq_false fun h => ?_) (Used_spec h7 (cond_f (decide_eq_false (by omega)) five)))
        have := r2 h
        omega
      · exact Used_spec h7 (cond_f (decide_eq_false (by omega)) five)
    refine cond_of (fun e1 => ?_) fun _ => chk _
    have hG := hGe (bne_iff_ne.1 e1)
    subst hG
    have hgn : gone.n = 0 := hgn
    refine cond_f (by rw [hgn]; rfl) (chk _)
  have next : StOk (j + 1) S := ⟨hk5.q0, hk5.q1, hk5.used, hk5.fits, Nat.le_succ_of_le hk5.len, hk5.clk0, by have := hk5.clk; omega, hk5.srt, (fun p hp => by have := hk5.keys p hp; omega), hk5.stamps, hk5.borns, hk5.st1, hk5.bo1⟩
  refine hc hB06 fun p hp => ?_
  refine ldI_of (x := a.Op) (hp.get 0 rfl) ?_
  have hdr : Below w6.heap.size w6 w6.drew := (Below.refl _ w6).drew
  have hB06d := hB06.drew
  refine cond_of (fun o1 => ?_) fun o1 => ?_
  · refine hc hB06d fun p hp => ldI_of (x := a.Id) (hp.get 1 rfl) ?_
    refine hc hB06d fun p hp => ldI_of (x := a.Number) (hp.get 2 rfl) ?_
    refine hc hB06d fun p hp => ldS_of (x := a.M) (hp.sub 3 fun jj v hv => by
      match jj, hv with
      | 0, hv => exact hv
      | 1, hv => exact hv
      | 2, hv => exact hv
      | jj + 3, hv => simp [T_api_Matrix.rep] at hv) ?_
    have hbl := hbs.n
    have rest : ∀ (w26 : World) (S' : St) (q : Slc) (G : List Int) (e : Int), StM w26 w1.heap.size g r S' → StOk (j + 1) S' → S'.quota = quota → ResOk S' → StM w26 w1.heap.size g' r' S → Own E_int w26 w6.heap.size q G → (e ≠ 0 → G = []) → ((bs.length : Int) ≤ quota ∨ G = []) →
        GoneL quota bs.length (if a.Id = 0 then S else S.drop a.Id).used (if a.Id = 0 then S else S.drop a.Id).L G → Below w.heap.size w w26 →
        ixK l (j : Int) 7 fun t83 => ldSl ((t83.add 3).add 2) w26 fun t86 => ixK l (j : Int) 7 fun t90 => ldI .i64 (t90.add 1) w26 fun t92 =>
          cond (t92 != (0 : Int))
                      (ixK l (j : Int) 7 fun t97 =>
                       ldI .i64 (t97.add 1) w26 fun t99 =>
                       c_store_Store_Drop (some ⟨g', 0, none⟩) t99 w26 fun t100 w27 =>
                       J4 (q, ((t86.n : Nat) : Int), e, ()) w27)
                      (J4 (q, ((t86.n : Nat) : Int), e, ()) w26) := fun w26 S' q G e h26 hk26 hq26 hr26 hT ho hGe hGb hGo hB26 => by
      refine hc hB26 fun p hp => ?_
      rw [add_add]
      refine ldSl_of (x := a.M.P) (hp.get 5 rfl) ?_
      rw [hbl]
      refine hc hB26 fun p hp => ldI_of (x := a.Id) (hp.get 1 rfl) ?_
      have hGn : G ≠ [] → 0 ≤ (bs.length : Int) ∧ (bs.length : Int) ≤ quota := fun e => ⟨by omega, hGb.resolve_right e⟩
      refine cond_of (fun e1 => ?_) fun e1 => ?_
      · have e1 : a.Id ≠ 0 := bne_iff_ne.1 e1
        rw [if_neg e1] at hGo
        refine hc hB26 fun p hp => ldI_of (x := a.Id) (hp.get 1 rfl) ?_
        refine Drop_spec hT hk5 a.Id fun w27 hT27 hc27 => ?_
        refine tail w27 S' (S.drop a.Id) q G _ e w6.heap.size (hT.two h26 (by omega) (by omega) hc27) hk26 hq26 hr26 hT27 (drop_ok next _) hq5 (ho.chg hc27 fun k hk e => ?_) hGe hGn hGo (hB26.trans (hc27.below hB26.size fun i _ e => by have := on' e; omega))
        rcases e with e | e
        · exact own_ne_b ho hT.blk (by decide) k hk e
        · exact hT.map.ne_own ho k hk e
      · have e1 : a.Id = 0 := by simpa using e1
        rw [if_pos e1] at hGo
        exact tail w26 S' S q G _ e w6.heap.size h26 hk26 hq26 hr26 hT next hq5 ho hGe hGn hGo hB26
    have hP : Rd E_uint8 w6.drew a.M.P bs := hbs.ext hB06d
    refine Put_spec (bs := bs) hS6.drew hk5 (by omega) (by show w1.heap.size ≤ w6.heap.size; have := hB6.size; omega) hP (fun hp a' ha' e => ?_) (fun w26 e0 h26 hB26 => ?_) fun P q w26 e0 h26 hk26 ho26 hc26 => ?_
    · have := rd_lt hbs hp a' ha'
      have := on e
      omega
    · refine rest w26 S _ [] _ h26 next hq5 hres ((h6.drew).ext hB26) (Own.nil _ _ _) (fun _ => rfl) (.inr rfl) trivial (hB06d.trans (hB26.mono hB06d.size))
    · have hqf : (St.putPre S a.Id bs.length).1.quota = quota := by
        have := (roomF_fields (bs.length : Int) (if a.Id = 0 then ({ S with res := 0 } : St) else ({ S with res := 0 } : St).drop a.Id).L.length (if a.Id = 0 then ({ S with res := 0 } : St) else ({ S with res := 0 } : St).drop a.Id) []).1
        unfold St.putPre St.room
        rw [this]
        split <;> exact hq5
      have hrf : (St.putPre S a.Id bs.length).1.res = 0 := by
        have := (roomF_fields (bs.length : Int) (if a.Id = 0 then ({ S with res := 0 } : St) else ({ S with res := 0 } : St).drop a.Id).L.length (if a.Id = 0 then ({ S with res := 0 } : St) else ({ S with res := 0 } : St).drop a.Id) []).2.1
        unfold St.putPre St.room
        rw [this]
        split <;> rfl
      have hle : (bs.length : Int) ≤ quota := by
        unfold putErr at e0
        split at e0
        · split at e0
          · cases e0
          · omega
        · cases e0
      have hgo := room_gone (if a.Id = 0 then ({ S with res := 0 } : St) else ({ S with res := 0 } : St).drop a.Id) bs.length
      have hgo : GoneL quota bs.length (if a.Id = 0 then S else S.drop a.Id).used (if a.Id = 0 then S else S.drop a.Id).L (St.putPre S a.Id bs.length).2 := by
        unfold St.putPre
        by_cases hid : a.Id = 0
        · simp only [if_pos hid] at hgo ⊢
          rw [← hq5]
          exact hgo
        · simp only [if_neg hid] at hgo ⊢
          rw [← hq5]
          exact hgo
      refine rest w26 _ q _ 0 h26 hk26 hqf ⟨by show 0 ≤ (St.putPre S a.Id bs.length).1.res; rw [hrf]; exact Int.le_refl _, by show (St.putPre S a.Id bs.length).1.res ≤ (St.putPre S a.Id bs.length).1.quota; rw [hrf, hqf]; omega, fun e => ?_⟩ (hS6.drew.two h6.drew (by omega) (by omega) hc26) ho26 (fun e => absurd rfl e) (.inl hle) hgo (hB06d.trans (hc26.below hB06d.size fun i _ e => by have := on e; omega))
      exfalso
      have e : 0 < (St.putPre S a.Id bs.length).1.res := e
      rw [hrf] at e
      cases e
  · refine cond_of (fun o2 => ?_) fun o2 => ?_
    · refine hc hB06 fun p hp => ldI_of (x := a.N) (hp.get 6 rfl) ?_
      refine Reserve_spec hS6 hk5 (by omega) fun q w28 h28 ho28 hc28 => ?_
      have hB28 : Below w.heap.size w w28 := hB06.trans (hc28.below hB06.size fun i _ e => by have := on e; omega)
      refine hc hB28 fun p hp => ldI_of (x := a.N) (hp.get 6 rfl) ?_
      have hT28 := hS6.two h6 (by omega) (by omega) hc28
      have hrok : StOk (j + 1) (S.reserve a.N).1 := reserve_ok next a.N
      have hqr : (S.reserve a.N).1.quota = quota ∧ ResOk (S.reserve a.N).1 ∧ ((S.reserve a.N).2.2 ≠ 0 → (S.reserve a.N).2.1 = []) ∧ ((S.reserve a.N).2.1 ≠ [] → 0 ≤ a.N ∧ a.N ≤ quota) ∧ GoneL quota a.N S.used S.L (S.reserve a.N).2.1 := by
        unfold St.reserve
        split
        · exact ⟨hq5, hres, fun _ => rfl, fun e => absurd rfl e, trivial⟩
        · split
          · exact ⟨hq5, hres, fun _ => rfl, fun e => absurd rfl e, trivial⟩
          · have hf := roomF_fields a.N ({ S with res := a.N } : St).L.length ({ S with res := a.N } : St) []
            have hu := roomF_used (m := j) (n := a.N) (by omega) ({ S with res := a.N } : St).L.length (S := ({ S with res := a.N } : St)) (G := []) (res_ok hk5 _) (by show a.N ≤ S.quota; omega) (Nat.le_refl _)
            have hgo := room_gone ({ S with res := a.N } : St) a.N
            refine ⟨hf.1.trans hq5, ⟨?_, ?_, fun _ => ?_⟩, fun e => absurd rfl e, fun _ => by omega, by rw [← hq5]; exact hgo⟩
            · show 0 ≤ (St.roomF a.N _ _ []).1.res
              rw [hf.2.1]
              show 0 ≤ a.N
              omega
            · show (St.roomF a.N _ _ []).1.res ≤ (St.roomF a.N _ _ []).1.quota
              rw [hf.2.1, hf.1]
              show a.N ≤ S.quota
              omega
            · show (St.roomF a.N _ _ []).1.used ≤ (St.roomF a.N _ _ []).1.quota - (St.roomF a.N _ _ []).1.res
              rw [hf.2.1, hf.1]
              exact hu
      exact tail w28 _ S q _ a.N _ w6.heap.size h28 hrok hqr.1 hqr.2.1 hT28 next hq5 ho28 hqr.2.2.1 hqr.2.2.2.1 hqr.2.2.2.2 hB28
    · refine cond_of (fun o3 => ?_) fun o3 => ?_
      · refine hc hB06 fun p hp => ldI_of (x := a.Id) (hp.get 1 rfl) ?_
        refine Use_spec hS6 hk5 (by omega) a.Id fun w29 h29 hc29 => ?_
        have huse : (S.use a.Id).quota = S.quota ∧ (S.use a.Id).res = S.res ∧ (S.use a.Id).used = S.used := by
          unfold St.use
          split <;> exact ⟨rfl, rfl, rfl⟩
        refine tail w29 _ S _ [] 0 0 w6.heap.size h29 (use_ok hk5 _) (huse.1.trans hq5) ?_ (hS6.two h6 (by omega) (by omega) hc29) next hq5 (Own.nil _ _ _) (fun _ => rfl) (fun e => absurd rfl e) trivial (hB06.trans (hc29.below hB06.size fun i _ e => by have := on e; omega))
        unfold ResOk
        rw [huse.1, huse.2.1, huse.2.2]
        exact hres
      · exact tail w6 S S _ [] 0 0 w6.heap.size hS6 next hq5 hres h6 next hq5 (Own.nil _ _ _) (fun _ => rfl) (fun e => absurd rfl e) trivial hB06
end
end Go.Proofs.Yteffnkpplhcomaa
