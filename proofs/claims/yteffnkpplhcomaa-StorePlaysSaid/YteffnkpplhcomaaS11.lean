/- The law's own small run: what 'known' comes to. -/
import Derived.Test.YteffnkpplhcomaaS10
set_option linter.unusedVariables false
namespace Go.Proofs.Yteffnkpplhcomaa
open Go.Vc Go.RowKit
set_option maxRecDepth 100000

theorem rd_lits8 {w : World} {g : Nat} {ys : List UInt8} (hb : Blk w g ty_uint8 (flat E_uint8 ys)) (hm : ys.length ≤ 1000) : Rd E_uint8 w ⟨some ⟨g, 0, none⟩, ys.length, ys.length⟩ ys := rd_lits hb (by unfold maxLen; omega) rfl
abbrev kb : List UInt8 := [1, 2, 3, 4]
theorem sknown_spec {w : World} {K : Bool → World → Prop} (hK : ∀ w', Below w.heap.size w w' → K true w') : c_phosphorlaw21_known w K := by
  refine call_phosphorlaw21_known ?_
  unfold sh_phosphorlaw21_known
  refine New_spec (base := w.heap.size) (fun e => by cases e) fun g r w1 he hg hr h1 hB1 => ?_
  have hs1 := hB1.size
  refine joinP_of fun J hJ => cond_f rfl (cond_f rfl (hJ _ _ ?_))
  refine nw_blk fun w2 hb2 hB2 hs2 => ?_
  refine box_of (t := ty_api_Matrix) (vs := [(.int .i64 1), (.int .i64 1), (.slice (some ⟨w1.heap.size, 0, none⟩) 4 4)]) rfl fun w3 hb3 hB3 hs3 => ?_
  have hm3 : cellsAt w3 ⟨w2.heap.size, 0, none⟩ (T_api_Matrix.rep.cells ⟨1, 1, ⟨some ⟨w1.heap.size, 0, none⟩, 4, 4⟩⟩) := hb3.cells
  have hk1 := new_ok he
  have hS3 := (h1.ext hB2).ext hB3
  have hbr : Blk w3 w1.heap.size ty_uint8 (flat E_uint8 kb) := hb2.ext hB3
  have gl := h1.blk.lt
  have rl := h1.map.lt
  have hBw3 : Below w.heap.size w w3 := (hB1.trans (hB2.mono (by omega))).trans (hB3.mono (by omega))
  refine ldS_of (x := (⟨1, 1, ⟨some ⟨w1.heap.size, 0, none⟩, 4, 4⟩⟩ : T_api_Matrix)) hm3 ?_
  refine Put_spec (bs := kb) hS3 hk1 (by omega) (by omega) (rd_lits8 hbr (by decide)) (fun _ a ha => by cases ha; show ¬ (w1.heap.size = g ∨ w1.heap.size = r); omega) (fun w' e => absurd rfl e) fun P1 q1 w4 e1 hS4 hk4 ho4 hc4 => ?_
  have bkeep : ∀ {k : Nat} {t : TypeId} {vs : List Value} {wa wb : World}, Blk wa k t vs → Chg (onS g r) wa wb → w1.heap.size ≤ k → Blk wb k t vs := fun hb hc hk => hb.chg hc fun e => by rcases e with e | e <;> omega
  have hs4 := hc4.size
  have hb4 := bkeep hb3 hc4 (by omega)
  have hr4 := bkeep hbr hc4 (by omega)
  refine ldS_of (x := (⟨1, 1, ⟨some ⟨w1.heap.size, 0, none⟩, 4, 4⟩⟩ : T_api_Matrix)) hb4.cells ?_
  refine Put_spec (bs := kb) hS4 hk4 (by omega) (by omega) (rd_lits8 hr4 (by decide)) (fun _ a ha => by cases ha; show ¬ (w1.heap.size = g ∨ w1.heap.size = r); omega) (fun w' e => absurd rfl e) fun P2 q2 w5 e2 hS5 hk5 ho5 hc5 => ?_
  have hs5 := hc5.size
  have hb5 := bkeep hb4 hc5 (by omega)
  have hr5 := bkeep hr4 hc5 (by omega)
  refine Use_spec hS5 hk5 (by omega) 5 fun w6 hS6 hc6 => ?_
  have hs6 := hc6.size
  have hb6 := bkeep hb5 hc6 (by omega)
  have hr6 := bkeep hr5 hc6 (by omega)
  have hk6 := use_ok hk5 5
  refine ldS_of (x := (⟨1, 1, ⟨some ⟨w1.heap.size, 0, none⟩, 4, 4⟩⟩ : T_api_Matrix)) hb6.cells ?_
  refine Put_spec (bs := kb) hS6 hk6 (by omega) (by omega) (rd_lits8 hr6 (by decide)) (fun _ a ha => by cases ha; show ¬ (w1.heap.size = g ∨ w1.heap.size = r); omega) (fun w' e => absurd rfl e) fun P3 q3 w7 e3 hS7 hk7 ho7 hc7 => ?_
  have hq3 : Own E_int w7 w6.heap.size q3 [7] := ho7
  refine Number_spec hS7 hk7 9 fun b ok w8 hN hB8 => ?_
  have hN' : NumRes (St.putAt (St.putPre (St.use (St.putAt (St.putPre (St.putAt (St.putPre ⟨10, 0, 0, 0, []⟩ 5 4).1 5 0 1 1 P1 kb) 7 4).1 7 9 1 1 P2 kb) 5) 0 4).1 1099511627776 0 1 1 P3 kb).L 9 0 false := by
    refine .inl ⟨rfl, rfl, fun p hp => ?_⟩
    have hp : p ∈ [((5 : Int), (⟨⟨0, ⟨1, 1, P1⟩, 3, 1⟩, kb⟩ : Im)), (1099511627776, ⟨⟨0, ⟨1, 1, P3⟩, 4, 4⟩, kb⟩)] := hp
    simp only [List.mem_cons, List.mem_nil_iff, or_false] at hp
    rcases hp with rfl | rfl <;> exact fun h => absurd h.2 (by show ¬ (0 : Int) = 9; decide)
  obtain ⟨rfl, rfl⟩ := hN.one hk7 hN'
  refine cond_t rfl (cond_t rfl ?_)
  have hq8 := hq3.ext hB8
  have hqn : q3.n = 1 := hq8.rd.n
  rw [hqn]
  refine cond_t rfl ?_
  refine hq8.rd.ix (i := 0) rfl (by decide) (by decide) fun h0 => ?_
  refine ldI_of (x := 7) (by simpa using h0 0 _ rfl) ?_
  refine cond_t rfl (cond_t rfl (cond_t rfl ?_))
  refine Used_spec (hS7.ext hB8) ?_
  have hall : Below w.heap.size w w8 := by
    have c : Chg (onS g r) w3 w7 := ((hc4.trans hc5 fun i _ hi => hi).trans hc6 fun i _ hi => hi).trans hc7 fun i _ hi => hi
    exact (hBw3.trans (c.below (by omega) fun i hi e => by rcases e with e | e <;> omega)).trans (hB8.mono (by have := hc7.size; omega))
  exact hK w8 hall
end Go.Proofs.Yteffnkpplhcomaa
