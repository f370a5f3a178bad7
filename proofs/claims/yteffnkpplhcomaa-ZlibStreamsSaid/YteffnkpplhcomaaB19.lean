/- The three known streams, by the program. -/
import Derived.Test.YteffnkpplhcomaaB18
namespace Go.Proofs.Yteffnkpplhcomaa
open Go.Vc Go.RowKit
set_option maxRecDepth 400000

theorem known_spec {w : World} {K : Bool → World → Prop} (hK : ∀ w', Below w.heap.size w w' → K true w') : c_phosphorlaw5_known w K := by
  refine call_phosphorlaw5_known ?_
  unfold sh_phosphorlaw5_known
  refine nw_blk fun w1 hb1 hB1 hs1 => ?_
  have r1 : Rd E_uint8 w1 ⟨some ⟨w.heap.size, 0, none⟩, 8, 8⟩ [1, 2, 0, 253, 255, 104, 105, 9] := rd_lits (E := E_uint8) (ys := [1, 2, 0, 253, 255, 104, 105, 9]) hb1 (by decide) rfl
  obtain ⟨k1, k2, k3⟩ := known1
  obtain ⟨j1, j2, j3⟩ := known2
  have run1 := runM_ch (most := 10) (B := [1, 2, 0, 253, 255, 104, 105, 9]) 9 0 cfg0
  have run2 := runM_ch (most := 1) (B := [75, 4, 0]) 9 0 cfg0
  have run3 := runM_ch (most := 0) (B := [75, 4, 0]) 9 0 cfg0
  obtain ⟨c1, a1, x1⟩ : ∃ p : Cfg × Nat × SR, runM 10 [1, 2, 0, 253, 255, 104, 105, 9] 9 0 cfg0 = p := ⟨_, rfl⟩
  have s1 := step1_five (most := 10) (B := [1, 2, 0, 253, 255, 104, 105, 9]) (a := (runM 10 [1, 2, 0, 253, 255, 104, 105, 9] 9 0 cfg0).2.1) k1
  have s2 := step1_five (most := 1) (B := [75, 4, 0]) (a := (runM 1 [75, 4, 0] 9 0 cfg0).2.1) j1
  refine Inflate_run (most := 10) (by decide) r1 (fun k hk => by injection hk with hk; have hk : w.heap.size = k := hk; omega) (by decide) run1.1 s1 (by intro _ _ e; cases e) (fun _ o1 w2 ho1 hB2 => ?_) (fun h => absurd k1 h) (fun n h => by cases h)
  rw [k2] at ho1
  have hs2 := hB2.size
  refine nw_blk fun w3 hb3 hB3 hs3 => ?_
  have r2 : Rd E_uint8 w3 ⟨some ⟨w2.heap.size, 0, none⟩, 3, 3⟩ [75, 4, 0] := rd_lits (E := E_uint8) (ys := [75, 4, 0]) hb3 (by decide) rfl
  refine Inflate_run (most := 1) (by decide) r2 (fun k hk => by injection hk with hk; have hk : w2.heap.size = k := hk; omega) (by decide) run2.1 s2 (by intro _ _ e; cases e) (fun _ o2 w4 ho2 hB4 => ?_) (fun h => absurd j1 h) (fun n h => by cases h)
  rw [j2] at ho2
  have hs4 := hB4.size
  refine nw_blk fun w5 hb5 hB5 hs5 => ?_
  have r3 : Rd E_uint8 w5 ⟨some ⟨w4.heap.size, 0, none⟩, 3, 3⟩ [75, 4, 0] := rd_lits (E := E_uint8) (ys := [75, 4, 0]) hb5 (by decide) rfl
  have k5 := known3
  have s3 : step1 0 [75, 4, 0] (runM 0 [75, 4, 0] 9 0 cfg0).2.1 (runM 0 [75, 4, 0] 9 0 cfg0).1 = .err 5 := by
    rw [run3.2]
    cases hh : (runM 0 [75, 4, 0] 9 0 cfg0).2.2 with
    | next c a => rw [hh] at k5; cases k5
    | short => rw [hh] at k5; cases k5
    | err n => rw [hh] at k5; have k5 : n = 5 := k5; rw [k5]
  have m3 : (runM 0 [75, 4, 0] 9 0 cfg0).1.mode ≠ 5 := fun e => by rw [step1_five e] at s3; cases s3
  refine Inflate_run (most := 0) (by decide) r3 (fun k hk => by injection hk with hk; have hk : w4.heap.size = k := hk; omega) (by decide) run3.1 s3 (by intro _ _ e; cases e) (fun h => absurd h m3) (fun _ h => by cases h) (fun n hn w6 hB6 => ?_)
  injection hn with hn
  subst hn
  have e16 : Below w2.heap.size w2 w6 := hB3.trans ((hB4.mono (by omega)).trans ((hB5.mono (by omega)).trans (hB6.mono (by omega))))
  have e46 : Below w4.heap.size w4 w6 := hB5.trans (hB6.mono (by omega))
  have hBall : Below w.heap.size w w6 := hB1.trans ((hB2.mono (by omega)).trans (e16.mono (by omega)))
  refine ⟨_, _, run_bytes_strB (ho1.ext e16).rd, ?_⟩
  dsimp only
  rw [strB_toList]
  refine cond_t (by decide +kernel) ?_
  rw [k3]
  refine cond_t (by decide) (cond_t rfl ?_)
  refine ⟨_, _, run_bytes_strB (ho2.ext e46).rd, ?_⟩
  dsimp only
  rw [strB_toList]
  refine cond_t (by decide +kernel) ?_
  rw [j3]
  exact cond_t (by decide) (cond_t rfl (hK w6 hBall))
end Go.Proofs.Yteffnkpplhcomaa
