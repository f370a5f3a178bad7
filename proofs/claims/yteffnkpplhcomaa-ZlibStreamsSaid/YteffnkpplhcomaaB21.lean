/- The law of caps. -/
import Derived.Test.YteffnkpplhcomaaB20
namespace Go.Proofs.Yteffnkpplhcomaa
open Go.Vc Go.RowKit
set_option maxRecDepth 400000
theorem caps_law {w : World} {b : Slc} {bs : List UInt8} {fixed : Bool} {most : Int} {K : Bool → World → Prop} (hb : Rd E_uint8 w b bs) (hK : ∀ w', Below w.heap.size w w' → K true w') : c_phosphorlaw5_InflateCaps b fixed most w K := by
  refine call_phosphorlaw5_InflateCaps _ _ _ ?_
  unfold sh_phosphorlaw5_InflateCaps
  refine known_spec fun w1 hB1 => cond_f rfl ?_
  have hs1 := hB1.size
  refine joinP_of fun J1 hJ1 => ?_
  rw [hb.n]
  refine cond_of (fun _ => hK w1 hB1) (fun hn => cond_of (fun _ => hK w1 hB1) (fun hm0 => cond_of (fun _ => hK w1 hB1) (fun hm1 => hJ1 _ _ ?_)))
  have hn : bs.length ≤ 600 := by have := of_decide_eq_false hn; omega
  have hm0 := of_decide_eq_false hm0
  have hm1 := of_decide_eq_false hm1
  obtain ⟨m, rfl⟩ : ∃ m : Nat, most = (m : Int) := ⟨most.toNat, by omega⟩
  clear hJ1
  refine Store_spec (hb.ext hB1) (by omega) fun t w2 ho2 hB2 => ?_
  have hs2 := hB2.size
  have hB12 : Below w.heap.size w w2 := hB1.trans (hB2.mono hs1)
  refine joinP_of fun J hJ => ?_
  have go : ∀ (t : Slc) (ys : List UInt8) w3 c' p', Own E_uint8 w3 w.heap.size t ys → Below w.heap.size w w3 → Ch (max m bs.length) ys cfg0 0 c' p' → c'.mode = 5 → c'.hist = bs → ys.length ≤ 10000 → J (t, ()) w3 := fun t ys w3 c' p' ho hB hch h5 hh hle => hJ _ _ (by
    clear hJ
    dsimp only
    have hs3 := hB.size
    have hbn := hb.n
    have hlt : ∀ k, t.blk = some k → k < w3.heap.size := fun k hk => (ho.lt k hk).2
    rcases hch.cap (small := m) (Nat.zero_le _) with h | ⟨c1, a1, h1, s1⟩
    · have hmost := h.most (Nat.zero_le _)
      rw [hh] at hmost
      refine Inflate_run (most := m) (by omega) ho.rd hlt (by omega) h (step1_five h5) (by intro _ _ e; cases e) (fun _ o w4 ho4 hB4 => ?_) (fun h' => absurd h5 h') (fun n h' => by cases h')
      have hB04 := hB.trans (hB4.mono hs3)
      refine cond_f (decide_eq_false (by omega)) (cond_t rfl ?_)
      rw [hh] at ho4
      refine ⟨_, _, run_bytes_strB ho4.rd, ?_⟩
      dsimp only
      have hb4 : Rd E_uint8 w4 b bs := hb.ext hB04
      refine ⟨_, _, run_bytes_strB hb4, ?_⟩
      dsimp only
      rw [beq_self_eq_true]
      exact hK w4 hB04
    · have hlt2 : m < bs.length := by
        by_cases hmm : m < bs.length
        · exact hmm
        · exfalso
          have e : max m bs.length = m := by omega
          rw [e] at hch
          obtain ⟨rfl, rfl⟩ := hch.same h1 (by rw [step1_five h5]; intro _ _ e; cases e) (by rw [s1]; intro _ _ e; cases e)
          rw [step1_five h5] at s1
          cases s1
      refine Inflate_run (most := m) (by omega) ho.rd hlt (by omega) h1 s1 (by intro _ _ e; cases e) (fun h' => by rw [step1_five h'] at s1; cases s1) (fun _ h' => by cases h') (fun n hn w4 hB4 => ?_)
      injection hn with hn
      subst hn
      exact cond_t (decide_eq_true (by omega)) (cond_t rfl (cond_t rfl (hK w4 (hB.trans (hB4.mono hs3))))))
  cases fixed with
  | true =>
    refine cond_t rfl ?_
    refine Fixed_spec (hb.ext hB12) (by omega) fun r ys w3 ho3 hle3 hlen3 hB3 => ?_
    obtain ⟨c', hch, h5, hh⟩ := fixed_run (max m bs.length) hle3 hlen3 (by omega)
    have := fixedN_le bs
    exact go r ys w3 c' _ (ho3.base (by omega)) (hB12.trans (hB3.mono (by omega))) hch h5 hh (by omega)
  | false =>
    refine cond_f rfl ?_
    obtain ⟨c', hch, h5, hh⟩ := stored_run bs (max m bs.length) (by omega)
    have := storeL_length _ bs (Nat.le_refl _)
    exact go t _ w2 c' _ (ho2.base hs1) hB12 hch h5 hh (by omega)
end Go.Proofs.Yteffnkpplhcomaa
