/- The law of fronts: a stream that is cut is short. -/
import Derived.Test.YteffnkpplhcomaaB19
namespace Go.Proofs.Yteffnkpplhcomaa
open Go.Vc Go.RowKit
set_option maxRecDepth 400000
theorem stored_run (bs : List UInt8) (most : Nat) (h : bs.length ≤ most) : ∃ c', Ch most (storeL bs) cfg0 0 c' (8 * (storeL bs).length) ∧ c'.mode = 5 ∧ c'.hist = bs := by
  obtain ⟨c', h1, h2, h3⟩ := run_store (most := most) (B := storeL bs) (tail := []) bs.length bs 0 cfg0 (Nat.le_refl _) (by simp) rfl (by show 0 + bs.length ≤ most; omega)
  exact ⟨c', by simpa using h1, h2, by rw [h3]; rfl⟩
theorem fixed_run {ys bs : List UInt8} (most : Nat) (h1 : le ys = (fixedN bs).1) (h2 : ys.length = ((fixedN bs).2 + 7) / 8) (h : bs.length ≤ most) : ∃ c', Ch most ys cfg0 0 c' (fixedN bs).2 ∧ c'.mode = 5 ∧ c'.hist = bs := by
  have := run_fixed (most := most) (tail := []) h1 h2 h
  rwa [List.append_nil] at this
theorem fixedN_le (bs : List UInt8) : (fixedN bs).2 ≤ 12 + 9 * bs.length := by
  have h := bytesN_le bs
  obtain ⟨_, _, _, _, h9⟩ := kN_get (y := 256) (by decide)
  have e : (fixedN bs).2 = (bytesN bs).2 + kN 256 := rfl
  omega
theorem fronts_law {w : World} {b : Slc} {bs : List UInt8} {fixed : Bool} {cut : Int} {K : Bool → World → Prop} (hb : Rd E_uint8 w b bs) (hK : ∀ w', Below w.heap.size w w' → K true w') : c_phosphorlaw5_InflateFronts b fixed cut w K := by
  refine call_phosphorlaw5_InflateFronts _ _ _ ?_
  unfold sh_phosphorlaw5_InflateFronts
  rw [hb.n]
  refine known_spec fun w1 hB1 => cond_f rfl ?_
  have hs1 := hB1.size
  refine cond_of (fun _ => hK w1 hB1) (fun hn => ?_)
  have hn : bs.length ≤ 600 := by have := of_decide_eq_false hn; omega
  refine Store_spec (hb.ext hB1) (by omega) fun t w2 ho2 hB2 => ?_
  have hs2 := hB2.size
  have hB12 : Below w.heap.size w w2 := hB1.trans (hB2.mono hs1)
  refine joinP_of fun J hJ => ?_
  have go : ∀ (t : Slc) (ys : List UInt8) w3 c' p', Own E_uint8 w3 w.heap.size t ys → Below w.heap.size w w3 → Ch bs.length ys cfg0 0 c' p' → ys.length = (p' + 7) / 8 → 0 < ys.length → ys.length ≤ 10000 → J (t, ()) w3 := fun t ys w3 c' p' ho hB hch hlen hpos hle => hJ _ _ (by
    clear hJ
    dsimp only
    have hs3 := hB.size
    rw [ho.rd.n]
    refine cond_f (beq_eq_false_iff_ne.2 (by omega)) ⟨by omega, ?_⟩
    refine joinP_of fun J2 hJ2 => ?_
    have go2 : ∀ q : Nat, q < ys.length → J2 ((q : Int), ()) w3 := fun q hq => hJ2 _ _ (by
      clear hJ2
      dsimp only
      refine ho.rd.slK (l := 0) (m := q) rfl (.inl ⟨rfl, rfl⟩) (.inr rfl) (by omega) (by omega) fun hp => ?_
      rw [List.drop_zero] at hp
      have hql : (ys.take q).length = q := by rw [List.length_take]; omega
      have hch2 : Ch bs.length (ys.take q ++ ys.drop q) cfg0 0 c' p' := by rw [List.take_append_drop]; exact hch
      obtain ⟨c1, a1, h1, s1, m1⟩ := hch2.front (by omega) (by omega)
      refine Inflate_run (most := bs.length) (by omega) hp (fun k hk => ?_) (by omega) h1 s1 (by intro _ _ e; cases e) (fun h => absurd h m1) (fun _ _ w4 hB4 => ?_) (fun n h => by cases h)
      · obtain ⟨a, ha, rfl⟩ := slk.1 hk
        obtain ⟨a', ha', e⟩ := cut_block ha
        have := (ho.lt a'.block (slk.2 ⟨a', ha', rfl⟩)).2
        omega
      · exact cond_t rfl (cond_t rfl (hK w4 (hB.trans (hB4.mono hs3)))))
    have hab : (cut.tmod ((ys.length : Nat) : Int)).natAbs < ys.length := by
      rw [Int.natAbs_tmod, Int.natAbs_natCast]
      exact Nat.mod_lt _ hpos
    refine cond_of (fun h => ?_) (fun h => ?_)
    · have h := of_decide_eq_true h
      rw [wrap64_id (by omega)]
      obtain ⟨q, hq⟩ : ∃ q : Nat, cut.tmod ((ys.length : Nat) : Int) + ((ys.length : Nat) : Int) = (q : Int) := ⟨(cut.tmod ((ys.length : Nat) : Int) + ((ys.length : Nat) : Int)).toNat, by omega⟩
      rw [hq]
      exact go2 q (by omega)
    · have h := of_decide_eq_false h
      obtain ⟨q, hq⟩ : ∃ q : Nat, cut.tmod ((ys.length : Nat) : Int) = (q : Int) := ⟨(cut.tmod ((ys.length : Nat) : Int)).toNat, by omega⟩
      rw [hq]
      exact go2 q (by omega))
  cases fixed with
  | true =>
    refine cond_t rfl ?_
    refine Fixed_spec (hb.ext hB12) (by omega) fun r ys w3 ho3 hle3 hlen3 hB3 => ?_
    obtain ⟨c', hch, _, _⟩ := fixed_run bs.length hle3 hlen3 (Nat.le_refl _)
    have := fixedN_le bs
    have h3 : 3 ≤ (bytesN bs).2 := (foldN_goes bs (3, 3)).1
    have e : (fixedN bs).2 = (bytesN bs).2 + kN 256 := rfl
    exact go r ys w3 c' _ (ho3.base (by omega)) (hB12.trans (hB3.mono (by omega))) hch hlen3 (by omega) (by omega)
  | false =>
    refine cond_f rfl ?_
    obtain ⟨c', hch, _, _⟩ := stored_run bs bs.length (Nat.le_refl _)
    have := storeL_length _ bs (Nat.le_refl _)
    have hp : 0 < (storeL bs).length := by
      rw [storeL, dif_pos (by omega)]; simp [headS]
    exact go t _ w2 c' _ (ho2.base hs1) hB12 hch (by omega) hp (by omega)
end Go.Proofs.Yteffnkpplhcomaa
