/- Grids of the program: Scroll. -/
import Derived.Test.YtgejghejnibocaaDoorG5
namespace Go.Proofs.YtgejghejnibocaaDoor
open Go.Vc Go.RowKit

theorem take_drop_take {α : Type} (l : List α) (a m : Nat) : ((l.drop a).take m) = (l.take (a + m)).drop a := by
  rw [List.drop_take]
  congr 1
  omega

/-- The pushes of the lines that go, one behind the other. -/
theorem pushes {w : World} {base m : Nat} {f : Foot} {S : GS} {p : Slc} {ls : List Slc} {xss : List (List Cell)} {Fin : Int × Unit → World → Prop} (h : GridM w base f S) (hp : Rd slE w p ls) (hpn : ls.length = m) (hl : Lines w base ls xss) (hpf : ∀ a, p.a = some a → ¬ gridS f a.block)
    (hmost : S.most ≤ 100000) (hbase : base ≤ w.heap.size) (hm : m ≤ 100000)
    (hfin : ∀ i f' w', GridM w' base f' { S with old := pushAll S.most S.old xss } → f.to f' w.heap.size → f'.ls = f.ls → Chg (gridS f) w w' → Fin (i, ()) w') :
    loopP (σ := Int × Unit) (fun I3 s_2 w12 =>
      cond (decide (s_2.1 < ((p.n : Nat) : Int)))
        (ixK p s_2.1 1 fun t127 =>
         ldSl t127 w12 fun t128 =>
         ldP ((⟨f.g, 0, none⟩ : Addr).add 0) w12 fun t132 =>
         c_ring_Ring_line_Line_Push t132 t128 w12 fun _ _ w13 =>
         I3 ((IntKind.i64.wrap (s_2.1 + (1 : Int))), ()) w13)
        (Fin s_2 w12)) (0, ()) w := by
  have hpn' : p.n = m := by rw [hp.n, hpn]
  have hxl : xss.length = m := by rw [← hl.1, hpn]
  refine loopP_rule (fun (s : Int × Unit) w2 => ∃ (k : Nat) (f' : Foot), s.1 = k ∧ k ≤ m ∧ GridM w2 base f' { S with old := pushAll S.most S.old (xss.take k) } ∧ f.to f' w.heap.size ∧ f'.ls = f.ls ∧ Chg (gridS f) w w2) (fun s => m - s.1.toNat) ⟨0, f, rfl, by omega, by simpa [pushAll] using h, Foot.to.refl _ _, rfl, Chg.refl _ _⟩ ?_
  rintro ⟨i, _⟩ w2 ⟨k, f', rfl, hk, h2, hf, hfl, hc⟩ I hI
  dsimp only at *
  rw [hpn']
  refine cond_of (fun hlt => ?_) (fun hge => ?_)
  · have hlt := of_decide_eq_true hlt
    have hp2 : Rd slE w2 p ls := hp.chg hc hpf
    have hl2 : Lines w2 base ls xss := hl.chg hc h.notC
    refine hp2.ix rfl (by omega) (by omega) fun hcell => ?_
    have hlk : ls[k]? = some (ls[k]'(by omega)) := List.getElem?_eq_getElem _
    have hxk : xss[k]? = some (xss[k]'(by omega)) := List.getElem?_eq_getElem _
    refine ldSl_of (x := ls[k]'(by omega)) (by simpa using hcell 0 _ rfl) ?_
    have hb2 := h2.blk
    rw [hf.g, hf.r] at hb2
    refine ldP_of (x := some ⟨f.r, 0, none⟩) (hb2.cells 0 _ rfl) ?_
    have hr2 := h2.ring
    rw [hf.r] at hr2
    have hsz := hc.size
    refine Push_spec hr2 (hl2.2 k _ _ hlk hxk) hmost (by omega) fun u b s' w3 hr3 hc3 hs' => ?_
    rw [wrap64_id (by omega)]
    have sub : ∀ i, ringS f.r f'.rs i → gridS f i ∨ w.heap.size ≤ i := fun i hi => by
      refine hf.old i ?_
      rcases hi with e | e
      · exact .inr (.inl (by rw [e, hf.r]))
      · exact .inr (.inr (.inr e))
    have hc' : Chg (gridS f) w w3 := hc.trans hc3 fun i hi hs => by
      rcases sub i hs with e | e
      · exact e
      · omega
    have notr : ∀ k cs, ringS f.r f'.rs k → ¬ Blk w2 k 42 cs := hr2.notC
    obtain ⟨ls', ho', hl'⟩ := h2.row
    obtain ⟨g1, g2, g3⟩ := h2.g_ne
    refine hI _ _ ⟨k + 1, { f' with rs := s' }, by simp, by omega, ⟨?_, h2.hg, ⟨ls', ho'.chg hc3 fun g hg hs => ?_, hl'.chg hc3 notr⟩, ?_, ?_⟩, ?_, hfl, hc'⟩ (by simp; omega)
    · refine h2.blk.chg hc3 fun e => ?_
      rcases e with e | e
      · exact g1 (by rw [e, hf.r])
      · exact (g3 _ e).1 rfl
    · rcases hs with e | e
      · exact (g2 g hg).2 (by rw [e, hf.r])
      · exact h2.ne g hg e
    · show RingM w3 base f'.r s' S.most (pushAll S.most S.old (xss.take (k + 1)))
      rw [pushAll_succ _ _ _ _ _ hxk, hf.r]
      exact hr3
    · intro k' hk' e
      rcases hs' with e' | ⟨q, e', hq⟩
      · rw [e'] at e; exact h2.ne k' hk' e
      · rw [e'] at e
        cases e
        have := (h2.below k' (.inr (.inr (.inl hk')))).2
        omega
    · refine ⟨hf.g, hf.r, hf.ls, ?_⟩
      rcases hs' with e' | ⟨q, e', hq⟩
      · rcases hf.rs with e | e
        · exact .inl (e'.trans e)
        · exact .inr fun k' hk' => e k' (by rw [← e']; exact hk')
      · exact .inr fun k' hk' => by rw [e'] at hk'; cases hk'; omega
  · have hge := of_decide_eq_false hge
    have : k = m := by omega
    subst this
    rw [List.take_of_length_le (by omega)] at h2
    exact hfin _ f' w2 h2 hf hfl hc

end Go.Proofs.YtgejghejnibocaaDoor
