/- The program's Cut. -/
import Derived.Test.YtpadlibcalomnaaDoorC6
set_option linter.unusedVariables false
namespace Go.Proofs.YtpadlibcalomnaaDoor
open Go.Vc Go.RowKit
set_option maxRecDepth 400000
section
variable {w : World}
structure SI (w0 w1 : World) (s : Slc) (M : List ItL) : Prop where
  ex : ∃ ys, Go.Vc.Own E_script_Item w1 w0.heap.size s ys ∧ Ows w1 w0.heap.size ys M
theorem SI.ext {w0 w1 w2 : World} {s : Slc} {M : List ItL} (h : SI w0 w1 s M) (hB : Below w1.heap.size w1 w2) : SI w0 w2 s M := by
  obtain ⟨ys, h3, h4⟩ := h
  exact ⟨ys, h3.ext hB, h4.ext hB⟩
theorem SI.push {w0 w1 : World} {s : Slc} {M : List ItL} (h : SI w0 w1 s M) (hB0 : Below w0.heap.size w0 w1) (hM : M.length ≤ 10000000) {x : T_script_Item} {it : ItL} {vs : List Value} (hv : T_script_Item.rep.cells x = vs) (hf : Go.Vc.Own E_uint8 w1 w0.heap.size x.Feed it.f) (hz : x.Size = it.z) (hr : x.Rows = it.r) (hc : x.Cols = it.c)
    {K : Slc → World → Prop} (hK : ∀ r w3, SI w0 w3 r (M ++ [it]) → Below w0.heap.size w0 w3 → w1.heap.size ≤ w3.heap.size → K r w3) :
    nw ty_script_Item vs w1 fun a w2 => apK PG #[ty_sl_script_Item, ty_sl_script_Item] ty_sl_script_Item s ⟨some a, 1, 1⟩ w2 K := by
  obtain ⟨ys, h3, h4⟩ := h
  have hyl := h4.len
  have hsz := hB0.size
  refine snoc_own (E := E_script_Item) (y := x) sT_sl_script_Item h3 hv (by omega) (by rw [by_sl_script_Item]; omega) (by unfold maxLen; omega) fun r w3 hr3 hch _ => ?_
  have hlo := h3.lt
  have hs3 := hch.size
  refine hK r w3 ⟨ys ++ [x], hr3, (h4.chg hch fun i y hy k hk => h4.ne_row (by decide) h3 i y hy k hk).snoc ⟨hf.chg hch fun k hk => own_ne_row hf h3 (by decide) k hk, hz, hr, hc⟩⟩ (hB0.trans (hch.below (by omega) fun i hi e => by have := (hlo i e).1; omega)) hs3
theorem it_eta (x : ItL) : (⟨x.f, x.z, x.r, x.c⟩ : ItL) = x := rfl
theorem sCut_spec {sizes l : Slc} {zs : List Int} {xs : List T_script_Item} {L : List ItL} (hs : Rd E_int w sizes zs) (hz100 : zs.length ≤ 100) (hl : Rd E_script_Item w l xs) (hx : Ats w xs L) (hL : L.length + sumF L ≤ 4096) {K : Slc → World → Prop} (hK : ∀ q ys w', Rd E_script_Item w' q ys → Ats w' ys (cutItems zs L) → Below w.heap.size w w' → K q w') : c_script_Cut sizes l w K := by
  refine call_script_Cut _ _ ?_
  unfold sh_script_Cut
  refine contains_spec hs (by omega) ?_
  have hn := hl.n
  have lx := hx.len
  have zn := hs.n
  refine loopP_rule (fun (s : Slc × Int × Int × Unit) w1 => ∃ (i k : Nat), s.2.2.1 = i ∧ i ≤ L.length ∧ s.2.1 = k ∧ ((L.take i).foldl (cutS zs) ([], 0)).2 = k ∧ Below w.heap.size w w1 ∧ SI w w1 s.1 ((L.take i).foldl (cutS zs) ([], 0)).1) (fun s => L.length - s.2.2.1.toNat)
    ⟨0, 0, rfl, by omega, rfl, rfl, Below.refl _ _, [], Own.nil _ _ _, Ows.nil _ _⟩ ?_
  rintro ⟨q, k, i, u⟩ w1 ⟨m, k, hi, hm, hk, hk2, hB1, hj⟩ I hI
  dsimp only at hi hj hk ⊢
  subst hi hk
  by_cases hlt : m < L.length
  · refine cond_t (by simp; omega) ?_
    have hl1 := hl.ext hB1
    obtain ⟨x, it, hxm, him, hxi⟩ := (hx.ext hB1).get hlt
    obtain ⟨x', it', hxm', him', hxw⟩ := hx.get hlt
    obtain rfl : x = x' := Option.some.inj (hxm.symm.trans hxm')
    obtain rfl : it = it' := Option.some.inj (him.symm.trans him')
    have cx := hl1.at_ m x hxm
    have ixa : ∀ {K : Addr → Prop}, K (l.at_ 4 m) → ixK l (m : Int) 4 K := fun {K} h => hl1.ix (k := 4) rfl (by omega) (by omega) fun _ => h
    have e2 : IntKind.i64.wrap ((m : Int) + (1 : Int)) = ((m + 1 : Nat) : Int) := by rw [i64_in (by omega)]; simp
    have htk : (L.take (m + 1)).foldl (cutS zs) ([], 0) = cutS zs ((L.take m).foldl (cutS zs) ([], 0)) it := by
      rw [List.take_succ_eq_append_getElem hlt, List.foldl_append]
      rw [List.getElem?_eq_getElem hlt] at him
      rw [Option.some.inj him]
      rfl
    have hsum : ∀ j, sumF (L.take j) ≤ sumF L := fun j => by
      have : sumF L = sumF (L.take j) + sumF (L.drop j) := by
        conv => lhs; rw [← List.take_append_drop j L]
        unfold sumF
        rw [List.map_append, List.sum_append]
      omega
    have hlen : ∀ j, j ≤ L.length → ((L.take j).foldl (cutS zs) ([], 0)).1.length ≤ 1000000 ∧ (someB zs = true → ((L.take j).foldl (cutS zs) ([], 0)).2 < zs.length) := fun j hj => by
      obtain ⟨h1, h2⟩ := cut_len zs (L.take j) ([], 0) fun h => someB_pos h
      refine ⟨?_, h2⟩
      have h3 := hsum j
      have h4 : (L.take j).length ≤ L.length := by rw [List.length_take]; omega
      have h5 : (zs.length + 1) * sumF (L.take j) ≤ 101 * 4096 := Nat.mul_le_mul (by omega) (by omega)
      have h6 : (zs.length + 1) * (L.take j).length ≤ 101 * 4096 := Nat.mul_le_mul (by omega) (by omega)
      simp only [List.length_nil] at h1
      omega
    have hitl : it.f.length ≤ 4096 := by
      have h1 := sumF_take L him
      have h2 := hsum (m + 1)
      omega
    obtain ⟨st, hst⟩ : ∃ st, (L.take m).foldl (cutS zs) ([], 0) = st := ⟨_, rfl⟩
    have hl0 := hlen m (by omega)
    have hl1' := hlen (m + 1) (by omega)
    rw [htk] at hl1'
    rw [hst] at hj hk2 htk hl0 hl1'
    rw [e2]
    have hgo : ∀ (r : Slc) (k' : Nat) (w3 : World), SI w w3 r (cutS zs st it).1 → (cutS zs st it).2 = k' → Below w.heap.size w w3 → I (r, (k' : Int), ((m + 1 : Nat) : Int), ()) w3 := by
      intro r k' w3 h3 hk' hB3
      refine hI _ _ ⟨m + 1, k', rfl, by omega, rfl, by rw [htk]; exact hk', hB3, ?_⟩ (by simp; omega)
      rw [htk]
      exact h3
    refine ixa (ldS_of (x := x) cx ?_)
    refine box_of (t := ty_script_Item) (vs := T_script_Item.rep.cells x) rfl fun w3 hb3 hB3 hs3 => ?_
    have hB13 := hB1.trans (hB3.mono hB1.size)
    have hj3 := hj.ext hB3
    have hx3 := hxi.ext hB3
    have cb : ∀ (j : Nat) v, (T_script_Item.rep.cells x)[j]? = some v → w3.cell? ((⟨w1.heap.size, 0, none⟩ : Addr).add j) = some v := fun j v hv => hb3.cells j v hv
    have hfn := hx3.f.n
    refine joinP_of fun J2 hJ2 => joinP_of fun J4 hJ4 => ?_
    have hkeep : (it.z || !someB zs || decide (it.f = [])) = true → J4 (true, ()) w3 := by
      intro hc
      have hcs : cutS zs st it = (st.1 ++ [it], st.2) := by unfold cutS; rw [if_pos hc]
      refine hJ4 _ _ (cond_t rfl (ldS_of (x := x) hb3.cells (twin_spec hx3.f (by omega) fun c w11 hc11 hB11 => ?_)))
      have hB111 := hB13.trans (hB11.mono hB13.size)
      refine (hj3.ext hB11).push hB111 (by omega) (x := ⟨c, x.Size, x.Rows, x.Cols⟩) (it := it) rfl (hc11.base hB13.size) hx3.z hx3.r hx3.c fun r w13 h13 hB13' _ => ?_
      rw [hcs] at hgo
      exact hgo r k w13 h13 hk2 hB13'
    have hcut : (it.z || !someB zs || decide (it.f = [])) = false → J4 (false, ()) w3 := by
      intro hc
      have hcs : cutS zs st it = (st.1 ++ (cutA zs st.2 it.f).1.map bitOf, (cutA zs st.2 it.f).2) := by unfold cutS; rw [if_neg (by rw [hc]; simp)]
      simp only [Bool.or_eq_false_iff, Bool.not_eq_false', decide_eq_false_iff_not] at hc
      obtain ⟨⟨hiz, hsome⟩, hne⟩ := hc
      have hkz : k < zs.length := by rw [← hk2]; exact hl0.2 hsome
      refine hJ4 _ _ (cond_f rfl (hJ2 _ _ (ldSl_of (x := x.Feed) (cb 0 _ rfl) ?_)))
      refine loopP_rule (fun (s : Slc × Int × Slc × Unit) w6 => ∃ (k' : Nat) (b : List UInt8) (done : List (List UInt8)), s.2.1 = k' ∧ k' < zs.length ∧ Rd E_uint8 w s.2.2.1 b ∧ cutA zs st.2 it.f = (done ++ (cutA zs k' b).1, (cutA zs k' b).2) ∧ Below w.heap.size w w6 ∧ SI w w6 s.1 (st.1 ++ done.map bitOf) ∧ (s.2.2.1.n = b.length ∧ b.length ≤ 4096)) (fun s => meas zs s.2.1.toNat (List.replicate s.2.2.1.n 0))
        ⟨k, it.f, [], rfl, hkz, hxw.f, by rw [hk2]; rfl, hB13, by simpa using hj3, hfn, hitl⟩ ?_
      rintro ⟨r, k', b, u⟩ w6 ⟨k', bs, done, hk', hk'z, hrb, hcA, hB6, hj6, hbn, hb4⟩ I3 hI3
      dsimp only at hk' hrb hj6 hbn ⊢
      subst hk'
      have hdl : (st.1 ++ done.map bitOf).length ≤ 1000000 := by
        have := hl1'.1
        rw [hcs, hcA] at this
        simp only [List.length_append, List.length_map] at this ⊢
        omega
      by_cases hb : bs = []
      · refine cond_f (decide_eq_false (by rw [hbn, hb]; simp)) ?_
        rw [hb, cutA_nil] at hcA
        rw [hcs, hcA] at hgo
        simp only [List.append_nil] at hgo
        exact hgo r k' w6 hj6 rfl hB6
      · have hbl : 0 < bs.length := List.length_pos_iff.2 hb
        refine cond_t (decide_eq_true (by rw [hbn]; omega)) ?_
        obtain ⟨z, hz⟩ : ∃ z, zs[k']? = some z := ⟨_, List.getElem?_eq_getElem hk'z⟩
        have hs6 := hs.ext hB6
        refine hs6.ix (k := 1) rfl (by omega) (by omega) fun hcell => ?_
        refine ldI_of (x := z) (hs6.at_ k' z hz 0 _ rfl) ⟨by omega, ?_⟩
        have hzd : zs[k']?.getD 0 = z := by rw [hz]; rfl
        have hcl := clamp_if z bs.length
        have hcle := clamp_le z bs.length
        rw [hbn, hcl]
        have hrb6 := hrb.ext hB6
        refine hrb6.slK3 (l := 0) (m := clampN z bs.length) rfl (.inl ⟨rfl, rfl⟩) rfl rfl (by omega) hcle fun hrp => ?_
        rw [List.drop_zero] at hrp
        refine twin_spec (x := ⟨_, false, 0, 0⟩) hrp (by rw [List.length_take]; omega) fun c w7 hc7 hB7 => ?_
        have hB67 := hB6.trans (hB7.mono hB6.size)
        refine (hj6.ext hB7).push hB67 (by omega) (x := ⟨c, false, 0, 0⟩) (it := bitOf (bs.take (clampN z bs.length))) rfl (hc7.base hB6.size) rfl rfl rfl fun r9 w9 h9 hB9 _ => ?_
        have hrb9 := hrb.ext hB9
        refine hrb9.slK (l := clampN z bs.length) (m := bs.length) rfl (.inr rfl) (.inl ⟨rfl, rfl⟩) hcle (Nat.le_refl _) fun hrd => ?_
        have hmod : (IntKind.i64.wrap ((k' : Int) + (1 : Int))).tmod ((sizes.n : Nat) : Int) = (((k' + 1) % zs.length : Nat) : Int) := by
          rw [i64_in (by omega), zn, show (k' : Int) + 1 = ((k' + 1 : Nat) : Int) by simp, Int.ofNat_tmod]
        rw [hmod]
        have hrw := hrb.part (l := clampN z bs.length) (m := bs.length) hcle (Nat.le_refl _)
        rw [List.take_length] at hrw
        have hstep := cutA_step hsome hk'z hb
        rw [hzd] at hstep
        have hfall := meas_falls hsome hk'z hb
        rw [hzd] at hfall
        refine hI3 _ _ ⟨(k' + 1) % zs.length, bs.drop (clampN z bs.length), done ++ [bs.take (clampN z bs.length)], rfl, Nat.mod_lt _ (by omega), hrw, ?_, hB9, ?_, ?_⟩ ?_
        · rw [hcA, hstep]
          simp
        · rw [List.map_append, ← List.append_assoc]
          exact h9
        · exact ⟨by show bs.length - _ = _; rw [List.length_drop], by rw [List.length_drop]; omega⟩
        · have hml : ∀ (a : Nat) (u v : List UInt8), u.length = v.length → meas zs a u = meas zs a v := fun a u v e => by unfold meas; rw [e]
          have e1 := hml k' (List.replicate b.n 0) bs (by rw [List.length_replicate, hbn])
          have e3 := hml ((k' + 1) % zs.length) (List.replicate (bs.length - clampN z bs.length) 0) (bs.drop (clampN z bs.length)) (by rw [List.length_replicate, List.length_drop])
          show meas zs (((k' + 1) % zs.length : Nat) : Int).toNat (List.replicate (bs.length - clampN z bs.length) 0) < meas zs (k' : Int).toNat (List.replicate b.n 0)
          rw [Int.toNat_natCast, Int.toNat_natCast, e1, e3]
          exact hfall
    refine ldB_of (x := x.Size) (cb 1 _ rfl) ?_
    rw [hx3.z]
    cases hiz : it.z with
    | true => exact cond_t rfl (hkeep (by rw [hiz]; rfl))
    | false =>
      refine cond_f rfl ?_
      rw [hiz, Bool.false_or] at hkeep hcut
      cases hsome : someB zs with
      | false => exact cond_t rfl (hkeep (by rw [hsome]; rfl))
      | true =>
        refine cond_f rfl (ldSl_of (x := x.Feed) (cb 0 _ rfl) ?_)
        rw [hsome] at hkeep hcut
        simp only [Bool.not_true, Bool.false_or] at hkeep hcut
        by_cases he : it.f = []
        · have : (((x.Feed.n : Nat) : Int) == (0 : Int)) = true := by rw [hfn, he]; rfl
          rw [this]
          exact hkeep (decide_eq_true he)
        · have : (((x.Feed.n : Nat) : Int) == (0 : Int)) = false := by
            have := List.length_pos_iff.2 he
            simp
            omega
          rw [this]
          exact hcut (decide_eq_false he)
  · refine cond_f (by simp; omega) ?_
    obtain rfl : m = L.length := by omega
    rw [List.take_length] at hj
    obtain ⟨ys, h3, h4⟩ := hj
    exact hK q ys w1 h3.rd h4.ats hB1
end
end Go.Proofs.YtpadlibcalomnaaDoor
