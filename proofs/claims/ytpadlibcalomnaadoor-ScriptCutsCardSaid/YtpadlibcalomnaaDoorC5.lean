/- The document's Join walked. -/
import Derived.Test.YtpadlibcalomnaaDoorC4
set_option linter.unusedVariables false
namespace Go.Proofs.YtpadlibcalomnaaDoor
open Go.Vc Go.RowKit
set_option maxRecDepth 400000
section
variable {w : World}
structure RI (w0 w1 : World) (s : Slc) (M : List ItL) : Prop where
  ex : ∃ ys, Go.Vc.Own E_phosphorref26_Item w1 w0.heap.size s ys ∧ Ows w1 w0.heap.size ys M
theorem RI.ext {w0 w1 w2 : World} {s : Slc} {M : List ItL} (h : RI w0 w1 s M) (hB : Below w1.heap.size w1 w2) : RI w0 w2 s M := by
  obtain ⟨ys, h3, h4⟩ := h
  exact ⟨ys, h3.ext hB, h4.ext hB⟩
theorem RI.n {w0 w1 : World} {s : Slc} {M : List ItL} (h : RI w0 w1 s M) : s.n = M.length := by
  obtain ⟨ys, h3, h4⟩ := h
  rw [← h4.len]
  exact h3.rd.n
theorem RI.push {w0 w1 : World} {s : Slc} {M : List ItL} (h : RI w0 w1 s M) (hB0 : Below w0.heap.size w0 w1) (hM : M.length ≤ 10000000) {x : T_script_Item} {it : ItL} {vs : List Value} (hv : T_script_Item.rep.cells x = vs) (hf : Go.Vc.Own E_uint8 w1 w0.heap.size x.Feed it.f) (hz : x.Size = it.z) (hr : x.Rows = it.r) (hc : x.Cols = it.c)
    {K : Slc → World → Prop} (hK : ∀ r w3, RI w0 w3 r (M ++ [it]) → Below w0.heap.size w0 w3 → w1.heap.size ≤ w3.heap.size → K r w3) :
    nw ty_phosphorref26_Item vs w1 fun a w2 => apK PG #[ty_sl_phosphorref26_Item, ty_sl_phosphorref26_Item] ty_sl_phosphorref26_Item s ⟨some a, 1, 1⟩ w2 K := by
  obtain ⟨ys, h3, h4⟩ := h
  have hyl := h4.len
  have hsz := hB0.size
  refine snoc_own (E := E_phosphorref26_Item) (y := x) sT_sl_phosphorref26_Item h3 hv (by omega) (by rw [by_sl_phosphorref26_Item]; omega) (by unfold maxLen; omega) fun r w3 hr3 hch _ => ?_
  have hlo := h3.lt
  have hs3 := hch.size
  refine hK r w3 ⟨ys ++ [x], hr3, (h4.chg hch fun i y hy k hk => h4.ne_row (by decide) h3 i y hy k hk).snoc ⟨hf.chg hch fun k hk => own_ne_row hf h3 (by decide) k hk, hz, hr, hc⟩⟩ (hB0.trans (hch.below (by omega) fun i hi e => by have := (hlo i e).1; omega)) hs3
theorem new_apL {x : Slc} {ys : List UInt8} {K : Slc → World → Prop} (hx : Rd E_uint8 w x ys) (hl : ys.length ≤ 100000000)
    (hK : ∀ r w', Go.Vc.Own E_uint8 w' w.heap.size r ys → Below w.heap.size w w' → K r w') : ∀ w1, Blk w1 w.heap.size ty_uint8 [] → Below w.heap.size w w1 → apK PG #[ty_sl_uint8, ty_sl_uint8] ty_sl_uint8 ⟨some ⟨w.heap.size, 0, none⟩, 0, 0⟩ x w1 K := fun w1 hb1 hB1 => by
  refine apK_own (E := E_uint8) (base := w.heap.size) (xs := []) sT_sl_uint8 (own_empty hb1 (Nat.le_refl _)) (hx.ext hB1) hB1.size (by rw [by_sl_uint8]; simp; omega) (by simp; unfold maxLen; omega) fun q w2 ho hg hr => hK q w2 ho (hB1.grown hg hB1.size fun k hk => by cases hk; exact Nat.le_refl _)
theorem rJoin_spec {l : Slc} {xs : List T_script_Item} {L : List ItL} (hl : Rd E_phosphorref26_Item w l xs) (hx : Ats w xs L) (hL : L.length ≤ 1000000 ∧ sumF L ≤ 1000000) {K : Slc → World → Prop} (hK : ∀ q ys w', Rd E_phosphorref26_Item w' q ys → Ats w' ys (joinItems L) → Below w.heap.size w w' → K q w') : c_phosphorref26_Join l w K := by
  refine call_phosphorref26_Join _ ?_
  unfold sh_phosphorref26_Join
  have hn := hl.n
  have lx := hx.len
  refine loopP_rule (fun (s : Slc × Int × Unit) w1 => ∃ i : Nat, s.2.1 = i ∧ i ≤ L.length ∧ Below w.heap.size w w1 ∧ RI w w1 s.1 (joinItems (L.take i))) (fun s => L.length - s.2.1.toNat)
    ⟨0, rfl, by omega, Below.refl _ _, [], Own.nil _ _ _, Ows.nil _ _⟩ ?_
  rintro ⟨q, i, u⟩ w1 ⟨m, hi, hm, hB1, hj⟩ I hI
  dsimp only at hi hj ⊢
  subst hi
  by_cases hlt : m < L.length
  · refine cond_t (by simp; omega) ?_
    have hl1 := hl.ext hB1
    obtain ⟨x, it, hxm, him, hxi⟩ := (hx.ext hB1).get hlt
    have cx := hl1.at_ m x hxm
    have ixa : ∀ {K : Addr → Prop}, K (l.at_ 4 m) → ixK l (m : Int) 4 K := fun {K} h => hl1.ix (k := 4) rfl (by omega) (by omega) fun _ => h
    have e2 : IntKind.i64.wrap ((m : Int) + (1 : Int)) = ((m + 1 : Nat) : Int) := by rw [i64_in (by omega)]; simp
    have htk : joinItems (L.take (m + 1)) = joinS (joinItems (L.take m)) it := by
      unfold joinItems
      rw [List.take_succ_eq_append_getElem hlt, List.foldl_append]
      rw [List.getElem?_eq_getElem hlt] at him
      rw [Option.some.inj him]
      rfl
    obtain ⟨M, hM⟩ : ∃ M, joinItems (L.take m) = M := ⟨_, rfl⟩
    have hMl : M.length ≤ 1000000 ∧ sumF M ≤ 1000000 := by
      rw [← hM]
      have h1 := join_len (L.take m) []
      have h2 : sumF (L.take m) ≤ sumF L := by
        have : sumF L = sumF (L.take m) + sumF (L.drop m) := by
          conv => lhs; rw [← List.take_append_drop m L]
          unfold sumF
          rw [List.map_append, List.sum_append]
        omega
      have h3 : (L.take m).length ≤ L.length := by rw [List.length_take]; omega
      have h4 : sumF ([] : List ItL) = 0 := rfl
      have h5 : ([] : List ItL).length = 0 := rfl
      unfold joinItems
      omega
    rw [hM] at hj htk
    rw [e2]
    have hgo : ∀ (r : Slc) (w3 : World), RI w w3 r (joinS M it) → Below w.heap.size w w3 → I (r, ((m + 1 : Nat) : Int), ()) w3 := by
      intro r w3 h3 hB3
      refine hI _ _ ⟨m + 1, rfl, by omega, hB3, ?_⟩ (by simp; omega)
      rw [htk]
      exact h3
    refine ixa (ldS_of (x := x) cx ?_)
    refine box_of (t := ty_phosphorref26_Item) (vs := T_script_Item.rep.cells x) rfl fun w3 hb3 hB3 hs3 => ?_
    have hB13 := hB1.trans (hB3.mono hB1.size)
    have hj3 := hj.ext hB3
    have hx3 := hxi.ext hB3
    have hxl : w1.heap.size < w3.heap.size := by omega
    have cb : ∀ (j : Nat) v, (T_script_Item.rep.cells x)[j]? = some v → w3.cell? ((⟨w1.heap.size, 0, none⟩ : Addr).add j) = some v := fun j v hv => hb3.cells j v hv
    have hfn := hx3.f.n
    refine ldB_of (x := x.Size) (cb 1 _ rfl) ?_
    cases hz : x.Size with
    | true =>
      have hiz : it.z = true := by rw [← hx3.z, hz]
      refine cond_t rfl (ldI_of (x := x.Rows) (cb 2 _ rfl) (ldI_of (x := x.Cols) (cb 3 _ rfl) ?_))
      have hjs : joinS M it = M ++ [⟨[], true, it.r, it.c⟩] := by unfold joinS; rw [if_pos hiz]
      refine hj3.push hB13 (by omega) (x := ⟨⟨none, 0, 0⟩, true, x.Rows, x.Cols⟩) (it := ⟨[], true, it.r, it.c⟩) rfl (Own.nil _ _ _) rfl hx3.r hx3.c fun r w5 h5 hB5 _ => ?_
      rw [← hjs] at h5
      exact hgo r w5 h5 hB5
    | false =>
      have hiz : it.z = false := by rw [← hx3.z, hz]
      refine cond_f rfl (ldSl_of (x := x.Feed) (cb 0 _ rfl) (cond_of (fun h => ?_) fun h => ?_))
      · have h : ((x.Feed.n : Nat) : Int) = 0 := by simpa using h
        have he : it.f = [] := List.eq_nil_of_length_eq_zero (by omega)
        have hjs : joinS M it = M := by unfold joinS; rw [if_neg (by rw [hiz]; simp), if_pos he]
        rw [← hjs] at hj3
        exact hgo q w3 hj3 hB13
      · have h : ¬ ((x.Feed.n : Nat) : Int) = 0 := by simpa using h
        have he : it.f ≠ [] := fun e => by rw [e] at hfn; simp at hfn; omega
        refine joinP_of fun J2 hJ2 => ?_
        have hfl : it.f.length ≤ 1000000 := by
          have h1 := sumF_take L him
          have h2 : sumF L = sumF (L.take (m + 1)) + sumF (L.drop (m + 1)) := by
            conv => lhs; rw [← List.take_append_drop (m + 1) L]
            unfold sumF
            rw [List.map_append, List.sum_append]
          omega
        have hnew : joinS M it = M ++ [⟨it.f, false, 0, 0⟩] → J2 (false, ()) w3 := by
          intro hjs
          refine hJ2 _ _ (cond_f rfl (nw_blk fun w11 hb11 hB11 hs11 => ?_))
          refine ldSl_of (x := x.Feed) ((hb3.ext hB11).cells 0 _ rfl) (new_apL hx3.f (by omega) (fun c w9 hc hB9 => ?_) w11 hb11 hB11)
          have hB19 := hB13.trans (hB9.mono hB13.size)
          refine (hj3.ext hB9).push hB19 (by omega) (x := ⟨c, false, 0, 0⟩) (it := ⟨it.f, false, 0, 0⟩) rfl (hc.base hB13.size) rfl rfl rfl fun r w13 h13 hB13' _ => ?_
          rw [← hjs] at h13
          exact hgo r w13 h13 hB13'
        have hqn := hj3.n
        obtain ⟨ys, h3, h4⟩ := hj3
        have hyl := h4.len
        by_cases hM0 : M.length = 0
        · refine cond_f (decide_eq_false (by omega)) (hnew ?_)
          have : M = [] := List.eq_nil_of_length_eq_zero hM0
          unfold joinS
          rw [if_neg (by rw [hiz]; simp), if_neg he, this]
          rfl
        refine cond_t (decide_eq_true (by omega)) ?_
        obtain ⟨n, hn1⟩ : ∃ n, M.length = n + 1 := ⟨M.length - 1, by omega⟩
        have hw1 : IntKind.i64.wrap (((q.n : Nat) : Int) - (1 : Int)) = (n : Int) := by rw [hqn, i64_in (by omega)]; omega
        rw [hw1]
        obtain ⟨yl, hyl1⟩ : ∃ yl, ys[n]? = some yl := ⟨_, List.getElem?_eq_getElem (by omega)⟩
        obtain ⟨y, hy1⟩ : ∃ y, M[n]? = some y := ⟨_, List.getElem?_eq_getElem (by omega)⟩
        obtain ⟨of1, oz1, or1, oc1⟩ := h4.at_ n yl y hyl1 hy1
        have ixq : ∀ {w5 : World} {K : Addr → Prop}, Rd E_phosphorref26_Item w5 q ys → K (q.at_ 4 n) → ixK q (n : Int) 4 K := fun {w5 K} hr h => hr.ix (k := 4) rfl (by omega) (by omega) fun _ => h
        have hlast : M.getLast? = some y := by rw [List.getLast?_eq_getElem?, hn1]; exact hy1
        refine ixq h3.rd (ldB_of (x := yl.Size) (h3.rd.at_ n yl hyl1 1 _ rfl) ?_)
        cases hyz : yl.Size with
        | true =>
          refine hnew ?_
          unfold joinS
          rw [if_neg (by rw [hiz]; simp), if_neg he, hlast]
          simp only
          rw [if_pos (by rw [← oz1, hyz])]
        | false =>
          have hyf : y.z = false := by rw [← oz1, hyz]
          have hjs : joinS M it = M.dropLast ++ [⟨y.f ++ it.f, y.z, y.r, y.c⟩] := by
            unfold joinS
            rw [if_neg (by rw [hiz]; simp), if_neg he, hlast]
            simp only
            rw [if_neg (by rw [hyf]; simp)]
          refine hJ2 _ _ (cond_t rfl ?_)
          rw [hw1]
          have hyfl : y.f.length ≤ 1000000 := by
            have h1 := sumF_take M hy1
            have h2 : sumF M = sumF (M.take (n + 1)) + sumF (M.drop (n + 1)) := by
              conv => lhs; rw [← List.take_append_drop (n + 1) M]
              unfold sumF
              rw [List.map_append, List.sum_append]
            omega
          have hd3 : w3.drew.heap.size = w3.heap.size := rfl
          refine ixq h3.drew.rd (ldSl_of (x := yl.Feed) (h3.drew.rd.at_ n yl hyl1 0 _ rfl) (ldSl_of (x := x.Feed) (cb 0 _ rfl) (nw_blk fun w7 hb7 hB7 hs7 => ?_)))
          have hb37 : Blk w7 w1.heap.size ty_phosphorref26_Item (T_script_Item.rep.cells x) := hb3.drew.ext hB7
          refine ⟨hb37.cells 0 _ rfl, (h3.drew.ext hB7).rd.at_ n yl hyl1 0 _ rfl, new_apL (w := w3.drew) of1.rd.drew (by omega) (fun c w8 hc hB8 => ?_) w7 hb7 hB7⟩
          have hb38 : Blk w8 w1.heap.size ty_phosphorref26_Item (T_script_Item.rep.cells x) := hb3.drew.ext hB8
          refine ⟨hb38.cells 0 _ rfl, ?_⟩
          have hs8 := hB8.size
          refine apK_own sT_sl_uint8 hc (hx3.f.drew.ext hB8) hs8 (by rw [by_sl_uint8]; omega) (by unfold maxLen; omega) fun r w9 hr9 hg9 _ => ?_
          have hB9 : Below w3.drew.heap.size w3.drew w9 := hB8.grown hg9 hs8 fun k hk => (hc.lt k hk).1
          have h39 := h3.drew.ext hB9
          have h49 := h4.drew.ext hB9
          refine ixq h39.rd ?_
          refine h39.st (i := n) (x := yl) (y := ⟨r, yl.Size, yl.Rows, yl.Cols⟩) hyl1 (j := 0) (by show 0 + 1 ≤ 4; omega) rfl fun w10 h310 hg10 hs10 => ?_
          have hzs : ∃ zs, ys = zs ++ [yl] ∧ zs.length = n := by
            refine ⟨ys.take n, ?_, by rw [List.length_take]; omega⟩
            have hlt' : n < ys.length := by omega
            rw [List.getElem?_eq_getElem hlt'] at hyl1
            rw [← Option.some.inj hyl1, ← List.take_succ_eq_append_getElem hlt', List.take_of_length_le (by omega)]
          obtain ⟨zs, rfl, hzl⟩ := hzs
          have hset : (zs ++ [yl]).set n ⟨r, yl.Size, yl.Rows, yl.Cols⟩ = zs ++ [⟨r, yl.Size, yl.Rows, yl.Cols⟩] := by
            rw [← hzl, List.set_append_right _ _ (Nat.le_refl _), Nat.sub_self]
            rfl
          rw [hset] at h310
          have hMd : M = M.dropLast ++ [y] := by
            have hne : M ≠ [] := fun e => by rw [e] at hn1; simp at hn1
            rw [List.getLast?_eq_some_getLast hne] at hlast
            rw [← Option.some.inj hlast, List.dropLast_concat_getLast hne]
          have hdl : M.dropLast.length = n := by rw [List.length_dropLast]; omega
          have hzo : Ows w9 w.heap.size zs M.dropLast := ⟨by omega, fun i a jt ha hj => h49.at_ i a jt (by rw [List.getElem?_append_left (by have := (List.getElem?_eq_some_iff.1 ha).1; exact this)]; exact ha) (by rw [hMd, List.getElem?_append_left (by have := (List.getElem?_eq_some_iff.1 hj).1; exact this)]; exact hj)⟩
          have c10 : Chg (fun k => q.blk = some k) w9 w10 := Chg.of_grown hg10 fun k hk => hk
          have hz10 : Ows w10 w.heap.size zs M.dropLast := hzo.chg c10 fun i a ha k hk => hzo.ne_row (by decide) h39 i a ha k hk
          have hr10 : Go.Vc.Own E_uint8 w10 w.heap.size r (y.f ++ it.f) := (hr9.chg c10 fun k hk => own_ne_row hr9 h39 (by decide) k hk).base hB13.size
          have hJ : RI w w10 q (joinS M it) := by
            rw [hjs]
            exact ⟨_, h310, hz10.snoc ⟨hr10, oz1, or1, oc1⟩⟩
          have hB19 : Below w.heap.size w w9 := hB13.drew.trans (hB9.mono hB13.size)
          refine hgo q w10 hJ (hB19.trans (c10.below hB19.size fun i hi e => ?_))
          have := (h39.lt i e).1
          omega
  · refine cond_f (by simp; omega) ?_
    obtain rfl : m = L.length := by omega
    rw [List.take_length] at hj
    obtain ⟨ys, h3, h4⟩ := hj
    exact hK q ys w1 h3.rd h4.ats hB1
end
end Go.Proofs.YtpadlibcalomnaaDoor
