/- The program's Join walked. -/
import Derived.Test.YtpadlibcalomnaaDoorC3
set_option linter.unusedVariables false
namespace Go.Proofs.YtpadlibcalomnaaDoor
open Go.Vc Go.RowKit
set_option maxRecDepth 400000
section
variable {w : World}
theorem JI.ext {w0 w1 w2 : World} {s : Slc} {M : List ItL} (h : JI w0 w1 s M) (hB : Below w1.heap.size w1 w2) : JI w0 w2 s M := by
  obtain ⟨ys, B, h1, h2, h3, h4, h5, h6⟩ := h
  exact ⟨ys, B, h1, Nat.le_trans h2 hB.size, h3.ext hB, h4.ext hB, h5, fun y it hy hi => (h6 y it hy hi).ext hB⟩
theorem JI.drew {w0 w1 : World} {s : Slc} {M : List ItL} (h : JI w0 w1 s M) : JI w0 w1.drew s M := by
  obtain ⟨ys, B, h1, h2, h3, h4, h5, h6⟩ := h
  exact ⟨ys, B, h1, h2, h3.drew, h4.drew, h5, fun y it hy hi => (h6 y it hy hi).drew⟩
theorem JI.n {w0 w1 : World} {s : Slc} {M : List ItL} (h : JI w0 w1 s M) : s.n = M.length := by
  obtain ⟨ys, B, h1, h2, h3, h4, h5, h6⟩ := h
  rw [← h4.len]
  exact h3.rd.n
theorem Ows.lt {base : Nat} {xs : List T_script_Item} {L : List ItL} (h : Ows w base xs L) : ∀ (i : Nat) x, xs[i]? = some x → ∀ k, x.Feed.blk = some k → k < w.heap.size := fun i x hx k hk => by
  have hi : i < xs.length := (List.getElem?_eq_some_iff.1 hx).1
  have hl := h.len
  exact ((h.at_ i x _ hx (List.getElem?_eq_getElem (by omega : i < L.length))).f.lt k hk).2
/-- An item appended, its feed laid since wA. -/
theorem JI.push {w0 wA w1 : World} {s : Slc} {M : List ItL} (h : JI w0 wA s M) (hA : w0.heap.size ≤ wA.heap.size) (hBA : Below wA.heap.size wA w1) (hB0 : Below w0.heap.size w0 w1) (hM : M.length ≤ 10000000) {x : T_script_Item} {it : ItL} {vs : List Value} (hv : T_script_Item.rep.cells x = vs) (hf : Go.Vc.Own E_uint8 w1 wA.heap.size x.Feed it.f) (hz : x.Size = it.z) (hr : x.Rows = it.r) (hc : x.Cols = it.c)
    {K : Slc → World → Prop} (hK : ∀ r w3, JI w0 w3 r (M ++ [it]) → Below w0.heap.size w0 w3 → w1.heap.size ≤ w3.heap.size → K r w3) :
    nw ty_script_Item vs w1 fun a w2 => apK PG #[ty_sl_script_Item, ty_sl_script_Item] ty_sl_script_Item s ⟨some a, 1, 1⟩ w2 K := by
  obtain ⟨ys, B, h1, h2, h3, h4, h5, h6⟩ := h
  have hyl := h4.len
  have h3' := h3.ext hBA
  have h4' := h4.ext hBA
  have hsz := hBA.size
  refine snoc_own (E := E_script_Item) (y := x) sT_sl_script_Item h3' hv (by omega) (by rw [by_sl_script_Item]; omega) (by unfold maxLen; omega) fun r w3 hr3 hch _ => ?_
  have hlo := h3'.lt
  have hs3 := hch.size
  refine hK r w3 (JI.snoc hA (by omega) hr3 (h4'.chg hch fun i y hy k hk => h4'.ne_row (by decide) h3' i y hy k hk) h4.lt (hf.chg hch fun k hk => own_ne_row hf h3' (by decide) k hk) hz hr hc) (hB0.trans (hch.below (by omega) fun i hi e => by have := (hlo i e).1; omega)) hs3
theorem sJoin_spec {l : Slc} {xs : List T_script_Item} {L : List ItL} (hl : Rd E_script_Item w l xs) (hx : Ats w xs L) (hL : L.length ≤ 1000000 ∧ sumF L ≤ 1000000) {K : Slc → World → Prop} (hK : ∀ q ys w', Rd E_script_Item w' q ys → Ats w' ys (joinItems L) → Below w.heap.size w w' → K q w') : c_script_Join l w K := by
  refine call_script_Join _ ?_
  unfold sh_script_Join
  have hn := hl.n
  have lx := hx.len
  refine loopP_rule (fun (s : Slc × Int × Unit) w1 => ∃ i : Nat, s.2.1 = i ∧ i ≤ L.length ∧ Below w.heap.size w w1 ∧ JI w w1 s.1 (joinItems (L.take i))) (fun s => L.length - s.2.1.toNat)
    ⟨0, rfl, by omega, Below.refl _ _, [], w.heap.size, Nat.le_refl _, Nat.le_refl _, Own.nil _ _ _, Ows.nil _ _, fun j y hy => by simp at hy, fun y it hy => by simp at hy⟩ ?_
  rintro ⟨q, i, u⟩ w1 ⟨m, hi, hm, hB1, hj⟩ I hI
  dsimp only at hi hj ⊢
  subst hi
  by_cases hlt : m < L.length
  · refine cond_t (by simp; omega) ?_
    have hl1 := hl.ext hB1
    obtain ⟨x, it, hxm, him, hxi⟩ := (hx.ext hB1).get hlt
    have cx := hl1.at_ m x hxm
    have ixa : ∀ {K : Addr → Prop}, K (l.at_ 4 m) → ixK l (m : Int) 4 K := fun {K} h => hl1.ix (k := 4) rfl (by omega) (by omega) fun _ => h
    have e2 : IntKind.i64.wrap ((m : Int) + (1 : Int)) = ((m + 1 : Nat) : Int) := by rw [i64_in (by omega)]; simp
    have htk : joinItems (L.take (m + 1)) = joinS (joinItems (L.take m)) it := by
      unfold joinItems
      rw [List.take_succ_eq_append_getElem hlt, List.foldl_append]
      rw [List.getElem?_eq_getElem hlt] at him
      rw [Option.some.inj him]
      rfl
    obtain ⟨M, hM⟩ : ∃ M, joinItems (L.take m) = M := ⟨_, rfl⟩
    have hMl : M.length ≤ 1000000 ∧ sumF M ≤ 1000000 := by
      rw [← hM]
      have h1 := join_len (L.take m) []
      have h2 : sumF (L.take m) ≤ sumF L := by
        have : sumF L = sumF (L.take m) + sumF (L.drop m) := by
          conv => lhs; rw [← List.take_append_drop m L]
          unfold sumF
          rw [List.map_append, List.sum_append]
        omega
      have h3 : (L.take m).length ≤ L.length := by rw [List.length_take]; omega
      have h4 : sumF ([] : List ItL) = 0 := rfl
      have h5 : ([] : List ItL).length = 0 := rfl
      unfold joinItems
      omega
    rw [hM] at hj htk
    rw [e2]
    have hgo : ∀ (r : Slc) (w3 : World), JI w w3 r (joinS M it) → Below w.heap.size w w3 → I (r, ((m + 1 : Nat) : Int), ()) w3 := by
      intro r w3 h3 hB3
      refine hI _ _ ⟨m + 1, rfl, by omega, hB3, ?_⟩ (by simp; omega)
      rw [htk]
      exact h3
    refine ixa (ldS_of (x := x) cx ?_)
    refine box_of (t := ty_script_Item) (vs := T_script_Item.rep.cells x) rfl fun w3 hb3 hB3 hs3 => ?_
    have hB13 := hB1.trans (hB3.mono hB1.size)
    have hj3 := hj.ext hB3
    have hx3 := hxi.ext hB3
    have cb : ∀ (j : Nat) v, (T_script_Item.rep.cells x)[j]? = some v → w3.cell? ((⟨w1.heap.size, 0, none⟩ : Addr).add j) = some v := fun j v hv => hb3.cells j v hv
    have hfn := hx3.f.n
    refine ldB_of (x := x.Size) (cb 1 _ rfl) ?_
    cases hz : x.Size with
    | true =>
      have hiz : it.z = true := by rw [← hx3.z, hz]
      refine cond_t rfl (ldI_of (x := x.Rows) (cb 2 _ rfl) (ldI_of (x := x.Cols) (cb 3 _ rfl) ?_))
      have hjs : joinS M it = M ++ [⟨[], true, it.r, it.c⟩] := by unfold joinS; rw [if_pos hiz]
      refine hj3.push hB13.size (Below.refl _ _) hB13 (by omega) (x := ⟨⟨none, 0, 0⟩, true, x.Rows, x.Cols⟩) (it := ⟨[], true, it.r, it.c⟩) rfl (Own.nil _ _ _) rfl hx3.r hx3.c fun r w5 h5 hB5 _ => ?_
      rw [← hjs] at h5
      exact hgo r w5 h5 hB5
    | false =>
      have hiz : it.z = false := by rw [← hx3.z, hz]
      refine cond_f rfl (ldSl_of (x := x.Feed) (cb 0 _ rfl) (cond_of (fun h => ?_) fun h => ?_))
      · have h : ((x.Feed.n : Nat) : Int) = 0 := by simpa using h
        have he : it.f = [] := List.eq_nil_of_length_eq_zero (by omega)
        have hjs : joinS M it = M := by unfold joinS; rw [if_neg (by rw [hiz]; simp), if_pos he]
        rw [← hjs] at hj3
        exact hgo q w3 hj3 hB13
      · have h : ¬ ((x.Feed.n : Nat) : Int) = 0 := by simpa using h
        have he : it.f ≠ [] := fun e => by rw [e] at hfn; simp at hfn; omega
        refine joinP_of fun J2 hJ2 => ?_
        have hfl : it.f.length ≤ 1000000 := by
          have h1 := sumF_take L him
          have h2 : sumF L = sumF (L.take (m + 1)) + sumF (L.drop (m + 1)) := by
            conv => lhs; rw [← List.take_append_drop (m + 1) L]
            unfold sumF
            rw [List.map_append, List.sum_append]
          omega
        have hnew : joinS M it = M ++ [⟨it.f, false, 0, 0⟩] → J2 (false, ()) w3 := by
          intro hjs
          refine hJ2 _ _ (cond_f rfl (ldSl_of (x := x.Feed) (cb 0 _ rfl) (SClone_spec hx3.f (by omega) fun c w9 hc hB9 => ?_)))
          have hB19 := hB13.trans (hB9.mono hB13.size)
          refine hj3.push hB13.size hB9 hB19 (by omega) (x := ⟨c, false, 0, 0⟩) (it := ⟨it.f, false, 0, 0⟩) rfl hc rfl rfl rfl fun r w11 h11 hB11 _ => ?_
          rw [← hjs] at h11
          exact hgo r w11 h11 hB11
        have hqn := hj3.n
        have hw1 : IntKind.i64.wrap (((q.n : Nat) : Int) - (1 : Int)) = ((M.length : Nat) : Int) - 1 := by rw [hqn, i64_in (by omega)]
        rw [hw1]
        obtain ⟨ys, B, h1, h2, h3, h4, h5, h6⟩ := hj3
        have hyl := h4.len
        by_cases hM0 : M.length = 0
        · refine cond_f (decide_eq_false (by omega)) (hnew ?_)
          have : M = [] := List.eq_nil_of_length_eq_zero hM0
          unfold joinS
          rw [if_neg (by rw [hiz]; simp), if_neg he, this]
          rfl
        refine cond_t (decide_eq_true (by omega)) ?_
        obtain ⟨n, hn1⟩ : ∃ n, M.length = n + 1 := ⟨M.length - 1, by omega⟩
        have hi1 : ((M.length : Nat) : Int) - 1 = (n : Int) := by omega
        rw [hi1]
        obtain ⟨yl, hyl1⟩ : ∃ yl, ys[n]? = some yl := ⟨_, List.getElem?_eq_getElem (by omega)⟩
        obtain ⟨y, hy1⟩ : ∃ y, M[n]? = some y := ⟨_, List.getElem?_eq_getElem (by omega)⟩
        obtain ⟨of1, oz1, or1, oc1⟩ := h4.at_ n yl y hyl1 hy1
        have ixq : ∀ {w5 : World} {K : Addr → Prop}, Rd E_script_Item w5 q ys → K (q.at_ 4 n) → ixK q (n : Int) 4 K := fun {w5 K} hr h => hr.ix (k := 4) rfl (by omega) (by omega) fun _ => h
        have hlast : M.getLast? = some y := by rw [List.getLast?_eq_getElem?, hn1]; exact hy1
        refine ixq h3.rd (ldB_of (x := yl.Size) (h3.rd.at_ n yl hyl1 1 _ rfl) ?_)
        cases hyz : yl.Size with
        | true =>
          refine hnew ?_
          unfold joinS
          rw [if_neg (by rw [hiz]; simp), if_neg he, hlast]
          simp only
          rw [if_pos (by rw [← oz1, hyz])]
        | false =>
          have hyf : y.z = false := by rw [← oz1, hyz]
          have hjs : joinS M it = M.dropLast ++ [⟨y.f ++ it.f, y.z, y.r, y.c⟩] := by
            unfold joinS
            rw [if_neg (by rw [hiz]; simp), if_neg he, hlast]
            simp only
            rw [if_neg (by rw [hyf]; simp)]
          refine hJ2 _ _ (cond_t rfl ?_)
          rw [hw1, hi1]
          have hl6 := h6 yl y (by rw [hyl, hn1]; exact hyl1) (by rw [hyl, hn1]; exact hy1)
          refine ixq h3.drew.rd (ldSl_of (x := yl.Feed) (h3.drew.rd.at_ n yl hyl1 0 _ rfl) (ldSl_of (x := x.Feed) (cb 0 _ rfl) ?_))
          have hyfl : y.f.length ≤ 1000000 := by
            have h1 := sumF_take M hy1
            have h2 : sumF M = sumF (M.take (n + 1)) + sumF (M.drop (n + 1)) := by
              conv => lhs; rw [← List.take_append_drop (n + 1) M]
              unfold sumF
              rw [List.map_append, List.sum_append]
            omega
          refine apK_own sT_sl_uint8 hl6.drew hx3.f.drew h2 (by rw [by_sl_uint8]; omega) (by unfold maxLen; omega) fun r w7 hr7 hg7 _ => ?_
          have hs7 := hg7.size
          have hd3 : w3.drew.heap.size = w3.heap.size := rfl
          have h37 : Go.Vc.Own E_script_Item w7 w.heap.size q ys := h3.drew.kept hg7 (by
            cases hk : q.blk with
            | none => exact .inl rfl
            | some k => exact .inr fun e => own_ne_row h3 hl6 (by decide) k hk e.symm)
          refine ixq h37.rd ?_
          refine h37.st (i := n) (x := yl) (y := ⟨r, yl.Size, yl.Rows, yl.Cols⟩) hyl1 (j := 0) (by show 0 + 1 ≤ 4; omega) rfl fun w8 h38 hg8 hs8 => ?_
          have hzs : ∃ zs, ys = zs ++ [yl] ∧ zs.length = n := by
            refine ⟨ys.take n, ?_, by rw [List.length_take]; omega⟩
            have hlt' : n < ys.length := by omega
            rw [List.getElem?_eq_getElem hlt'] at hyl1
            rw [← Option.some.inj hyl1, ← List.take_succ_eq_append_getElem hlt', List.take_of_length_le (by omega)]
          obtain ⟨zs, rfl, hzl⟩ := hzs
          have hset : (zs ++ [yl]).set n ⟨r, yl.Size, yl.Rows, yl.Cols⟩ = zs ++ [⟨r, yl.Size, yl.Rows, yl.Cols⟩] := by
            rw [← hzl, List.set_append_right _ _ (Nat.le_refl _), Nat.sub_self]
            rfl
          rw [hset] at h38
          have hMd : M = M.dropLast ++ [y] := by
            have hne : M ≠ [] := fun e => by rw [e] at hn1; simp at hn1
            rw [List.getLast?_eq_some_getLast hne] at hlast
            rw [← Option.some.inj hlast, List.dropLast_concat_getLast hne]
          have hdl : M.dropLast.length = n := by rw [List.length_dropLast]; omega
          have hzo : Ows w3 w.heap.size zs M.dropLast := ⟨by omega, fun i a jt ha hj => h4.at_ i a jt (by rw [List.getElem?_append_left (by have := (List.getElem?_eq_some_iff.1 ha).1; exact this)]; exact ha) (by rw [hMd, List.getElem?_append_left (by have := (List.getElem?_eq_some_iff.1 hj).1; exact this)]; exact hj)⟩
          have hzb : ∀ (i : Nat) a, zs[i]? = some a → ∀ k, a.Feed.blk = some k → k < B := fun i a ha k hk => by
            have hil := (List.getElem?_eq_some_iff.1 ha).1
            exact h5 i a (by rw [List.getElem?_append_left hil]; exact ha) (by rw [List.length_append]; simp; omega) k hk
          have c7 : Chg (fun k => yl.Feed.blk = some k) w3 w7 := (Chg.of_ext (S := fun k => yl.Feed.blk = some k) (Below.refl _ w3).drew).trans (Chg.of_grown (S := fun k => yl.Feed.blk = some k) hg7 fun k hk => hk) fun i _ hi => hi
          have hz7 : Ows w7 w.heap.size zs M.dropLast := hzo.chg c7 fun i a ha k hk e => by
            have h8 := hzb i a ha k hk
            have h9 := (hl6.lt k e).1
            omega
          have c8 : Chg (fun k => q.blk = some k) w7 w8 := Chg.of_grown hg8 fun k hk => hk
          have hz8 : Ows w8 w.heap.size zs M.dropLast := hz7.chg c8 fun i a ha k hk => hz7.ne_row (by decide) h37 i a ha k hk
          have hr8 : Go.Vc.Own E_uint8 w8 B r (y.f ++ it.f) := hr7.chg c8 fun k hk => own_ne_row hr7 h37 (by decide) k hk
          have hJ : JI w w8 q (joinS M it) := by
            rw [hjs]
            exact JI.snoc h1 (by omega) h38 hz8 hzb hr8 oz1 or1 oc1
          refine hgo q w8 hJ (((hB13.trans (c7.below hB13.size fun i hi e => ?_))).trans (c8.below (by omega) fun i hi e => ?_))
          · have := (hl6.lt i e).1
            omega
          · have := (h37.lt i e).1
            omega
  · refine cond_f (by simp; omega) ?_
    obtain rfl : m = L.length := by omega
    rw [List.take_length] at hj
    obtain ⟨ys, B, h1, h2, h3, h4, h5, h6⟩ := hj
    exact hK q ys w1 h3.rd h4.ats hB1
end
end Go.Proofs.YtpadlibcalomnaaDoor
