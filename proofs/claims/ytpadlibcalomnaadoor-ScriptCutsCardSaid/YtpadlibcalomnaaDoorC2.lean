/- A script's items in memory; few, same, of. -/
import Derived.Test.YtpadlibcalomnaaDoorC1
import Derived.Test.YtpadlibcalomnaaDoorS9
set_option linter.unusedVariables false
namespace Go.Proofs.YtpadlibcalomnaaDoor
open Go.Vc Go.RowKit
set_option maxRecDepth 400000
structure ItAt (w : World) (x : T_script_Item) (it : ItL) : Prop where
  f : Rd E_uint8 w x.Feed it.f
  z : x.Size = it.z
  r : x.Rows = it.r
  c : x.Cols = it.c
theorem ItAt.ext {w w' : World} {x : T_script_Item} {it : ItL} (h : ItAt w x it) (hB : Below w.heap.size w w') : ItAt w' x it := ⟨h.f.ext hB, h.z, h.r, h.c⟩
theorem ItAt.drew {w : World} {x : T_script_Item} {it : ItL} (h : ItAt w x it) : ItAt w.drew x it := ⟨h.f.drew, h.z, h.r, h.c⟩
/-- These are those items. -/
structure Ats (w : World) (xs : List T_script_Item) (L : List ItL) : Prop where
  len : xs.length = L.length
  at_ : ∀ (i : Nat) x it, xs[i]? = some x → L[i]? = some it → ItAt w x it
theorem Ats.ext {w w' : World} {xs : List T_script_Item} {L : List ItL} (h : Ats w xs L) (hB : Below w.heap.size w w') : Ats w' xs L := ⟨h.len, fun i x it hx hi => (h.at_ i x it hx hi).ext hB⟩
theorem Ats.nil (w : World) : Ats w [] [] := ⟨rfl, fun i x it hx => by simp at hx⟩
theorem Ats.snoc {w : World} {xs : List T_script_Item} {L : List ItL} (h : Ats w xs L) {x : T_script_Item} {it : ItL} (hx : ItAt w x it) : Ats w (xs ++ [x]) (L ++ [it]) := by
  refine ⟨by rw [List.length_append, List.length_append, h.len]; rfl, fun i y jt hy hj => ?_⟩
  have hl := h.len
  by_cases hi : i < xs.length
  · rw [List.getElem?_append_left hi] at hy
    rw [List.getElem?_append_left (by omega)] at hj
    exact h.at_ i y jt hy hj
  · rw [List.getElem?_append_right (by omega)] at hy
    rw [List.getElem?_append_right (by omega)] at hj
    obtain ⟨n, hn⟩ : ∃ n, i - xs.length = n := ⟨_, rfl⟩
    rw [hn] at hy
    rw [show i - L.length = n by omega] at hj
    cases n with
    | zero => cases hy; cases hj; exact hx
    | succ n => simp at hy
theorem Ats.get {w : World} {xs : List T_script_Item} {L : List ItL} (h : Ats w xs L) {i : Nat} (hi : i < L.length) : ∃ x it, xs[i]? = some x ∧ L[i]? = some it ∧ ItAt w x it := by
  have hl := h.len
  exact ⟨_, _, List.getElem?_eq_getElem (by omega), List.getElem?_eq_getElem hi, h.at_ i _ _ (List.getElem?_eq_getElem (by omega)) (List.getElem?_eq_getElem hi)⟩
section
variable {w : World}
theorem same_spec {a b : Slc} {xs ys : List T_script_Item} {L : List ItL} (ha : Rd E_script_Item w a xs) (hb : Rd E_phosphorref26_Item w b ys) (hx : Ats w xs L) (hy : Ats w ys L) (hl : L.length ≤ 10000000) {K : Bool → World → Prop} (hK : ∀ w', Below w.heap.size w w' → K true w') : c_phosphorlaw26_same a b w K := by
  refine call_phosphorlaw26_same _ _ ?_
  unfold sh_phosphorlaw26_same
  have na := ha.n
  have nb := hb.n
  have lx := hx.len
  have ly := hy.len
  refine cond_f (by simp; omega) ?_
  refine loopP_rule (fun (s : Int × Unit) w1 => ∃ i : Nat, s.1 = i ∧ i ≤ L.length ∧ Below w.heap.size w w1) (fun s => L.length - s.1.toNat) ⟨0, rfl, by omega, Below.refl _ _⟩ ?_
  rintro ⟨i, u⟩ w1 ⟨m, hi, hm, hB1⟩ I hI
  dsimp only at hi ⊢
  subst hi
  by_cases hlt : m < L.length
  · refine cond_t (by simp; omega) ?_
    have hB1d : Below w.heap.size w w1.drew := hB1.drew
    have ha1 := ha.ext hB1d
    have hb1 := hb.ext hB1d
    obtain ⟨x, it, hxm, him, hxi⟩ := (hx.ext hB1d).get hlt
    obtain ⟨y, it', hym, him', hyi⟩ := (hy.ext hB1d).get hlt
    obtain rfl : it = it' := Option.some.inj (him.symm.trans him')
    have cx := ha1.at_ m x hxm
    have cy := hb1.at_ m y hym
    have hw : IntKind.i64.wrap ((m : Int) + (1 : Int)) = ((m + 1 : Nat) : Int) := by rw [i64_in (by omega)]; simp
    rw [hw]
    have ixa : ∀ {K : Addr → Prop}, K (a.at_ 4 m) → ixK a (m : Int) 4 K := fun {K} h => ha1.ix (k := 4) rfl (by omega) (by omega) fun _ => h
    have ixb : ∀ {K : Addr → Prop}, K (b.at_ 4 m) → ixK b (m : Int) 4 K := fun {K} h => hb1.ix (k := 4) rfl (by omega) (by omega) fun _ => h
    have cx0 : w1.drew.cell? ((a.at_ 4 m).add 0) = some (.slice x.Feed.a x.Feed.n x.Feed.c) := cx 0 _ rfl
    have cy0 : w1.drew.cell? ((b.at_ 4 m).add 0) = some (.slice y.Feed.a y.Feed.n y.Feed.c) := cy 0 _ rfl
    have hend : ixK a (m : Int) 4 fun t33 =>
                ldB (t33.add 1) w1.drew fun t35 =>
                ixK b (m : Int) 4 fun t38 =>
                ldB (t38.add 1) w1.drew fun t40 =>
                cond (!(t35 == t40))
                  (K false w1.drew)
                  (ixK a (m : Int) 4 fun t46 =>
                   ldI .i64 (t46.add 2) w1.drew fun t48 =>
                   ixK b (m : Int) 4 fun t51 =>
                   ldI .i64 (t51.add 2) w1.drew fun t53 =>
                   cond (t48 != t53)
                     (K false w1.drew)
                     (ixK a (m : Int) 4 fun t59 =>
                      ldI .i64 (t59.add 3) w1.drew fun t61 =>
                      ixK b (m : Int) 4 fun t64 =>
                      ldI .i64 (t64.add 3) w1.drew fun t66 =>
                      cond (t61 != t66)
                        (K false w1.drew)
                        (I (((m + 1 : Nat) : Int), ()) w1.drew))) := by
      refine ixa (ldB_of (x := x.Size) (cx 1 _ rfl) (ixb (ldB_of (x := y.Size) (cy 1 _ rfl) (cond_f (by rw [hxi.z, hyi.z]; simp) ?_))))
      refine ixa (ldI_of (x := x.Rows) (cx 2 _ rfl) (ixb (ldI_of (x := y.Rows) (cy 2 _ rfl) (cond_f (by rw [hxi.r, hyi.r]; simp) ?_))))
      refine ixa (ldI_of (x := x.Cols) (cx 3 _ rfl) (ixb (ldI_of (x := y.Cols) (cy 3 _ rfl) (cond_f (by rw [hxi.c, hyi.c]; simp) ?_))))
      exact hI _ _ ⟨m + 1, rfl, by omega, hB1d⟩ (by simp; omega)
    refine ixa (ldSl_of (x := x.Feed) cx0 (ixb (ldSl_of (x := y.Feed) cy0 ⟨?_, ?_⟩)))
    · exact toStr_spec hxi.f ⟨cy0, toStr_spec hyi.f ⟨cx0, cond_f (by simp) hend⟩⟩
    · exact toStr_spec hyi.f ⟨cx0, toStr_spec hxi.f ⟨cy0, cond_f (by simp) hend⟩⟩
  · exact cond_f (by simp; omega) (hK w1 hB1)
def sumF (L : List ItL) : Nat := (L.map fun it => it.f.length).sum
theorem sumF_take (L : List ItL) {i : Nat} {it : ItL} (h : L[i]? = some it) : sumF (L.take (i + 1)) = sumF (L.take i) + it.f.length := by
  have hi : i < L.length := (List.getElem?_eq_some_iff.1 h).1
  rw [List.getElem?_eq_getElem hi] at h
  unfold sumF
  rw [List.take_succ_eq_append_getElem hi, List.map_append, List.sum_append]
  rw [Option.some.inj h]
  simp
theorem few_spec {l : Slc} {xs : List T_script_Item} {L : List ItL} (hl : Rd E_script_Item w l xs) (hx : Ats w xs L) {K : Bool → World → Prop} (hK : ∀ b, (b = true → L.length + sumF L ≤ 4096) → K b w) : c_phosphorlaw26_few l w K := by
  refine call_phosphorlaw26_few _ ?_
  unfold sh_phosphorlaw26_few
  have hn := hl.n
  have hc := hl.nc
  have hm := hl.cm
  unfold maxLen at hm
  have lx := hx.len
  refine loopP_rule (fun (s : Int × Int × Unit) w1 => w1 = w ∧ ∃ i : Nat, s.2.1 = i ∧ i ≤ L.length ∧ s.1 = ((L.length + sumF (L.take i) : Nat) : Int) ∧ (i = 0 ∨ s.1 ≤ 131072)) (fun s => L.length - s.2.1.toNat) ⟨rfl, 0, rfl, by omega, by simp [sumF]; omega, .inl rfl⟩ ?_
  rintro ⟨t, i, u⟩ w1 ⟨rfl, m, hi, hmm, ht, hb⟩ I hI
  dsimp only at hi ht hb ⊢
  subst hi
  by_cases hlt : m < L.length
  · refine cond_t (by simp; omega) (joinP_of fun J2 hJ2 => ?_)
    obtain ⟨x, it, hxm, him, hxi⟩ := hx.get hlt
    have cx := hl.at_ m x hxm
    have ixa : ∀ {K : Addr → Prop}, K (l.at_ 4 m) → ixK l (m : Int) 4 K := fun {K} h => hl.ix (k := 4) rfl (by omega) (by omega) fun _ => h
    have fn := hxi.f.n
    refine ixa (ldSl_of (x := x.Feed) (cx 0 _ rfl) (cond_of (fun _ => hK _ fun e => by cases e) fun h1 => cond_of (fun _ => hK _ fun e => by cases e) fun h2 => hJ2 _ _ ?_))
    have h1 : ¬ ((x.Feed.n : Nat) : Int) > 65536 := of_decide_eq_false h1
    have h2 : ¬ t > 65536 := of_decide_eq_false h2
    refine ixa (ldSl_of (x := x.Feed) (cx 0 _ rfl) ?_)
    have e1 : IntKind.i64.wrap (t + ((x.Feed.n : Nat) : Int)) = ((L.length + sumF (L.take (m + 1)) : Nat) : Int) := by
      rw [sumF_take L him, i64_in (by omega)]
      omega
    have e2 : IntKind.i64.wrap ((m : Int) + (1 : Int)) = ((m + 1 : Nat) : Int) := by rw [i64_in (by omega)]; simp
    rw [e1, e2]
    refine hI _ _ ⟨rfl, m + 1, rfl, by omega, rfl, .inr ?_⟩ (by simp; omega)
    dsimp only
    rw [sumF_take L him]
    omega
  · refine cond_f (by simp; omega) (hK _ fun h => ?_)
    have h := of_decide_eq_true h
    obtain rfl : m = L.length := by omega
    rw [List.take_length] at ht
    omega
theorem of_spec {l : Slc} {xs : List T_script_Item} (hl : Rd E_script_Item w l xs) (hL : xs.length ≤ 10000000) {K : Slc → World → Prop} (hK : ∀ q w', Rd E_phosphorref26_Item w' q xs → Below w.heap.size w w' → K q w') : c_phosphorlaw26_of l w K := by
  refine call_phosphorlaw26_of _ ?_
  unfold sh_phosphorlaw26_of
  have hn := hl.n
  refine loopP_rule (fun (s : Slc × Int × Unit) w1 => ∃ i : Nat, s.2.1 = i ∧ i ≤ xs.length ∧ Below w.heap.size w w1 ∧ Go.Vc.Own E_phosphorref26_Item w1 w.heap.size s.1 (xs.take i)) (fun s => xs.length - s.2.1.toNat) ⟨0, rfl, by omega, Below.refl _ _, Own.nil _ _ _⟩ ?_
  rintro ⟨q, i, u⟩ w1 ⟨m, hi, hm, hB1, ho⟩ I hI
  dsimp only at hi ho ⊢
  subst hi
  by_cases hlt : m < xs.length
  · refine cond_t (by simp; omega) ?_
    have hB1d : Below w.heap.size w w1.drew := hB1.drew
    have hl1 := hl.ext hB1d
    obtain ⟨x, hxm⟩ : ∃ x, xs[m]? = some x := ⟨_, List.getElem?_eq_getElem hlt⟩
    have cx := hl1.at_ m x hxm
    have ixa : ∀ {K : Addr → Prop}, K (l.at_ 4 m) → ixK l (m : Int) 4 K := fun {K} h => hl1.ix (k := 4) rfl (by omega) (by omega) fun _ => h
    refine ixa (ldSl_of (x := x.Feed) (cx 0 _ rfl) (ixa (ldB_of (x := x.Size) (cx 1 _ rfl) (ixa (ldI_of (x := x.Rows) (cx 2 _ rfl) (ixa (ldI_of (x := x.Cols) (cx 3 _ rfl) ?_)))))))
    have e2 : IntKind.i64.wrap ((m : Int) + (1 : Int)) = ((m + 1 : Nat) : Int) := by rw [i64_in (by omega)]; simp
    rw [e2]
    have htl : (xs.take m).length = m := by rw [List.length_take]; omega
    refine snoc_own (E := E_phosphorref26_Item) (y := x) sT_sl_phosphorref26_Item ho.drew rfl hB1d.size (by rw [by_sl_phosphorref26_Item, htl]; omega) (by rw [htl]; unfold maxLen; omega) fun r w3 hr hc _ => ?_
    have hlo := ho.lt
    have hB3 : Below w.heap.size w w3 := hB1d.trans (hc.below hB1d.size fun i hi e => by have := (hlo i e).1; omega)
    have htk : xs.take (m + 1) = xs.take m ++ [x] := by
      rw [List.take_succ_eq_append_getElem hlt]
      rw [List.getElem?_eq_getElem hlt] at hxm
      rw [Option.some.inj hxm]
    rw [← htk] at hr
    exact hI _ _ ⟨m + 1, rfl, by omega, hB3, hr⟩ (by simp; omega)
  · refine cond_f (by simp; omega) ?_
    obtain rfl : m = xs.length := by omega
    rw [List.take_length] at ho
    exact hK q w1 ho.rd hB1
end
end Go.Proofs.YtpadlibcalomnaaDoor
