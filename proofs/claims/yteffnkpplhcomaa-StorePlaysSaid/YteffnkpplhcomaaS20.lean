/- The document's store: Use, Number, room, Reserve. -/
import Derived.Test.YteffnkpplhcomaaS19
set_option linter.unusedVariables false
namespace Go.Proofs.Yteffnkpplhcomaa
open Go.Vc Go.RowKit
set_option maxRecDepth 100000

section
variable {w w' : World} {base g n : Nat} {q : Slc} {S : St}
theorem put_set : ∀ {L : List (Int × Im)} (hs : Srt L) {i : Nat} (hi : i < L.length) {k : Int} (hk : L[i].1 = k) (y : Im), putL' L k y = L.set i (k, y)
  | [], _, i, hi, _, _, _ => by simp at hi
  | p :: r, hs, 0, hi, k, hk, y => by
    have hk : p.1 = k := hk
    unfold putL'
    rw [if_neg (by omega), if_pos hk.symm]
    rfl
  | p :: r, hs, i + 1, hi, k, hk, y => by
    have hp := List.pairwise_cons.1 hs
    have hi' : i < r.length := by simpa using hi
    have hk : r[i].1 = k := by simpa using hk
    have := hp.1 r[i] (List.getElem_mem hi')
    unfold putL'
    rw [if_neg (by omega), if_neg (by omega), put_set hp.2 hi' hk y]
    rfl
theorem rUse_spec (h : RefM w base g q S) (hk : StOk n S) (hn : n ≤ 1000) (hbase : base ≤ w.heap.size) (id : Int) {K : Bool → World → Prop} (hK : ∀ q' w', RefM w' base g q' (S.use id) → Chg (onR g) w w' → K (lookL S.L id).isSome w') : c_phosphorref21_Store_Use (some ⟨g, 0, none⟩) id w K := by
  refine call_phosphorref21_Store_Use _ _ ?_
  unfold sh_phosphorref21_Store_Use
  have hl := hk.len
  have hc0 := hk.clk0
  have hc1 := hk.clk
  refine at_spec h (by omega) id ?_
  have huse : S.use id = match lookL S.L id with
    | some x => { S with clock := S.clock + 1, L := putL' S.L id { x with v := { x.v with stamp := S.clock + 1 } } }
    | none => S := rfl
  rcases atL_res S.L id with ⟨h1, h2⟩ | ⟨i, hi, h1, h2, h3⟩
  · rw [h1] at hK huse
    rw [h2]
    rw [huse] at hK
    exact cond_t rfl (hK q w h (Chg.refl _ _))
  · rw [h3] at hK huse
    rw [h2]
    rw [huse] at hK
    refine cond_f (decide_eq_false (by omega)) ?_
    have hgl := h.blk.lt
    refine onPtr_some' (ldI_of (x := S.clock) (h.blk.cells 2 _ rfl) (onPtr_some' ?_))
    rw [add_mk, wrap64_id (by omega)]
    refine stK_blk h.blk (by simp [rCells]) fun w2 hb2 hg2 hs2 => ?_
    have hb2 : Blk w2 g ty_phosphorref21_Store (rCells { S with clock := S.clock + 1 } q) := hb2
    have hq2 := h.row.chg (Chg.gg hg2) fun k hk e => own_ne_b h.row h.blk (by decide) k hk e
    refine nw_blk fun w3 hb3 hB3 hs3 => ?_
    refine onPtr_some' (ldSl_of (x := q) ((hb2.ext hB3).cells 3 _ rfl) ?_)
    refine apR (b := w2.heap.size) (own_empty hb3 (Nat.le_refl _)) (hq2.ext hB3).rd (by omega) (by simp; omega) fun q4 w4 ho4 hc4 => ?_
    have hB4 : Below w2.heap.size w2 w4 := hB3.trans (hc4.below (by omega) fun k hk e => by have := blk_eqR e; omega)
    have hs4 := hB4.size
    have hb4 := hb2.ext hB4
    have ho4 : Own E_phosphorref21_Image w4 w2.heap.size q4 (S.L.map toR) := ho4
    refine onPtr_some' (ldI_of (x := S.clock + 1) (hb4.cells 2 _ rfl) ?_)
    refine ho4.rd.ix (i := (i : Int)) rfl (by omega) (by simp; omega) fun _ => ?_
    have hx : (S.L.map toR)[((i : Int)).toNat]? = some (toR S.L[i]) := by simp [hi]
    refine ho4.st (i := ((i : Int)).toNat) (x := toR S.L[i]) (y := { toR S.L[i] with Stamp := S.clock + 1 }) hx (by simp [E_phosphorref21_Image]) rfl fun w5 ho5 hg5 hs5 => ?_
    have hc5 : Chg (fun k => q4.blk = some k) w4 w5 := Chg.of_grown hg5 fun k hk => hk
    have hq4l := ho4.lt
    have hb5 := hb4.chg hc5 fun e => by have := (hq4l _ e).1; omega
    refine onPtr_some' ?_
    rw [add_mk]
    refine stK_blk hb5 (by simp [rCells]) fun w6 hb6 hg6 hs6 => ?_
    have e1 : (S.L.map toR).set ((i : Int)).toNat { toR S.L[i] with Stamp := S.clock + 1 } = (putL' S.L id { S.L[i].2 with v := { S.L[i].2.v with stamp := S.clock + 1 } }).map toR := by
      rw [put_set hk.srt hi h1, List.map_set]
      rw [← h1]
      rfl
    rw [e1] at ho5
    have hc26 : Chg (onR g) w2 w6 := ((Chg.of_ext hB4).trans hc5 fun k hkk e => by have := (hq4l k e).1; omega).trans (Chg.gg hg6) fun k _ e => e
    have hcA : Chg (onR g) w w6 := (Chg.gg hg2).trans hc26 fun k _ e => e
    refine hK q4 w6 ⟨hb6, ?_, fun p hp => ?_⟩ hcA
    · have := (ho5.chg (Chg.gg hg6) fun k hk e => by have := (ho5.lt k hk).1; omega)
      exact this.base (by omega)
    · obtain ⟨a, b⟩ := p
      have hxx := (lookL_some hk.srt).1 h3
      rcases (mem_putL hk.srt _ _ a b).1 hp with ⟨rfl, rfl⟩ | ⟨_, hp'⟩
      · exact (h.img _ hxx).chg hcA fun k hk e => (h.img _ hxx).ne_b h.blk (by decide) k hk e
      · exact (h.img _ hp').chg hcA fun k hk e => (h.img _ hp').ne_b h.blk (by decide) k hk e
/-- What the document's Number has found. -/
def RNumInv (L : List (Int × Im)) (j : Nat) (n b : Int) : Prop :=
  (b = -1 ∧ ∀ p ∈ L.take j, ¬(n ≠ 0 ∧ p.2.v.number = n)) ∨ (∃ (i : Nat) (hi : i < L.length), b = (i : Int) ∧ n ≠ 0 ∧ L[i].2.v.number = n ∧ ∀ p ∈ L.take j, p.2.v.number = n → p.2.v.born ≤ L[i].2.v.born)
theorem mem_take_succ {L : List (Int × Im)} {j : Nat} (hj : j < L.length) {p : Int × Im} (h : p ∈ L.take (j + 1)) : p ∈ L.take j ∨ p = L[j] := by
  rw [List.take_add_one, List.getElem?_eq_getElem hj] at h
  rcases List.mem_append.1 h with h | h
  · exact .inl h
  · exact .inr (by simpa using h)
theorem rNumber_spec (h : RefM w base g q S) (hl : S.L.length ≤ 1000) (n : Int) {K : Int → Bool → World → Prop}
    (hK : ∀ b ok w', NumRes S.L n b ok → Below w.heap.size w w' → K b ok w') : c_phosphorref21_Store_Number (some ⟨g, 0, none⟩) n w K := by
  refine call_phosphorref21_Store_Number _ _ ?_
  unfold sh_phosphorref21_Store_Number
  refine loopP_rule (Inv := fun (s : Int × Int × Unit) w1 => ∃ j : Nat, s.2.1 = (j : Int) ∧ j ≤ S.L.length ∧ RNumInv S.L j n s.1 ∧ Below w.heap.size w w1) (μ := fun s => S.L.length - s.2.1.toNat) ⟨0, rfl, Nat.zero_le _, .inl ⟨rfl, fun p hp => by simp at hp⟩, Below.refl _ _⟩ ?_
  rintro ⟨b, i, ⟨⟩⟩ w1 ⟨j, hij, hj, hI0, hB⟩ I hI
  have hij : i = (j : Int) := hij
  subst hij
  have hI0 : RNumInv S.L j n b := hI0
  have hq : ∀ {w' : World} {K : Slc → Prop}, Below w.heap.size w w' → K q → ldSl ((⟨g, 0, none⟩ : Addr).add 3) w' K := fun hB hk => ldSl_of (x := q) ((h.blk.ext hB).cells 3 _ rfl) hk
  refine onPtr_some' (hq hB ?_)
  rw [h.qn]
  refine cond_of (fun hltd => ?_) fun hge => ?_
  · have hlt : j < S.L.length := by have := of_decide_eq_true hltd; omega
    clear hltd
    have hBd := hB.drew
    have h1 := h.ext hBd
    rw [wrap64_id (x := (j : Int) + 1) (by omega)]
    have no : ∀ w2, Below w.heap.size w w2 → ¬(n ≠ 0 ∧ S.L[j].2.v.number = n) → I (b, ((j : Int) + 1, ())) w2 := fun w2 hB2 hno => by
      refine hI _ _ ⟨j + 1, by simp, by omega, ?_, hB2⟩ (by show S.L.length - ((j : Int) + 1).toNat < S.L.length - ((j : Int)).toNat; omega)
      rcases hI0 with ⟨e, hb⟩ | ⟨i, hi, e, hn, hin, hb⟩
      · refine .inl ⟨e, fun p hp => ?_⟩
        rcases mem_take_succ hlt hp with hp | rfl
        · exact hb p hp
        · exact hno
      · refine .inr ⟨i, hi, e, hn, hin, fun p hp hpn => ?_⟩
        rcases mem_take_succ hlt hp with hp | rfl
        · exact hb p hp hpn
        · exact absurd ⟨hn, hpn⟩ hno
    refine cond_of (fun e1 => ?_) fun e1 => no w1.drew hBd fun hh => by simp at e1; exact hh.1 e1
    have e1 : n ≠ 0 := bne_iff_ne.1 e1
    refine onPtr_some' (hq hBd (h1.at hlt (fun a ha => ?_) rfl))
    refine ldI_of (x := S.L[j].2.v.number) (ha.get 1 rfl) ?_
    refine cond_of (fun e2 => ?_) fun e2 => no w1.drew hBd fun hh => by rw [hh.2] at e2; simp at e2
    have e2 : S.L[j].2.v.number = n := eq_of_beq e2
    have yes : (∀ p ∈ S.L.take j, p.2.v.number = n → p.2.v.born ≤ S.L[j].2.v.born) → I ((j : Int), ((j : Int) + 1, ())) w1.drew := fun hm => by
      refine hI _ _ ⟨j + 1, by simp, by omega, .inr ⟨j, hlt, rfl, e1, e2, fun p hp hpn => ?_⟩, hBd⟩ (by show S.L.length - ((j : Int) + 1).toNat < S.L.length - ((j : Int)).toNat; omega)
      rcases mem_take_succ hlt hp with hp | rfl
      · exact hm p hp hpn
      · exact Int.le_refl _
    rcases hI0 with ⟨e, hb⟩ | ⟨i, hi, e, hn, hin, hb⟩
    · subst e
      refine cond_t rfl (yes fun p hp hpn => absurd ⟨e1, hpn⟩ (hb p hp))
    · subst e
      refine cond_f (decide_eq_false (by show ¬ ((i : Int) < 0); omega)) ?_
      refine onPtr_some' (hq hBd (h1.at hlt (fun a ha => ?_) rfl))
      refine ldI_of (x := S.L[j].2.v.born) (ha.get 6 rfl) ?_
      refine onPtr_some' (hq hBd (h1.at hi (fun a ha => ?_) rfl))
      refine ldI_of (x := S.L[i].2.v.born) (ha.get 6 rfl) ?_
      refine cond_of (fun e3 => ?_) fun e3 => ?_
      · have e3 := of_decide_eq_true e3
        exact yes fun p hp hpn => by have := hb p hp hpn; omega
      · have e3 := of_decide_eq_false e3
        refine hI _ _ ⟨j + 1, by simp, by omega, .inr ⟨i, hi, rfl, hn, hin, fun p hp hpn => ?_⟩, hBd⟩ (by show S.L.length - ((j : Int) + 1).toNat < S.L.length - ((j : Int)).toNat; omega)
        rcases mem_take_succ hlt hp with hp | rfl
        · exact hb p hp hpn
        · omega
  · have hge : ¬ _ := of_decide_eq_false hge
    have : j = S.L.length := by omega
    subst this
    unfold RNumInv at hI0
    rw [List.take_length] at hI0
    rcases hI0 with ⟨e, hb⟩ | ⟨i, hi, e, hn, hin, hb⟩
    · subst e
      exact cond_t rfl (hK 0 false w1 (.inl ⟨rfl, rfl, hb⟩) hB)
    · subst e
      refine cond_f (decide_eq_false (by show ¬ ((i : Int) < 0); omega)) ?_
      refine onPtr_some' (hq hB ((h.ext hB).at hi (fun a ha => ?_) rfl))
      refine ldI_of (x := S.L[i].1) (ha.get 0 rfl) ?_
      exact hK _ true w1 (.inr ⟨rfl, S.L[i].2, List.getElem_mem hi, hn, hin, hb⟩) hB
end
end Go.Proofs.Yteffnkpplhcomaa
