/- The program's store: Get, Ids, Number, the elder of two, the eldest of all. -/
import Derived.Test.YteffnkpplhcomaaS4
set_option linter.unusedVariables false
namespace Go.Proofs.Yteffnkpplhcomaa
open Go.Vc Go.RowKit
set_option maxRecDepth 100000

def bsOf (L : List (Int × Im)) (k : Int) : List UInt8 := ((lookL L k).map Im.bs).getD []
def vOf (L : List (Int × Im)) (k : Int) : T_store_image := ((lookL L k).map Im.v).getD nilI
/-- What Number answers. -/
def NumRes (L : List (Int × Im)) (n b : Int) (ok : Bool) : Prop :=
  (ok = false ∧ b = 0 ∧ ∀ p ∈ L, ¬(n ≠ 0 ∧ p.2.v.number = n)) ∨ (ok = true ∧ ∃ x, (b, x) ∈ L ∧ n ≠ 0 ∧ x.v.number = n ∧ ∀ p ∈ L, p.2.v.number = n → p.2.v.born ≤ x.v.born)
theorem NumRes.one {m : Nat} {S : St} (hk : StOk m S) {n b b' : Int} {ok ok' : Bool} (h : NumRes S.L n b ok) (h' : NumRes S.L n b' ok') : b = b' ∧ ok = ok' := by
  rcases h with ⟨rfl, rfl, h⟩ | ⟨rfl, x, hx, hn, hxn, hm⟩
  · rcases h' with ⟨rfl, rfl, _⟩ | ⟨rfl, x', hx', hn', hxn', _⟩
    · exact ⟨rfl, rfl⟩
    · exact absurd ⟨hn', hxn'⟩ (h _ hx')
  · rcases h' with ⟨rfl, rfl, h'⟩ | ⟨rfl, x', hx', hn', hxn', hm'⟩
    · exact absurd ⟨hn, hxn⟩ (h' _ hx)
    · have h1 := hm _ hx' hxn'
      have h2 := hm' _ hx hxn
      have := hk.bo1 _ hx _ hx' (by simp at h1 h2 ⊢; omega)
      exact ⟨congrArg Prod.fst this, rfl⟩
section
variable {w : World} {base g r n : Nat} {S : St}
theorem StM.bsRd (h : StM w base g r S) (id : Int) : Rd E_uint8 w (vOf S.L id).m.P (bsOf S.L id) := by
  unfold vOf bsOf
  cases hl : lookL S.L id with
  | none => exact Rd.nil _ _
  | some x => exact (h.img _ ((lookL_some h.map.srt).1 hl)).rd
theorem bsOf_le (h : StOk n S) (id : Int) : (bsOf S.L id).length ≤ 1073741824 := by
  have h1 := h.used
  have h2 := h.fits
  have h3 := h.q1
  unfold bsOf
  cases hl : lookL S.L id with
  | none => exact Nat.zero_le _
  | some x =>
    have := sizeL_mem ((lookL_some h.srt).1 hl)
    show x.bs.length ≤ _
    simp at this
    omega
theorem Get_spec (h : StM w base g r S) (hk : StOk n S) (id : Int) {K : T_api_Matrix → Bool → World → Prop}
    (hK : ∀ P w', Own E_uint8 w' w.heap.size P (bsOf S.L id) → Below w.heap.size w w' → K ⟨(vOf S.L id).m.W, (vOf S.L id).m.H, P⟩ (lookL S.L id).isSome w') : c_store_Store_Get (some ⟨g, 0, none⟩) id w K := by
  refine call_store_Store_Get _ _ ?_
  unfold sh_store_Store_Get
  refine nw_blk fun w1 hb1 hB1 hs1 => ?_
  have h1 := h.ext hB1
  refine See_spec h1 id fun w2 hB2 => ?_
  have h2 := h1.ext hB2
  have hrd := h2.bsRd id
  have hle := bsOf_le hk id
  have hsz2 := hB2.size
  unfold vOf at hrd hK
  generalize ((lookL S.L id).map Im.v).getD nilI = v at hrd hK ⊢
  refine nw_blk fun w3 hb3 hB3 hs3 => ?_
  refine stK_blk hb3 (by simp [T_api_Matrix.rep]) fun w4 hb4 hg4 hs4 => ?_
  have hb4 : Blk w4 w2.heap.size ty_api_Matrix (T_api_Matrix.rep.cells v.m) := hb4
  refine ldSl_of (x := v.m.P) (hb4.cells 2 _ rfl) ?_
  have hB24 : Below w2.heap.size w2 w4 := hB3.grown hg4 (by omega) fun k hk => by cases hk; exact Nat.le_refl _
  refine CloneB_spec (hrd.ext hB24) (by omega) fun q w5 ho5 hB5 => ?_
  rw [add_mk]
  have hb5 := hb4.ext hB5
  refine stK_blk hb5 (by simp [T_api_Matrix.rep]) fun w6 hb6 hg6 hs6 => ?_
  have hb6 : Blk w6 w2.heap.size ty_api_Matrix (T_api_Matrix.rep.cells { v.m with P := q }) := hb6
  refine ldS_of (x := { v.m with P := q }) hb6.cells ?_
  have hsz5 := hB5.size
  have hb16 : Blk w6 w.heap.size ty_api_Matrix [(.int .i64 0), (.int .i64 0), (.slice none 0 0)] := (((hb1.ext hB2).ext hB24).ext hB5).chg (Chg.gg hg6) fun e => by omega
  refine stK_blk hb16 (by simp [T_api_Matrix.rep]) fun w7 hb7 hg7 hs7 => ?_
  have hb7 : Blk w7 w.heap.size ty_api_Matrix (T_api_Matrix.rep.cells { v.m with P := q }) := hb7
  refine ldS_of (x := { v.m with P := q }) hb7.cells ?_
  have ho7 : Own E_uint8 w7 w.heap.size q (bsOf S.L id) := ((ho5.chg (Chg.gg hg6) fun k hk => own_ne_b ho5 hb5 (by decide) k hk).chg (Chg.gg hg7) fun k hk e => by
    have := (ho5.lt k hk).1
    omega).base (by omega)
  refine hK q w7 ho7 ?_
  have c : Chg (fun k => w.heap.size ≤ k) w w7 := ((((Chg.of_ext hB1).trans (Chg.of_ext hB2) fun i _ hi => hi).trans (Chg.of_ext hB24) fun i _ hi => hi).trans (Chg.of_ext hB5) fun i _ hi => hi).trans (((Chg.gg hg6).mono (S' := fun k => w.heap.size ≤ k) fun i _ hi => by omega).trans (Chg.gg hg7) fun i _ hi => by omega) fun i _ hi => hi
  exact c.ext fun i hi e => by omega
theorem Ids_spec (h : StM w base g r S) (hk : StOk n S) (hn : n ≤ 1000) {K : Slc → World → Prop}
    (hK : ∀ q w', Own E_int w' w.heap.size q (S.L.map (·.1)) → Below w.heap.size w w' → K q w') : c_store_Store_Ids (some ⟨g, 0, none⟩) w K := by
  refine call_store_Store_Ids _ ?_
  unfold sh_store_Store_Ids
  refine onPtr_some' (ldM_of (x := some r) (h.blk.cells 4 _ rfl) (Keys_spec ?_))
  have hB : Below w.heap.size w (w.alloc (.cells #[.map (some r)] 81)) := (Below.refl _ w).alloc (Nat.le_refl _) _
  have hb : Blk (w.alloc (.cells #[.map (some r)] 81)) w.heap.size 81 [.map (some r)] := Blk.new w 81 [.map (some r)]
  have hl := hk.len
  refine Sorted_spec (L := S.L) (h.map.ext hB) (by omega) (hb.cell 0 rfl) fun q w' ho hB' => ?_
  have hs : (w.alloc (.cells #[.map (some r)] 81)).heap.size = w.heap.size + 1 := by show (w.heap.push _).size = _; simp
  exact hK q w' (ho.base (by omega)) (hB.trans (hB'.mono (by omega)))
/-- What Number has found among those that came. -/
def NumInv (D : List (Int × Im)) (n b bo : Int) : Prop :=
  (b = 0 ∧ bo = 0 ∧ ∀ p ∈ D, ¬(n ≠ 0 ∧ p.2.v.number = n)) ∨ (∃ x, (b, x) ∈ D ∧ n ≠ 0 ∧ x.v.number = n ∧ x.v.born = bo ∧ 0 < bo ∧ ∀ p ∈ D, p.2.v.number = n → p.2.v.born ≤ bo)
theorem NumInv.yes {D : List (Int × Im)} {n b bo k : Int} {x : Im} (h : NumInv D n b bo) (hn : n ≠ 0) (hx : x.v.number = n) (hb : x.v.born > bo) (h0 : 0 ≤ bo) : NumInv (D ++ [(k, x)]) n k x.v.born := by
  refine .inr ⟨x, by simp, hn, hx, rfl, by omega, fun p hp hpn => ?_⟩
  rcases List.mem_append.1 hp with hp | hp
  · rcases h with ⟨_, _, h⟩ | ⟨_, _, _, _, _, _, h⟩
    · exact absurd ⟨hn, hpn⟩ (h p hp)
    · have := h p hp hpn; omega
  · rw [List.mem_singleton] at hp
    subst hp
    exact Int.le_refl _
theorem NumInv.no {D : List (Int × Im)} {n b bo k : Int} {x : Im} (h : NumInv D n b bo) (hx : ¬(n ≠ 0 ∧ x.v.number = n ∧ x.v.born > bo)) (h1 : 0 < x.v.born) : NumInv (D ++ [(k, x)]) n b bo := by
  rcases h with ⟨rfl, rfl, h⟩ | ⟨y, hy, hn, hyn, hyb, h0, h⟩
  · refine .inl ⟨rfl, rfl, fun p hp => ?_⟩
    rcases List.mem_append.1 hp with hp | hp
    · exact h p hp
    · rw [List.mem_singleton] at hp
      subst hp
      exact fun ⟨a, b⟩ => hx ⟨a, b, h1⟩
  · refine .inr ⟨y, List.mem_append_left _ hy, hn, hyn, hyb, h0, fun p hp hpn => ?_⟩
    rcases List.mem_append.1 hp with hp | hp
    · exact h p hp hpn
    · rw [List.mem_singleton] at hp
      subst hp
      show x.v.born ≤ bo
      exact Int.not_lt.1 fun c => hx ⟨hn, hpn, c⟩
theorem NumInv.nonneg {D : List (Int × Im)} {n b bo : Int} (h : NumInv D n b bo) : 0 ≤ bo := by
  rcases h with ⟨_, rfl, _⟩ | ⟨_, _, _, _, _, h, _⟩
  · exact Int.le_refl _
  · omega
theorem NumInv.res {D L : List (Int × Im)} {n b bo : Int} (h : NumInv D n b bo) (hp : D.Perm L) : NumRes L n b (decide (bo > 0)) := by
  rcases h with ⟨rfl, rfl, h⟩ | ⟨y, hy, hn, hyn, hyb, h0, h⟩
  · exact .inl ⟨rfl, rfl, fun p hp' => h p (hp.mem_iff.2 hp')⟩
  · refine .inr ⟨decide_eq_true h0, y, hp.mem_iff.1 hy, hn, hyn, fun p hp' hpn => ?_⟩
    rw [hyb]
    exact h p (hp.mem_iff.2 hp') hpn
theorem Number_spec {m : Nat} (h : StM w base g r S) (hk : StOk m S) (n : Int) {K : Int → Bool → World → Prop}
    (hK : ∀ b ok w', NumRes S.L n b ok → Below w.heap.size w w' → K b ok w') : c_store_Store_Number (some ⟨g, 0, none⟩) n w K := by
  refine call_store_Store_Number _ _ ?_
  unfold sh_store_Store_Number
  refine onPtr_some' (ldM_of (x := some r) (h.blk.cells 4 _ rfl) ?_)
  refine rangeK_map h.map tmap fun w1 hI1 hB1 hs1 => ?_
  refine loopP_rule_w (Inv := fun k (s : Int × Int × Unit) w2 => ∃ D todo : List (Int × Im), k = todo.length ∧ MapI Im.enc w2 r w.heap.size S.L todo ∧ (D ++ todo).Perm S.L ∧ NumInv D n s.1 s.2.1 ∧ Chg (fun i => i = w.heap.size) w w2 ∧ w.heap.size < w2.heap.size) S.L.length
    ⟨[], S.L, rfl, hI1, .refl _, .inl ⟨rfl, rfl, fun p hp => by cases hp⟩, Chg.of_ext hB1, by omega⟩ ?_
  rintro k ⟨b, bo, ⟨⟩⟩ w2 ⟨D, todo, rfl, hI, hp, hN, hc, hlt⟩ I hI'
  refine nextK_map hI ty_unit (fun e => ?_) fun k1 v1 w3 todo' hp1 hI3 hc3 hs3 hent => ?_
  · subst e
    rw [List.append_nil] at hp
    exact hK _ _ w2 (hN.res hp) (hc.ext fun i hi e => by omega)
  · have hxL : (k1, v1) ∈ S.L := hp.mem_iff.1 (List.mem_append_right _ (hp1.mem_iff.2 List.mem_cons_self))
    refine ⟨k1, v1.v, w3, hent, ?_⟩
    refine box_img fun w4 hb4 hB4 hs4 => ?_
    have hc4 : Chg (fun i => i = w.heap.size) w w4 := (hc.trans hc3 fun i _ hi => hi).trans (Chg.of_ext hB4) fun i _ hi => hi
    have hI4 := hI3.ext hB4
    have hlen : todo'.length < todo.length := by rw [hp1.length_eq]; simp
    have hpn : ((D ++ [(k1, v1)]) ++ todo').Perm S.L := by
      refine List.Perm.trans ?_ hp
      rw [List.append_assoc]
      exact hp1.symm.append_left D
    have hbo := hN.nonneg
    have hvb := (hk.borns _ hxL).1
    refine joinP_of fun J hJ => ?_
    have fin : ∀ c : Bool, (c = true ↔ n ≠ 0 ∧ v1.v.number = n ∧ v1.v.born > bo) → J (c, ()) w4 := fun c hcc => by
      refine hJ _ _ ?_
      cases c with
      | true =>
        obtain ⟨h1, h2, h3⟩ := hcc.1 rfl
        refine cond_t rfl (ldI_of (x := v1.v.born) (hb4.drew.cells 5 _ rfl) ?_)
        exact hI' _ _ _ ⟨_, _, rfl, hI4.keep rfl rfl, hpn, hN.yes h1 h2 h3 hbo, hc4.trans (Chg.of_ext (Below.refl _ w4).drew) fun i _ hi => hi, by show w.heap.size < w4.heap.size; omega⟩ hlen
      | false =>
        refine cond_f rfl ?_
        exact hI' _ _ _ ⟨_, _, rfl, hI4, hpn, hN.no (fun hc => by have := hcc.2 hc; cases this) hvb, hc4, by omega⟩ hlen
    refine cond_of (fun e1 => ?_) fun e1 => ?_
    · have e1 := bne_iff_ne.1 e1
      refine ldI_of (x := v1.v.number) (hb4.cells 0 _ rfl) ?_
      refine cond_of (fun e2 => ?_) fun e2 => ?_
      · have e2 := eq_of_beq e2
        refine ldI_of (x := v1.v.born) (hb4.cells 5 _ rfl) (fin _ ?_)
        rw [decide_eq_true_iff]
        exact ⟨fun h => ⟨e1, e2, h⟩, fun h => h.2.2⟩
      · refine fin _ ⟨(fun h => by cases h), fun h => ?_⟩
        rw [h.2.1] at e2
        simp at e2
    · refine fin _ ⟨(fun h => by cases h), fun h => ?_⟩
      simp at e1
      exact absurd e1 h.1
end
end Go.Proofs.Yteffnkpplhcomaa
