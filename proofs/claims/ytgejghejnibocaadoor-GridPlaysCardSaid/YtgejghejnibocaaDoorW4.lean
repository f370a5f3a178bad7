/- The laws of lines, walked: LinePlays. -/
import Derived.Test.YtgejghejnibocaaDoorW3
import Derived.Test.YtgejghejnibocaaDoorP2
import Derived.Test.YtgejghejnibocaaDoorOpen2
namespace Go.Proofs.YtgejghejnibocaaDoor
open Go.Vc Go.RowKit

/-- append's second argument may be of another slice type. -/
theorem apK_other {P : Program} {t u ty e e' : TypeId} {s x : Slc} {w : World} {K : Slc → World → Prop} (ht : P.underlying t = some (.slice e)) (hu : P.underlying u = some (.slice e')) (h : apK P #[t, t] ty s x w K) : apK P #[t, u] ty s x w K := by
  obtain ⟨r, w', hr, hk⟩ := h
  refine ⟨r, w', ?_, hk⟩
  rw [← hr]
  simp [Builtin.append_, run_underlying ht, run_underlying hu]

theorem Equal_spec {a b : Slc} {xs ys : List Cell} {w : World} {K : Bool → World → Prop} (ha : Rd cellE w a xs) (hb : Rd cellE w b ys)
    (hK : ∀ r w', (r = true ↔ xs = ys) → Below w.heap.size w w' → K r w') : c_line_Same a b w K := by
  refine call_line_Same _ _ ?_
  unfold sh_line_Same
  have hm := rd_maxLen ha
  refine call_slices_Equal_line_Line_api_Cell _ _ ?_
  unfold sh_slices_Equal_line_Line_api_Cell
  rw [ha.n, hb.n]
  refine cond_of (fun h => ?_) (fun h => ?_)
  · have h : xs.length ≠ ys.length := by
      have h := bne_iff_ne.1 h
      omega
    exact hK _ _ ⟨fun e => (by cases e), fun e => absurd (by rw [e]) h⟩ (Below.refl _ _)
  · have h : xs.length = ys.length := by
      have h := bne_eq_false_iff_eq.1 h
      omega
    refine loopP_rule (fun (s : Int × Unit) w2 => ∃ k : Nat, s.1 = k ∧ k ≤ xs.length ∧ (∀ i : Nat, i < k → xs[i]? = ys[i]?) ∧ Below w.heap.size w w2)
      (fun s => xs.length - s.1.toNat) ⟨0, rfl, by omega, fun i hi => by omega, Below.refl _ _⟩ ?_
    rintro ⟨i, _⟩ w2 ⟨k, rfl, hk, ho, hB⟩ I hI
    dsimp only at *
    refine cond_of (fun hlt => ?_) (fun hge => ?_)
    · have hlt := of_decide_eq_true hlt
      have hkl : k < xs.length := by omega
      obtain ⟨x, hx, hxs⟩ := get_of hkl
      obtain ⟨y, hy, hys⟩ := get_of (xs := ys) (k := k) (by omega)
      refine (ha.ext hB).ix rfl (by omega) (by omega) fun hc => ?_
      rw [hxs] at hc
      refine ldS_of (x := x) hc ?_
      refine (hb.ext hB).ix rfl (by omega) (by omega) fun hc => ?_
      rw [hys] at hc
      refine ldS_of (x := y) hc ?_
      change cond (!(sameC x y)) _ _
      refine cond_of (fun e => ?_) (fun e => ?_)
      · have e : ¬ x = y := fun e' => by rw [sameC_iff.2 e'] at e; cases e
        refine hK _ _ ⟨fun e => (by cases e), fun e' => ?_⟩ hB.drew
        subst e'
        rw [hx] at hy
        exact absurd (Option.some.inj hy) e
      · have e : x = y := sameC_iff.1 (by cases hq : sameC x y with
          | true => rfl
          | false => rw [hq] at e; cases e)
        rw [wrap64_id (by omega)]
        refine hI _ _ ⟨k + 1, by simp, by omega, fun i hi => ?_, hB.drew⟩ (by simp; omega)
        rcases Nat.lt_or_ge i k with h' | h'
        · exact ho i h'
        · have : i = k := by omega
          subst this
          rw [hx, hy, e]
    · have hge := of_decide_eq_false hge
      refine hK _ _ ⟨fun _ => ?_, fun _ => rfl⟩ hB
      refine List.ext_getElem? fun i => ?_
      rcases Nat.lt_or_ge i k with h' | h'
      · exact ho i h'
      · rw [List.getElem?_eq_none (by omega), List.getElem?_eq_none (by omega)]

abbrev Act := T_phosphorlaw13_Act
def stepL (X : List Cell) (a : Act) : List Cell :=
  if a.Op = 1 then putP X a.Col a.R a.Width a.A
  else if a.Op = 2 then insL X a.Col a.N a.A
  else if a.Op = 3 then delL X a.Col a.N a.A
  else if a.Op = 4 then eraP X a.Col a.N a.A
  else if a.Op = 5 then (if a.N > 1048576 then X else resL X (if a.N > 240 then 240 else a.N))
  else if a.Op = 6 then mendL X else X
theorem stepL_length {X : List Cell} {a : Act} (h : X.length ≤ 240) : (stepL X a).length ≤ 240 := by
  unfold stepL
  split
  · rw [putP_length]; exact h
  · split
    · rw [insL_length]; exact h
    · split
      · rw [delL_length]; exact h
      · split
        · rw [eraP_length]; exact h
        · split
          · split
            · exact h
            · rw [resL_length]
              split <;> omega
          · split
            · rw [mendL_length]; exact h
            · exact h
theorem stepL_okR {X : List Cell} {a : Act} (h : okR X) (ha : actQ a) : okR (stepL X a) := by
  unfold stepL
  split
  · exact okR_put h ⟨by have := ha.1; omega, by have := ha.2; omega⟩
  · split
    · exact okR_ins h _ _ _
    · split
      · exact okR_del h _ _ _
      · split
        · exact okR_era h _ _ _
        · split
          · split
            · exact h
            · exact okR_res h _
          · split
            · exact okR_mend h
            · exact h
theorem stepL_right {X : List Cell} {a : Act} (h1 : 1 ≤ a.Op) (h6 : a.Op ≤ 6) (h5 : a.Op ≠ 5) : rightB (stepL X a) = true := by
  unfold stepL
  split
  · exact right_put _ _ _ _ _
  · split
    · exact right_ins _ _ _ _
    · split
      · exact right_del _ _ _ _
      · split
        · exact right_era _ _ _ _
        · split
          · exact right_mend _
          · omega

theorem step_spec {l m : Slc} {X : List Cell} {a : Act} {w : World} {K : Slc → Slc → Bool → World → Prop} (hl : Rd cellE w l X) (hm : Rd cellE w m X) (hX : X.length ≤ 240) (ha : actQ a)
    (hK : ∀ l' m' w', Rd cellE w' l' (stepL X a) → Rd cellE w' m' (stepL X a) → Below w.heap.size w w' → K l' m' true w') : c_phosphorlaw13_step l m a w K := by
  refine call_phosphorlaw13_step _ _ _ ?_
  unfold sh_phosphorlaw13_step
  refine nw_blk fun w1 hb1 hB1 hs1 => ?_
  have hl1 := hl.ext hB1
  have hm1 := hm.ext hB1
  have fin : ∀ {l' m' : Slc} {w' : World} {Y : List Cell}, stepL X a = Y → Rd cellE w' l' Y → Rd cellE w' m' Y → Below w.heap.size w w' → K l' m' true w' := fun e h1 h2 h3 => hK _ _ _ (by rw [e]; exact h1) (by rw [e]; exact h2) h3
  have act : ∀ {w' : World}, Blk w' w.heap.size 54 (T_phosphorlaw13_Act.rep.cells a) → cellsAt w' ((⟨w.heap.size, 0, none⟩ : Addr).add 5) (T_api_Attr.rep.cells a.A) := fun hb => hb.sub 5 _ rfl
  refine ldI_of (x := a.Op) (hb1.cells 0 _ rfl) ?_
  refine cond_of (fun e => ?_) (fun e1 => ?_)
  · have e := eq_of_beq e
    have es : stepL X a = putP X a.Col a.R a.Width a.A := by rw [stepL, if_pos e]
    refine ldI_of (x := a.Col) (hb1.cells 1 _ rfl) ?_
    refine ldI_of (x := a.R) (hb1.cells 3 _ rfl) ?_
    refine ldI_of (x := a.Width) (hb1.cells 4 _ rfl) ?_
    refine ldS_of (x := a.A) (act hb1) ?_
    refine Put_spec hl1 (by omega) fun s w2 ho2 hB2 => ?_
    have hb2 := hb1.ext hB2
    refine ldI_of (x := a.Col) (hb2.cells 1 _ rfl) ?_
    refine ldI_of (x := a.R) (hb2.cells 3 _ rfl) ?_
    refine ldI_of (x := a.Width) (hb2.cells 4 _ rfl) ?_
    refine ldS_of (x := a.A) (act hb2) ?_
    refine rPut_spec (hm1.ext hB2) (by omega) fun s' w3 ho3 hB3 => ?_
    rw [beq_self_eq_true]
    have hr : IntKind.i32.wrap (IntKind.i64.wrap a.R) = a.R := by
      have h1 := ha.1
      have h2 := ha.2
      rw [wrap64_id (by omega)]
      exact IntWalk.i32_in _ ⟨h1, h2⟩
    rw [hr, ← put_same] at ho3
    exact fin es (ho2.rd.ext hB3) ho3.rd (hB1.trans ((hB2.trans (hB3.mono hB2.size)).mono hB1.size))
  · have e1 := beq_eq_false_iff_ne.1 e1
    refine cond_of (fun e => ?_) (fun e2 => ?_)
    · have e := eq_of_beq e
      have es : stepL X a = insL X a.Col a.N a.A := by rw [stepL, if_neg e1, if_pos e]
      have hbd := hb1.drew
      refine ldI_of (x := a.Col) (hbd.cells 1 _ rfl) ?_
      refine ldI_of (x := a.N) (hbd.cells 2 _ rfl) ?_
      refine ldS_of (x := a.A) (act hbd) ?_
      refine ldI_of (x := a.Col) (hbd.cells 1 _ rfl) ?_
      refine ldI_of (x := a.N) (hbd.cells 2 _ rfl) ?_
      refine ldS_of (x := a.A) (act hbd) ?_
      refine Insert_spec hl1.drew (by omega) fun s w2 ho2 hB2 => ?_
      have hb2 := hbd.ext hB2
      refine ⟨act hb2, hb2.cells 2 _ rfl, hb2.cells 1 _ rfl, ?_⟩
      refine rInsert_spec (hm1.drew.ext hB2) (by omega) fun s' w3 ho3 hB3 => ?_
      rw [← ins_same] at ho3
      exact fin es (ho2.rd.ext hB3) ho3.rd (hB1.drew.trans ((hB2.trans (hB3.mono hB2.size)).mono hB1.size))
    · have e2 := beq_eq_false_iff_ne.1 e2
      refine cond_of (fun e => ?_) (fun e3 => ?_)
      · have e := eq_of_beq e
        have es : stepL X a = delL X a.Col a.N a.A := by rw [stepL, if_neg e1, if_neg e2, if_pos e]
        have hbd := hb1.drew
        refine ldI_of (x := a.Col) (hbd.cells 1 _ rfl) ?_
        refine ldI_of (x := a.N) (hbd.cells 2 _ rfl) ?_
        refine ldS_of (x := a.A) (act hbd) ?_
        refine ldI_of (x := a.Col) (hbd.cells 1 _ rfl) ?_
        refine ldI_of (x := a.N) (hbd.cells 2 _ rfl) ?_
        refine ldS_of (x := a.A) (act hbd) ?_
        refine Delete_spec hl1.drew (by omega) fun s w2 ho2 hB2 => ?_
        have hb2 := hbd.ext hB2
        refine ⟨act hb2, hb2.cells 2 _ rfl, hb2.cells 1 _ rfl, ?_⟩
        refine rDelete_spec (hm1.drew.ext hB2) (by omega) fun s' w3 ho3 hB3 => ?_
        exact fin es (ho2.rd.ext hB3) ho3.rd (hB1.drew.trans ((hB2.trans (hB3.mono hB2.size)).mono hB1.size))
      · have e3 := beq_eq_false_iff_ne.1 e3
        refine cond_of (fun e => ?_) (fun e4 => ?_)
        · have e := eq_of_beq e
          have es : stepL X a = eraP X a.Col a.N a.A := by rw [stepL, if_neg e1, if_neg e2, if_neg e3, if_pos e]
          have hbd := hb1.drew
          refine ldI_of (x := a.Col) (hbd.cells 1 _ rfl) ?_
          refine ldI_of (x := a.N) (hbd.cells 2 _ rfl) ?_
          refine ldS_of (x := a.A) (act hbd) ?_
          refine ldI_of (x := a.Col) (hbd.cells 1 _ rfl) ?_
          refine ldI_of (x := a.N) (hbd.cells 2 _ rfl) ?_
          refine ldS_of (x := a.A) (act hbd) ?_
          refine Erase_spec hl1.drew (by omega) fun s w2 ho2 hB2 => ?_
          have hb2 := hbd.ext hB2
          refine ⟨act hb2, hb2.cells 2 _ rfl, hb2.cells 1 _ rfl, ?_⟩
          refine rErase_spec (hm1.drew.ext hB2) (by omega) fun s' w3 ho3 hB3 => ?_
          rw [← era_same] at ho3
          exact fin es (ho2.rd.ext hB3) ho3.rd (hB1.drew.trans ((hB2.trans (hB3.mono hB2.size)).mono hB1.size))
        · have e4 := beq_eq_false_iff_ne.1 e4
          refine cond_of (fun e => ?_) (fun e5 => ?_)
          · have e := eq_of_beq e
            have es : stepL X a = (if a.N > 1048576 then X else resL X (if a.N > 240 then 240 else a.N)) := by rw [stepL, if_neg e1, if_neg e2, if_neg e3, if_neg e4, if_pos e]
            refine ldI_of (x := a.N) (hb1.cells 2 _ rfl) ?_
            refine joinP_of fun J hJ => ?_
            have res : ∀ n : Int, ¬ n > 1048576 → stepL X a = resL X n → J (n, ()) w1 := fun n hn he => hJ _ _ (by
              refine cond_f (by simpa using hn) ?_
              refine Resize_spec hl1 (by omega) fun s w2 ho2 hB2 => ?_
              refine rResize_spec (hm1.ext hB2) (by omega) fun s' w3 ho3 hB3 => ?_
              rw [← res_same] at ho3
              exact fin he (ho2.rd.ext hB3) ho3.rd (hB1.trans ((hB2.trans (hB3.mono hB2.size)).mono hB1.size)))
            refine cond_of (fun h => ?_) (fun h => ?_)
            · have h := of_decide_eq_true h
              refine cond_of (fun h' => ?_) (fun h' => ?_)
              · have h' := of_decide_eq_true h'
                exact res 240 (by decide) (by rw [es, if_neg (by omega), if_pos h])
              · have h' := of_decide_eq_false h'
                refine hJ _ _ (cond_t (by simp; omega) ?_)
                exact fin (by rw [es, if_pos (by omega)]) hl1 hm1 hB1
            · have h := of_decide_eq_false h
              exact res a.N (by omega) (by rw [es, if_neg (by omega), if_neg h])
          · have e5 := beq_eq_false_iff_ne.1 e5
            refine cond_of (fun e => ?_) (fun e6 => ?_)
            · have e := eq_of_beq e
              have es : stepL X a = mendL X := by rw [stepL, if_neg e1, if_neg e2, if_neg e3, if_neg e4, if_neg e5, if_pos e]
              refine Mend_spec hl1 (by omega) fun s w2 ho2 hB2 => ?_
              refine rMend_spec (hm1.ext hB2) (by omega) fun s' w3 ho3 hB3 => ?_
              exact fin es (ho2.rd.ext hB3) ho3.rd (hB1.trans ((hB2.trans (hB3.mono hB2.size)).mono hB1.size))
            · have e6 := beq_eq_false_iff_ne.1 e6
              exact fin (by rw [stepL, if_neg e1, if_neg e2, if_neg e3, if_neg e4, if_neg e5, if_neg e6]) hl1 hm1 hB1

theorem LinePlays_law {l acts : Slc} {xs : List Cell} {ops : List Act} {w : World} {K : Bool → World → Prop} (h : Rd cellE w l xs) (hq : ∀ x ∈ xs, cellQ x) (ha : Rd actE w acts ops) (haq : ∀ x ∈ ops, actQ x)
    (hK : ∀ w', Below w.heap.size w w' → K true w') : c_phosphorlaw13_LinePlays l acts w K := by
  refine call_phosphorlaw13_LinePlays _ _ ?_
  unfold sh_phosphorlaw13_LinePlays
  refine known_spec fun w1 hB1 => ?_
  refine cond_f rfl ?_
  rw [h.n, ha.n]
  refine joinP_of fun J hJ => ?_
  refine cond_of (fun _ => hK _ hB1) (fun h1 => ?_)
  refine cond_of (fun _ => hK _ hB1) (fun h2 => ?_)
  have h1 := of_decide_eq_false h1
  have h2 := of_decide_eq_false h2
  refine hJ _ _ ?_
  have ht24 : Tryd.prog.underlying 24 = some (.slice 42) := by kernel_rfl
  have ht25 : Tryd.prog.underlying 25 = some (.slice 42) := by kernel_rfl
  -- a copy
  have copy : ∀ {w2 : World} {s : Slc} {X : List Cell} {F : Slc → World → Prop}, Rd cellE w2 s X → X.length ≤ 240 → (∀ r w3, Rd cellE w3 r X → Below w2.heap.size w2 w3 → F r w3) →
      nw 42 [] w2 fun t w3 => apK Tryd.prog #[24, 25] 24 (⟨some t, 0, 0⟩ : Slc) s w3 fun r w4 => F r w4 := by
    intro w2 s X F hs hX hF
    refine nw_blk fun w3 hb3 hB3 hs3 => ?_
    refine apK_other ht24 ht25 (apK_own slT24 (own_empty (E := cellE) (base := w2.heap.size) hb3 (Nat.le_refl _)) (hs.ext hB3) (by omega) (by rw [by24]; simp; omega) (by simp [maxLen]; omega) fun r w4 ho4 hg4 hr4 => ?_)
    rw [List.nil_append] at ho4
    exact hF _ _ ho4.rd (hB3.grown hg4 hB3.size fun g hg => by cases hg; exact Nat.le_refl _)
  refine copy (h.ext hB1) (by omega) fun m w4 hm4 hB4 => ?_
  have hB04 : Below w.heap.size w w4 := hB1.trans (hB4.mono hB1.size)
  refine loopP_rule (fun (s : Slc × Slc × Int × Unit) w5 => ∃ (k : Nat) (X : List Cell), s.2.2.1 = k ∧ k ≤ ops.length ∧ Rd cellE w5 s.1 X ∧ Rd cellE w5 s.2.1 X ∧ X.length ≤ 240 ∧ okR X ∧ Below w.heap.size w w5)
    (fun s => ops.length - s.2.2.1.toNat) ⟨0, xs, rfl, by omega, h.ext hB04, hm4, by omega, fun c hc => ⟨by have := (hq c hc).1; omega, by have := (hq c hc).2; omega⟩, hB04⟩ ?_
  rintro ⟨s, m, i, _⟩ w5 ⟨k, X, rfl, hk, hs, hm, hX, hok, hB⟩ I hI
  dsimp only at *
  refine cond_of (fun hlt => ?_) (fun hge => hK _ hB)
  have hlt := of_decide_eq_true hlt
  have hkl : k < ops.length := by omega
  have ha5 := ha.ext hB
  refine copy hs hX fun c w7 hc7 hB7 => ?_
  have hB07 : Below w.heap.size w w7 := hB.trans (hB7.mono hB.size)
  have ixa : ∀ {w' : World} {F : Addr → Prop}, Below w.heap.size w w' → (cellsAt w' (acts.at_ 8 k) (actE.cells ops[k]) → F (acts.at_ 8 k)) → ixK acts (k : Int) 8 F := fun hB' hF => (ha.ext hB').ix rfl (by omega) (by omega) hF
  refine ixa hB07 fun hca => ?_
  have haq := haq ops[k] (List.getElem_mem hkl)
  generalize ops[k] = a at *
  refine ldS_of (x := a) hca ?_
  refine step_spec (hs.ext hB7) (hm.ext hB7) hX haq fun l' m' w8 hl8 hm8 hB8 => ?_
  have hB58 : Below w5.heap.size w5 w8 := hB7.trans (hB8.mono hB7.size)
  have hB08 : Below w.heap.size w w8 := hB.trans (hB58.mono hB.size)
  have hYl := stepL_length (a := a) hX
  have hYo := stepL_okR hok haq
  have hYr := @stepL_right X a
  generalize stepL X a = Y at *
  refine joinP_of fun J3 hJ3 => ?_
  refine cond_f rfl ?_
  refine Same_spec (hs.ext hB58) (hc7.ext hB8) fun b w12 hb hB12 hs12 => ?_
  rw [hb.2 rfl]
  refine cond_f rfl ?_
  have hB012 : Below w.heap.size w w12 := hB08.trans (hB12.mono hB08.size)
  have hl12 := hl8.ext hB12
  have hm12 := hm8.ext hB12
  have hs12' := (hs.ext hB58).ext hB12
  have hmo12 := (hm.ext hB58).ext hB12
  refine Same_spec hl12 hm12 fun b w13 hb hB13 hs13 => ?_
  rw [hb.2 rfl]
  refine cond_f rfl ?_
  have hB013 : Below w.heap.size w w13 := hB012.trans (hB13.mono hB012.size)
  refine Text_spec (hl12.ext hB13) (by omega) fun w14 hB14 => ?_
  have hB014 : Below w.heap.size w w14 := hB013.trans (hB14.mono hB013.size)
  refine rText_spec ((hm12.ext hB13).ext hB14) (by omega) hYo fun w15 hB15 => ?_
  have hB015 : Below w.heap.size w w15 := hB014.trans (hB15.mono hB014.size)
  have hB1215 : Below w12.heap.size w12 w15 := (hB13.trans (hB14.mono hB13.size)).trans (hB15.mono (by have := hB13.size; have := hB14.size; omega))
  refine cond_f (by simp) ?_
  refine Right_spec (hl12.ext hB1215) fun w16 hB16 => ?_
  have hB016 : Below w.heap.size w w16 := hB015.trans (hB16.mono hB015.size)
  have hB1216 : Below w12.heap.size w12 w16 := hB1215.trans (hB16.mono hB1215.size)
  refine rRight_spec (hm12.ext hB1216) ?_
  refine cond_f (by simp) ?_
  refine Equal_spec (hl12.ext hB1216) (hs12'.ext hB1216) fun b1 w18 hb1 hB18 => ?_
  have hB018 : Below w.heap.size w w18 := hB016.trans (hB18.mono hB016.size)
  have hB1218 : Below w12.heap.size w12 w18 := hB1216.trans (hB18.mono hB1216.size)
  refine Same_spec (hm12.ext hB1218) (hmo12.ext hB1218) fun b2 w19 hb2 hB19 hs19 => ?_
  have hB019 : Below w.heap.size w w19 := hB018.trans (hB19.mono hB018.size)
  have hB1219 : Below w12.heap.size w12 w19 := hB1218.trans (hB19.mono hB1218.size)
  have hbb : b1 = b2 := by
    cases b1 <;> cases b2 <;> simp_all
  rw [hbb, beq_self_eq_true]
  refine cond_f rfl (hJ3 _ _ ?_)
  refine joinP_of fun J4 hJ4 => ?_
  have next : ∀ w20, Below w12.heap.size w12 w20 → Below w.heap.size w w20 → J4 () w20 := fun w20 hBa hBb => hJ4 _ _ (by
    rw [wrap64_id (by omega)]
    exact hI _ _ ⟨k + 1, Y, by simp, by omega, hl12.ext hBa, hm12.ext hBa, hYl, hYo, hBb⟩ (by simp; omega))
  have done := next _ hB1219 hB019
  refine ixa hB019 fun hca => ?_
  refine ldI_of (x := a.Op) (hca 0 _ rfl) ?_
  refine cond_of (fun g1 => ?_) (fun _ => done)
  refine ixa hB019 fun hca => ?_
  refine ldI_of (x := a.Op) (hca 0 _ rfl) ?_
  refine cond_of (fun g6 => ?_) (fun _ => done)
  refine ixa hB019 fun hca => ?_
  refine ldI_of (x := a.Op) (hca 0 _ rfl) ?_
  refine cond_of (fun g5 => ?_) (fun _ => done)
  refine Right_spec (hl12.ext hB1219) fun w20 hB20 => ?_
  rw [hYr (of_decide_eq_true g1) (of_decide_eq_true g6) (by simpa using g5)]
  exact cond_f rfl (next _ (hB1219.trans (hB20.mono hB1219.size)) (hB019.trans (hB20.mono hB019.size)))

end Go.Proofs.YtgejghejnibocaaDoor
