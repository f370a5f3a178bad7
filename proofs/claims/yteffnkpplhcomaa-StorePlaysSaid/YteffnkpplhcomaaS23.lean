/- The document's store: Right, Twin of a matrix, Put. -/
import Derived.Test.YteffnkpplhcomaaS22
set_option linter.unusedVariables false
namespace Go.Proofs.Yteffnkpplhcomaa
open Go.Vc Go.RowKit
set_option maxRecDepth 100000

theorem rsize_spec {W H : Int} {w : World} {K : Bool → World → Prop} (hK : K (sizeOk W H) w) : c_phosphorref7_size W H w K := by
  refine call_phosphorref7_size _ _ ?_
  unfold sh_phosphorref7_size
  have tail : sizeOk W H = (decide (1 ≤ W) && decide (W ≤ 16384) && decide (1 ≤ H) && decide (H ≤ 16384) && decide (W * H ≤ 67108864)) → cond (decide (W ≥ (1 : Int)))
          (cond (decide (W ≤ (16384 : Int)))
             (cond (decide (H ≥ (1 : Int)))
                (cond (decide (H ≤ (16384 : Int)))
                   (K (decide ((IntKind.i64.wrap (W * H)) ≤ (67108864 : Int))) w)
                   (K false w))
                (K false w))
             (K false w))
          (K false w) := fun e => by
    rw [e] at hK
    refine cond_of (fun h1 => ?_) fun h1 => ?_
    · have g1 := of_decide_eq_true h1
      rw [show decide (1 ≤ W) = true from h1] at hK
      refine cond_of (fun h2 => ?_) fun h2 => ?_
      · have g2 := of_decide_eq_true h2
        rw [h2] at hK
        refine cond_of (fun h3 => ?_) fun h3 => ?_
        · have g3 := of_decide_eq_true h3
          rw [show decide (1 ≤ H) = true from h3] at hK
          refine cond_of (fun h4 => ?_) fun h4 => ?_
          · have g4 := of_decide_eq_true h4
            rw [h4] at hK
            have := bnds_mul g1 g2 g3 g4
            rw [wrap64_id (by omega)]
            simpa using hK
          · rw [h4] at hK; simpa using hK
        · rw [show decide (1 ≤ H) = false from h3] at hK; simpa using hK
      · rw [h2] at hK; simpa using hK
    · rw [show decide (1 ≤ W) = false from h1] at hK; simpa using hK
  refine cond_of (fun h1 => ?_) fun h1 => ?_
  · refine cond_of (fun h2 => ?_) fun h2 => ?_
    · unfold sizeOk at hK
      rw [h1, h2] at hK
      simpa using hK
    · exact tail (by unfold sizeOk; rw [h1, h2]; rfl)
  · exact tail (by unfold sizeOk; rw [h1]; rfl)
section
variable {w w' : World} {base g n : Nat} {q : Slc} {S : St}
theorem rRight_spec {m : T_phosphorref7_Matrix} {K : Bool → World → Prop} (hK : ∀ w', Below w.heap.size w w' → K (rightM m.W m.H m.P.n) w') : c_phosphorref7_Right m w K := by
  refine call_phosphorref7_Right _ ?_
  unfold sh_phosphorref7_Right
  refine nw_blk fun w1 hb1 hB1 hs1 => ?_
  refine ldI_of (x := m.W) (hb1.cells 0 _ rfl) (ldI_of (x := m.H) (hb1.cells 1 _ rfl) (rsize_spec ?_))
  have hK := hK w1 hB1
  unfold rightM at hK
  refine cond_of (fun h => ?_) fun h => ?_
  · rw [h, Bool.true_and] at hK
    have hb := sizeOk_bnd h
    refine ldSl_of (x := m.P) (hb1.cells 2 _ rfl) (ldI_of (x := m.W) (hb1.cells 0 _ rfl) (ldI_of (x := m.H) (hb1.cells 1 _ rfl) ?_))
    have h4 : (4 : Int) * m.W * m.H = 4 * (m.W * m.H) := Int.mul_assoc _ _ _
    rw [wrap64_id (x := 4 * m.W) (by omega), wrap64_id (by omega)]
    exact hK
  · rw [h, Bool.false_and] at hK
    exact hK
theorem rTwin_spec {m : T_phosphorref7_Matrix} {bs : List UInt8} (hP : Rd E_uint8 w m.P bs) (hl : bs.length ≤ 900000000000) {K : T_phosphorref7_Matrix → World → Prop}
    (hK : ∀ P w', Own E_uint8 w' w.heap.size P bs → Below w.heap.size w w' → K ⟨m.W, m.H, P⟩ w') : c_phosphorref7_Twin m w K := by
  refine call_phosphorref7_Twin _ ?_
  unfold sh_phosphorref7_Twin
  refine nw_blk fun w1 hb1 hB1 hs1 => ?_
  refine nw_blk fun w2 hb2 hB2 hs2 => ?_
  have hb12 := hb1.ext hB2
  have hBd : Below w.heap.size w w2.drew := (hB1.trans (hB2.mono (by omega))).drew
  have hsd : w2.drew.heap.size = w2.heap.size := rfl
  refine ldI_of (x := m.W) (hb12.drew.cells 0 _ rfl) (ldI_of (x := m.H) (hb12.drew.cells 1 _ rfl) (ldSl_of (x := m.P) (hb12.drew.cells 2 _ rfl) ?_))
  have hb2d := hb2.drew
  have hb12d := hb12.drew
  generalize w2.drew = wd at hBd hsd hb2d hb12d
  refine nw_blk fun w3 hb3 hB3 hs3 => ?_
  have hb13 := hb12d.ext hB3
  refine ⟨hb13.cells 2 _ rfl, hb13.cells 1 _ rfl, hb13.cells 0 _ rfl, ?_⟩
  have hB03 : Below w.heap.size w w3 := hBd.trans (hB3.mono hBd.size)
  refine apB (b := wd.heap.size) (own_empty hb3 (Nat.le_refl _)) (hP.ext hB03) (by omega) (by simp; omega) fun q4 w4 ho4 hc4 _ => ?_
  have hne : ∀ k, k < wd.heap.size → ¬ ((⟨some ⟨wd.heap.size, 0, none⟩, 0, 0⟩ : Slc).blk = some k) := fun k hk e => by
    have : k = wd.heap.size := by cases e; rfl
    omega
  have hb14 := hb13.chg hc4 (hne _ (by omega))
  have hb24 := (hb2d.ext hB3).chg hc4 (hne _ (by omega))
  refine ⟨hb14.cells 1 _ rfl, hb14.cells 0 _ rfl, ?_⟩
  refine stK_blk hb24 (by simp) fun w5 hb5 hg5 hs5 => ?_
  have hb5 : Blk w5 w1.heap.size ty_phosphorref7_Matrix (T_phosphorref7_Matrix.rep.cells ⟨m.W, m.H, q4⟩) := hb5
  refine ldS_of (x := (⟨m.W, m.H, q4⟩ : T_phosphorref7_Matrix)) hb5.cells ?_
  have ho5 := ho4.chg (Chg.gg hg5) fun k hk e => by have := (ho4.lt k hk).1; omega
  refine hK q4 w5 (ho5.base hBd.size) ?_
  have hws := hBd.size
  have c : Chg (fun k => w.heap.size ≤ k) w w5 := ((Chg.of_ext hB03).trans hc4 fun i hi e => by
    rcases Nat.lt_or_ge i w.heap.size with h | h
    · exact absurd e (hne i (by omega))
    · exact h).trans (Chg.gg hg5) fun i _ e => by omega
  exact c.ext fun i hi e => by omega
theorem rPut_spec {id num : Int} {m : T_phosphorref7_Matrix} {bs : List UInt8} (h : RefM w base g q S) (hk : StOk n S) (hn9 : n ≤ 900) (hbase : base ≤ w.heap.size)
    (hP : Rd E_uint8 w m.P bs) (hPg : 0 < bs.length → ∀ a, m.P.a = some a → ¬ onR g a.block) {K : Int → Slc → Int → World → Prop}
    (hE : ∀ w', putErr S id num m.W m.H bs.length ≠ 0 → RefM w' base g q S → Below w.heap.size w w' → K 0 ⟨none, 0, 0⟩ (putErr S id num m.W m.H bs.length) w')
    (hK : ∀ P o q' w', putErr S id num m.W m.H bs.length = 0 → RefM w' base g q' ((S.putPre id bs.length).1.putAt (newId (S.putPre id bs.length).1.L id) num m.W m.H P bs) → StOk (n + 1) ((S.putPre id bs.length).1.putAt (newId (S.putPre id bs.length).1.L id) num m.W m.H P bs) →
      Own E_int w' w.heap.size o (S.putPre id bs.length).2 → Chg (onR g) w w' → K (newId (S.putPre id bs.length).1.L id) o 0 w') :
    c_phosphorref21_Store_Put (some ⟨g, 0, none⟩) id num m w K := by
  refine call_phosphorref21_Store_Put _ _ _ _ ?_
  unfold sh_phosphorref21_Store_Put
  have hn : n ≤ 1000 := by omega
  have hPn := hP.n
  have hgl := h.blk.lt
  refine nw_blk fun w1 hb1 hB1 hs1 => ?_
  refine joinP_of fun J1 hJ1 => joinP_of fun J5 hJ5 => ?_
  have good : ∀ w2, Below w.heap.size w w2 → Blk w2 w.heap.size ty_phosphorref7_Matrix (T_phosphorref7_Matrix.rep.cells m) → (rightM m.W m.H bs.length && !(m.W == 0) && isNum id && isNum num) = true → J1 () w2 := fun w2 hB2 hb2 hg => by
    have hnum : isNum id = true := by simp only [Bool.and_eq_true] at hg; exact hg.1.2
    have he : putErr S id num m.W m.H bs.length = if (bs.length : Int) > S.quota then 6 else 0 := by unfold putErr; rw [hg]; rfl
    refine hJ1 _ _ ?_
    have h2 := (h.ext hB2).drew
    have hb2 := hb2.drew
    have hB2 := hB2.drew
    have hs2 : w.heap.size ≤ w2.heap.size := hB2.size
    refine ldSl_of (x := m.P) (hb2.cells 2 _ rfl) (onPtr_some' (ldI_of (x := S.quota) (h2.blk.cells 0 _ rfl) ?_))
    rw [hPn]
    refine cond_of (fun hgt => ?_) fun hgt => ?_
    · have hgt := of_decide_eq_true hgt
      rw [if_pos hgt] at he
      rw [he] at hE
      exact hE _ (by decide) h2 hB2
    have hgt := of_decide_eq_false hgt
    rw [if_neg hgt] at he
    have hl2 := hb2.lt
    have hbl : bs.length ≤ 1073741824 := by have := hk.q1; omega
    refine onPtr_some' (h2.res 0 fun w3 h3 hc3 hs3 => ?_)
    have hk3 : StOk n { S with res := 0 } := res_ok hk 0
    have hb3 := hb2.chg hc3 fun e => by have e : w.heap.size = g := e; omega
    refine joinP_of fun J2 hJ2 => ?_
    have next : ∀ w4 (S1 : St) (q1 : Slc), S1 = (if id = 0 then ({ S with res := 0 } : St) else ({ S with res := 0 } : St).drop id) → RefM w4 base g q1 S1 → StOk n S1 → S1.quota = S.quota → (id ≠ 0 → lookL S1.L id = none) → Chg (onR g) w3 w4 → J2 () w4 := fun w4 S1 q1 hS1 h4 hk4 hqq hno hc4 => by
      refine hJ2 _ _ ?_
      have hb4 := hb3.chg hc4 fun e => by have e : w.heap.size = g := e; omega
      refine ldSl_of (x := m.P) (hb4.cells 2 _ rfl) ?_
      rw [hPn]
      have hs3' := hc3.size
      have hs4 := hc4.size
      have hs2d : w2.drew.heap.size = w2.heap.size := rfl
      refine rRoom_spec h4 hk4 hn (by omega) (by omega) (by omega) fun o5 q5 w5 h5 ho5 hc5 => ?_
      have hpre : S.putPre id bs.length = S1.room bs.length := by unfold St.putPre; rw [hS1]
      rw [hpre] at hK
      have hk5 : StOk n (S1.room bs.length).1 := roomF_ok _ _ hk4
      have hfit : (S1.room bs.length).1.used ≤ S1.quota - bs.length := roomF_used (by omega) _ hk4 (by omega) (Nat.le_refl _)
      have hfld := (roomF_fields (bs.length : Int) S1.L.length S1 []).1
      have hfld : (S1.room bs.length).1.quota = S1.quota := hfld
      have hno5 : id ≠ 0 → lookL (S1.room bs.length).1.L id = none := fun e => by
        have hno := hno e
        have key : ∀ (f : Nat) (S' : St) (G : List Int), lookL S'.L id = none → lookL (S'.roomF bs.length f G).1.L id = none := by
          intro f
          induction f with
          | zero => exact fun _ _ h => h
          | succ f ih =>
            intro S' G h
            unfold St.roomF
            split
            · refine ih _ _ ?_
              show lookL (delL S'.L _) id = none
              cases hl : lookL (delL S'.L (eldest S'.L)) id with
              | none => rfl
              | some x =>
                exfalso
                unfold lookL at hl
                obtain ⟨p, hp, _⟩ := Option.map_eq_some_iff.1 hl
                have h3 := List.find?_some hp
                exact look_none h _ (del_mem (List.mem_of_find?_eq_some hp)) (by simpa using h3)
            · exact h
        exact key _ _ _ hno
      have c25 : Chg (onR g) w2.drew w5 := (hc3.trans hc4 fun i _ hi => hi).trans hc5 fun i _ hi => hi
      have hb5 := hb4.chg hc5 fun e => by have e : w.heap.size = g := e; omega
      have hP5 : Rd E_uint8 w5 m.P bs := rd_chg0 (hP.ext hB2) c25 hPg
      have hs5 := hc5.size
      have cA : Chg (onR g) w w5 := (Chg.of_ext hB2).trans c25 fun i _ hi => hi
      refine joinP_of fun J3 hJ3 => ?_
      generalize hz : newId (S1.room bs.length).1.L id = z at hK
      have hzok := newId_ok hk5 hn hnum
      have hznone := newId_none hk5 hn hno5
      rw [hz] at hzok hznone
      have last : ∀ w6, Below w5.heap.size w5 w6 → J3 (z, ()) w6 := fun w6 hB6 => by
        refine hJ3 _ _ ?_
        have h6 := h5.ext hB6
        have hs6 := hB6.size
        have hc0 := hk5.clk0
        have hc1 := hk5.clk
        have hb6 := hb5.ext hB6
        have ho6 := ho5.ext hB6
        refine onPtr_some' (ldI_of (x := (S1.room bs.length).1.clock) (h6.blk.cells 2 _ rfl) (onPtr_some' ?_))
        rw [add_mk, wrap64_id (by omega)]
        refine stK_blk h6.blk (by simp [rCells]) fun w7 hb7 hg7 hs7 => ?_
        have h7 : RefM w7 base g q5 { (S1.room bs.length).1 with clock := (S1.room bs.length).1.clock + 1 } := ⟨hb7, h6.row.chg (Chg.gg hg7) fun k hk e => own_ne_b h6.row h6.blk (by decide) k hk e, fun p hp => (h6.img p hp).chg (Chg.gg hg7) fun k hk e => (h6.img p hp).ne_b h6.blk (by decide) k hk e⟩
        have hbm7 := hb6.chg (Chg.gg hg7) fun e => by omega
        have ho7 := ho6.chg (Chg.gg hg7) fun k hk e => own_ne_b ho6 h6.blk (by decide) k hk e
        have hP7 : Rd E_uint8 w7 m.P bs := rd_chg0 (hP5.ext hB6) (Chg.gg hg7) hPg
        have cB : Chg (onR g) w w7 := (cA.trans (Chg.of_ext hB6) fun i _ hi => hi).trans (Chg.gg hg7) fun i _ hi => hi
        have hd := h7.drew
        have hbd := hbm7.drew
        have hPd := hP7.drew
        have hod := ho7.drew
        have cD : Chg (onR g) w w7.drew := cB.trans (Chg.of_ext (Below.refl _ w7).drew) fun i _ hi => hi
        have hsd : w7.drew.heap.size = w7.heap.size := rfl
        refine ldS_of (x := m) hbd.cells ?_
        refine onPtr_some' (ldI_of (x := (S1.room bs.length).1.clock + 1) (hd.blk.cells 2 _ rfl) (onPtr_some' (ldI_of (x := (S1.room bs.length).1.clock + 1) (hd.blk.cells 2 _ rfl) ?_)))
        generalize w7.drew = wd at hd hbd hPd hod cD hsd
        have cc : ∀ {w' : World}, Below wd.heap.size wd w' → World.cell? w' ((⟨g, 0, none⟩ : Addr).add 2) = some (.int .i64 ((S1.room bs.length).1.clock + 1)) := fun hB => (hd.blk.ext hB).cells 2 _ rfl
        have fin : ∀ (w9 : World) (xb : Nat) (P : Slc) (vs : List Value), Below wd.heap.size wd w9 → wd.heap.size ≤ xb → Blk w9 xb ty_phosphorref21_Image vs → vs.length = 7 → Hold w9 wd.heap.size P bs →
            stK (⟨xb, 0, none⟩ : Addr) [(.int .i64 z), (.int .i64 num), (.int .i64 m.W), (.int .i64 m.H), (.slice P.a P.n P.c), (.int .i64 ((S1.room bs.length).1.clock + 1)), (.int .i64 ((S1.room bs.length).1.clock + 1))] w9 fun w10 =>
              insLoop (some ⟨g, 0, none⟩) ⟨xb, 0, none⟩ z w10 fun w => K z o5 0 w := fun w9 xb P vs hB9 hxb hbx hvs hPP => by
          have hxs : ∀ us : List Value, us.length = 7 → putL vs 0 us = us := fun us hu => by
            refine List.ext_getElem? fun m => ?_
            rw [putL_get us vs 0 m (by omega)]
            by_cases hm : m < us.length
            · rw [if_pos (by omega)]; rfl
            · rw [if_neg (by omega), List.getElem?_eq_none (by omega), List.getElem?_eq_none (by omega)]
          refine stK_blk hbx (by simp [hvs]) fun w10 hb10 hg10 hs10 => ?_
          rw [hxs _ rfl] at hb10
          have hBA : Below wd.heap.size wd w10 := hB9.grown hg10 hB9.size fun k hk => by cases hk; exact hxb
          have h10 := hd.ext hBA
          have hP10 : Hold w10 wd.heap.size P bs := hPP.chg (Chg.gg hg10) fun k hk e => hPP.ne_b hbx (by decide) k hk e
          have hok := putAt_ok (P := P) (num := num) (W := m.W) (H := m.H) (bs := bs) hk5 hznone hzok (by omega)
          have hkc : StOk (n + 1) { (S1.room bs.length).1 with clock := (S1.room bs.length).1.clock + 1 } := ⟨hk5.q0, hk5.q1, hk5.used, hk5.fits, Nat.le_succ_of_le hk5.len, by show 0 ≤ _ + 1; omega, by show (S1.room bs.length).1.clock + 1 ≤ _; omega, hk5.srt, (fun p hp => by have := hk5.keys p hp; omega), (fun p hp => by have := hk5.stamps p hp; refine ⟨this.1, ?_⟩; show _ ≤ (S1.room bs.length).1.clock + 1; omega), (fun p hp => by have := hk5.borns p hp; refine ⟨this.1, ?_⟩; show _ ≤ (S1.room bs.length).1.clock + 1; omega), hk5.st1, hk5.bo1⟩
          have hsA := hBA.size
          refine insLoop_spec (n := n + 1) (y := ⟨⟨num, ⟨m.W, m.H, P⟩, (S1.room bs.length).1.clock + 1, (S1.room bs.length).1.clock + 1⟩, bs⟩) h10 hkc (by omega) (by omega) hb10 (hP10.base (by omega)) hznone fun q' w11 h11 hc11 => ?_
          have ho10 := hod.ext hBA
          refine hK P o5 q' w11 he ?_ hok ?_ ?_
          · exact ⟨h11.blk, h11.row, h11.img⟩
          · exact (ho10.chg hc11 fun k hk e => own_ne_b ho10 h10.blk (by decide) k hk e).base (by omega)
          · exact (cD.trans (Chg.of_ext hBA) fun i _ hi => hi).trans hc11 fun i _ hi => hi
        refine ⟨?_, ?_⟩
        · refine rTwin_spec hPd (by omega) fun P w8 hP8 hB8 => ?_
          refine ⟨cc hB8, cc hB8, ?_⟩
          refine nw_blk fun w9 hb9 hB9 hs9 => ?_
          have hB89 := hB8.trans (hB9.mono hB8.size)
          refine ⟨cc hB89, cc hB89, (hbd.ext hB89).cells, ?_⟩
          exact fin w9 _ P _ hB89 hB8.size hb9 rfl (own_hold (hP8.ext hB9))
        · refine nw_blk fun w8 hb8 hB8 hs8 => ?_
          refine ⟨cc hB8, cc hB8, (hbd.ext hB8).cells, ?_⟩
          refine rTwin_spec (hPd.ext hB8) (by omega) fun P w9 hP9 hB9 => ?_
          have hB89 := hB8.trans (hB9.mono hB8.size)
          refine ⟨cc hB89, cc hB89, ?_⟩
          exact fin w9 _ P _ hB89 (Nat.le_refl _) (hb8.ext hB9) rfl (own_hold (hP9.base hB8.size))
      refine cond_of (fun e0 => ?_) fun e0 => ?_
      · have e0 := eq_of_beq e0
        subst e0
        have hfree := free_at hk5
        refine loopP_rule (Inv := fun (s : Int × Unit) w6 => ∃ j : Nat, s.1 = 1099511627776 + (j : Int) ∧ j ≤ n + 1 ∧ freeF (S1.room bs.length).1.L (2000 - j) s.1 = z ∧ Below w5.heap.size w5 w6) (μ := fun s => (1099511627776 + 2000 - s.1).toNat) ⟨0, by omega, by omega, hz, Below.refl _ _⟩ ?_
        rintro ⟨k, ⟨⟩⟩ w6 ⟨j, hj, hj1, hj2, hB6⟩ I hI
        have hj : k = 1099511627776 + (j : Int) := hj
        have hlk := hk5.len
        refine at_spec (h5.ext hB6) (by omega) k ?_
        have e2 : 2000 - j = (2000 - (j + 1)) + 1 := by omega
        have hj2 : freeF (S1.room bs.length).1.L (2000 - j) k = z := hj2
        rw [e2] at hj2
        unfold freeF at hj2
        rcases atL_res (S1.room bs.length).1.L k with ⟨a1, a2⟩ | ⟨i, hi, a1, a2, a3⟩
        · rw [a2]
          rw [a1] at hj2
          have hj2 : k = z := hj2
          refine cond_f rfl ?_
          rw [hj2]
          exact last w6 hB6
        · rw [a2]
          rw [a3] at hj2
          have hj2 : freeF (S1.room bs.length).1.L (2000 - (j + 1)) (k + 1) = z := hj2
          refine cond_t (decide_eq_true (by omega)) ?_
          have hjn : j ≠ n + 1 := fun e => by
            rw [hj, e, hfree] at a3
            cases a3
          rw [wrap64_id (by omega)]
          exact hI _ _ ⟨j + 1, by show k + 1 = _; omega, by omega, hj2, hB6⟩ (by show (1099511627776 + 2000 - (k + 1)).toNat < (1099511627776 + 2000 - k).toNat; omega)
      · have e0 : id ≠ 0 := fun e => by rw [e] at e0; simp at e0
        have hnid : newId (S1.room bs.length).1.L id = id := by unfold newId; rw [if_neg e0]
        rw [hnid] at hz
        subst hz
        exact last w5 (Below.refl _ _)
    refine cond_of (fun e0 => ?_) fun e0 => ?_
    · have e0 := bne_iff_ne.1 e0
      refine rDrop_spec h3 hk3 hn (by have hs2d : w2.drew.heap.size = w2.heap.size := rfl; omega) id fun q4 w4 h4 hc4 => ?_
      refine next w4 _ q4 (by rw [if_neg e0]) h4 (drop_ok hk3 id) rfl (fun _ => ?_) hc4
      cases hl : lookL (({ S with res := 0 } : St).drop id).L id with
      | none => rfl
      | some x =>
        have := ((mem_delL id id x).1 ((lookL_some (srt_delL hk.srt id)).1 hl)).1
        exact absurd rfl this
    · have e0 : id = 0 := by simpa using e0
      exact next w3 _ q (by rw [if_pos e0]) h3 hk3 rfl (fun e => absurd e0 e) (Chg.refl _ _)
  have fin : ∀ (c : Bool) (w2 : World), Below w.heap.size w w2 → Blk w2 w.heap.size ty_phosphorref7_Matrix (T_phosphorref7_Matrix.rep.cells m) → c = (!(rightM m.W m.H bs.length && !(m.W == 0) && isNum id && isNum num)) → J5 (c, ()) w2 := fun c w2 hB2 hb2 hc => by
    refine hJ5 _ _ ?_
    cases hg : (rightM m.W m.H bs.length && !(m.W == 0) && isNum id && isNum num) with
    | false =>
      have he : putErr S id num m.W m.H bs.length = 1 := by unfold putErr; rw [hg]; rfl
      rw [he] at hE
      rw [hg] at hc
      exact cond_t hc (hE w2 (by decide) (h.ext hB2) hB2)
    | true =>
      rw [hg] at hc
      exact cond_f hc (good w2 hB2 hb2 hg)
  refine ldS_of (x := m) hb1.cells ?_
  refine rRight_spec fun w2 hB2 => ?_
  have hB12 : Below w.heap.size w w2 := hB1.trans (hB2.mono (by omega))
  have hb2 := hb1.ext hB2
  rw [hPn]
  refine cond_of (fun e1 => ?_) fun e1 => ?_
  · refine fin _ _ hB12 hb2 ?_
    simp at e1
    rw [e1]
    rfl
  · simp at e1
    refine ldI_of (x := m.W) (hb2.cells 0 _ rfl) ?_
    refine cond_of (fun e2 => fin _ _ hB12 hb2 (by rw [e2]; simp)) fun e2 => ?_
    refine cond_of (fun e3 => fin _ _ hB12 hb2 (by unfold isNum; rw [decide_eq_false (show ¬ 0 ≤ id by have := of_decide_eq_true e3; omega)]; simp)) fun e3 => ?_
    refine cond_of (fun e4 => fin _ _ hB12 hb2 (by unfold isNum; rw [decide_eq_false (show ¬ id ≤ 4294967295 by have := of_decide_eq_true e4; omega)]; simp)) fun e4 => ?_
    have hid : isNum id = true := by
      have e3 := of_decide_eq_false e3
      have e4 := of_decide_eq_false e4
      unfold isNum
      rw [decide_eq_true (by omega), decide_eq_true (by omega)]
      rfl
    refine cond_of (fun e5 => fin _ _ hB12 hb2 (by unfold isNum; rw [decide_eq_false (show ¬ 0 ≤ num by have := of_decide_eq_true e5; omega)]; simp)) fun e5 => ?_
    refine fin _ _ hB12 hb2 ?_
    rw [e1, e2, hid]
    have e5 := of_decide_eq_false e5
    unfold isNum
    rw [decide_eq_true (show 0 ≤ num by omega)]
    by_cases h6 : num ≤ 4294967295
    · rw [decide_eq_true h6, decide_eq_false (by omega)]; rfl
    · rw [decide_eq_false h6, decide_eq_true (by omega)]; rfl
end
end Go.Proofs.Yteffnkpplhcomaa
