/- The program's store: Put, New, Twin. -/
import Derived.Test.YteffnkpplhcomaaS8
set_option linter.unusedVariables false
namespace Go.Proofs.Yteffnkpplhcomaa
open Go.Vc Go.RowKit
set_option maxRecDepth 100000

section
variable {w : World} {base g r n : Nat} {S : St}
theorem Clip_spec {base : Nat} {s : Slc} {xs : List UInt8} {K : Slc → World → Prop} (h : Hold w base s xs) (hK : ∀ q : Slc, Hold w base q xs → q.n = xs.length → K q w) : c_slices_Clip_byte_byte s w K := by
  refine call_slices_Clip_byte_byte _ ?_
  unfold sh_slices_Clip_byte_byte
  have hn := h.rd.n
  refine h.rd.slK3 (l := 0) (m := xs.length) (k := 1) rfl (.inl ⟨rfl, rfl⟩) (by rw [hn]) (by rw [hn]) (Nat.zero_le _) (Nat.le_refl _) fun hr => ?_
  rw [List.take_of_length_le (Nat.le_refl _), List.drop_zero] at hr
  refine hK _ ⟨hr, fun k hk => ?_⟩ (by show xs.length - 0 = _; omega)
  obtain ⟨a, ha, hak⟩ := slk.1 hk
  obtain ⟨b, hb, hab⟩ := cut_block ha
  exact h.blk k (slk.2 ⟨b, hb, by omega⟩)
/-- The end of Put. -/
theorem Put_last {i num : Int} {m : T_api_Matrix} {bs : List UInt8} {mb : Nat} {w6 : World} {K : World → Prop} (h : StM w6 base g r S) (hk : StOk n S) (hn : n ≤ 1000) (hbase : base ≤ w6.heap.size)
    (hb : Blk w6 mb ty_api_Matrix (T_api_Matrix.rep.cells m)) (hP : Rd E_uint8 w6 m.P bs) (hPg : 0 < bs.length → ∀ a, m.P.a = some a → a.block ≠ g) (hf : S.used + bs.length ≤ S.quota)
    (hi1 : 0 < i ∧ i ≤ 1099511627776 + ((n + 1 : Nat) : Int))
    (hK : ∀ P w', StM w' base g r (S.putAt i num m.W m.H P bs) → Chg (fun k => onS g r k ∨ k = mb) w6 w' → K w') :
        onPtr (some ⟨g, 0, none⟩) fun t60 =>
        ldI .i64 (t60.add 3) w6 fun t62 =>
        onPtr (some ⟨g, 0, none⟩) fun t64 =>
        stK (t64.add 3) [(.int .i64 (IntKind.i64.wrap (t62 + (1 : Int))))] w6 fun w7 =>
        ldSl ((⟨mb, 0, none⟩ : Addr).add 2) w7 fun t67 =>
        c_slices_Clone_byte_byte t67 w7 fun t68 w8 =>
        c_slices_Clip_byte_byte t68 w8 fun t69 w9 =>
        stK ((⟨mb, 0, none⟩ : Addr).add 2) [(.slice t69.a t69.n t69.c)] w9 fun w10 =>
        onPtr (some ⟨g, 0, none⟩) fun t72 =>
        ldM (t72.add 4) w10.drew fun t74 =>
        ldS T_api_Matrix.rep (⟨mb, 0, none⟩ : Addr) w10.drew fun (t77 : T_api_Matrix) =>
        onPtr (some ⟨g, 0, none⟩) fun t79 =>
        ldI .i64 (t79.add 3) w10.drew fun t81 =>
        onPtr (some ⟨g, 0, none⟩) fun t83 =>
        ldI .i64 (t83.add 3) w10.drew fun t85 =>
        runU PG (Instr.mapUpdate ty_map_int_store_image (.map t74) (.int .i64 i) (.agg #[(.int .i64 num), (.int .i64 t77.W), (.int .i64 t77.H), (.slice t77.P.a t77.P.n t77.P.c), (.int .i64 t81), (.int .i64 t85)])) w10.drew fun _ w11 =>
        onPtr (some ⟨g, 0, none⟩) fun t88 =>
        ldI .i64 (t88.add 2) w11.drew fun t90 =>
        ldSl ((⟨mb, 0, none⟩ : Addr).add 2) w11.drew fun t92 =>
        onPtr (some ⟨g, 0, none⟩) fun t95 =>
        stK (t95.add 2) [(.int .i64 (IntKind.i64.wrap (t90 + ((t92.n : Nat) : Int))))] w11.drew fun w12 =>
        K w12 := by
  have hc0 := hk.clk0
  have hc1 := hk.clk
  have hu := hk.used
  have hq1 := hk.q1
  have hgl := h.blk.lt
  have hrl := h.map.lt
  have hmg : mb ≠ g := hb.ne_t h.blk (by decide)
  have hmr : r ≠ mb := h.map.ne_blk hb
  refine onPtr_some' (ldI_of (x := S.clock) (h.blk.cells 3 _ rfl) (onPtr_some' ?_))
  rw [add_mk, wrap64_id (by omega)]
  refine stK_blk h.blk (by simp [St.cells]) fun w7 hb7 hg7 hs7 => ?_
  have hb7 : Blk w7 g ty_store_Store (({ S with clock := S.clock + 1 } : St).cells r) := hb7
  have c7 : Chg (fun k => onS g r k ∨ k = mb) w6 w7 := (Chg.gg hg7).mono fun i _ hi => .inl (.inl hi)
  have hm7 : MapM Im.enc w7 r S.L := h.map.chg (Chg.gg hg7) h.ne
  have hbm7 := hb.chg (Chg.gg hg7) hmg
  have hP7 : Rd E_uint8 w7 m.P bs := rd_chg0 hP (Chg.gg hg7) fun hp a ha e => hPg hp a ha e
  refine ldSl_of (x := m.P) (hbm7.cells 2 _ rfl) ?_
  refine CloneB_spec hP7 (by omega) fun q8 w8 ho8 hB8 => ?_
  refine Clip_spec (own_hold ho8) fun q9 hq9 hqn => ?_
  rw [add_mk]
  have hs8 := hB8.size
  have hbm8 := hbm7.ext hB8
  have hb8 := hb7.ext hB8
  have hm8 := hm7.ext hB8
  refine stK_blk hbm8 (by simp [T_api_Matrix.rep]) fun w10 hb10 hg10 hs10 => ?_
  have hb10 : Blk w10 mb ty_api_Matrix (T_api_Matrix.rep.cells { m with P := q9 }) := hb10
  have hbg10 := hb8.chg (Chg.gg hg10) fun e => hmg e.symm
  have hm10 : MapM Im.enc w10 r S.L := hm8.chg (Chg.gg hg10) hmr
  have hq10 : Hold w10 w7.heap.size q9 bs := hq9.chg (Chg.gg hg10) fun k hk e => hq9.ne_b hbm8 (by decide) k hk e
  refine onPtr_some' (ldM_of (x := some r) (hbg10.drew.cells 4 _ rfl) ?_)
  refine ldS_of (x := ({ m with P := q9 } : T_api_Matrix)) hb10.drew.cells ?_
  refine onPtr_some' (ldI_of (x := S.clock + 1) (hbg10.drew.cells 3 _ rfl) ?_)
  refine onPtr_some' (ldI_of (x := S.clock + 1) (hbg10.drew.cells 3 _ rfl) ?_)
  obtain ⟨w11, hr11, hm11, hc11, hs11⟩ := (hm10.keep (w' := w10.drew) rfl).update tmap tint (k := i) (by omega) (enc := Im.enc) ⟨⟨num, ⟨m.W, m.H, q9⟩, S.clock + 1, S.clock + 1⟩, bs⟩
  refine runU_of hr11 ?_
  have hbg11 := hbg10.drew.chg hc11 fun e => h.ne e.symm
  have hb11 := hb10.drew.chg hc11 fun e => hmr e.symm
  have hq11 := hq10.drew.chg hc11 fun k hk e => hq10.ne_m hm10 k hk e
  refine onPtr_some' (ldI_of (x := S.used) (hbg11.drew.cells 2 _ rfl) ?_)
  refine ldSl_of (x := q9) (hb11.drew.cells 2 _ rfl) ?_
  refine onPtr_some' ?_
  rw [add_mk, hqn, wrap64_id (by omega)]
  refine stK_blk hbg11.drew (by simp [St.cells]) fun w12 hb12 hg12 hs12 => ?_
  have c8 : Chg (fun k => onS g r k ∨ k = mb) w6 w10 := (c7.trans (Chg.of_ext hB8) fun i _ hi => hi).trans (Chg.gg hg10) fun i _ hi => .inr hi
  have c11 : Chg (fun k => onS g r k ∨ k = mb) w6 w11 := (c8.trans (Chg.of_ext (Below.refl _ w10).drew) fun i _ hi => hi).trans hc11 fun i _ hi => .inl (.inr hi)
  have c12 : Chg (fun k => onS g r k ∨ k = mb) w6 w12 := (c11.trans (Chg.of_ext (Below.refl _ w11).drew) fun i _ hi => hi).trans (Chg.gg hg12) fun i _ hi => .inl (.inl hi)
  refine hK q9 w12 ⟨hb12, (hm11.keep (w' := w11.drew) rfl).chg (Chg.gg hg12) h.ne, fun p hp => ?_⟩ c12
  obtain ⟨a, b⟩ := p
  rcases (mem_putL hk.srt _ _ a b).1 hp with ⟨rfl, rfl⟩ | ⟨_, hp'⟩
  · exact (hq11.drew.chg (Chg.gg hg12) fun k hk e => hq11.ne_b hbg11 (by decide) k hk e).base (by omega)
  · refine (h.img _ hp').chg c12 fun k hk e => ?_
    rcases e with e | e
    · exact h.own_blk _ hp' k hk e
    · exact (h.img _ hp').ne_b hb (by decide) k hk e
theorem Put_spec {id num : Int} {m : T_api_Matrix} {bs : List UInt8} (h : StM w base g r S) (hk : StOk n S) (hn : n ≤ 1000) (hbase : base ≤ w.heap.size)
    (hP : Rd E_uint8 w m.P bs) (hPg : 0 < bs.length → ∀ a, m.P.a = some a → ¬ onS g r a.block) {K : Int → Slc → Int → World → Prop}
    (hE : ∀ w', putErr S id num m.W m.H bs.length ≠ 0 → StM w' base g r S → Below w.heap.size w w' → K 0 ⟨none, 0, 0⟩ (putErr S id num m.W m.H bs.length) w')
    (hK : ∀ P q w', putErr S id num m.W m.H bs.length = 0 → StM w' base g r ((S.putPre id bs.length).1.putAt (newId (S.putPre id bs.length).1.L id) num m.W m.H P bs) → StOk (n + 1) ((S.putPre id bs.length).1.putAt (newId (S.putPre id bs.length).1.L id) num m.W m.H P bs) →
      Own E_int w' w.heap.size q (S.putPre id bs.length).2 → Chg (onS g r) w w' → K (newId (S.putPre id bs.length).1.L id) q 0 w') :
    c_store_Store_Put (some ⟨g, 0, none⟩) id num m w K := by
  refine call_store_Store_Put _ _ _ _ ?_
  unfold sh_store_Store_Put
  have hPn := hP.n
  have hgl := h.blk.lt
  have hrl := h.map.lt
  refine nw_blk fun w1 hb1 hB1 hs1 => ?_
  refine joinP_of fun J1 hJ1 => joinP_of fun J5 hJ5 => ?_
  have good : ∀ w2, Below w.heap.size w w2 → Blk w2 w.heap.size ty_api_Matrix (T_api_Matrix.rep.cells m) → (isNum id = true) → (bs.length : Int) ≤ S.quota → putErr S id num m.W m.H bs.length = 0 → J1 () w2 := fun w2 hB2 hb2 hnum hq he => by
    refine hJ1 _ _ ?_
    have h2 := h.ext hB2
    have hs2 := hB2.size
    have hl2 := hb2.lt
    refine Release_spec h2 fun w3 h3 hc3 hs3 => ?_
    have hk3 : StOk n { S with res := 0 } := res_ok hk 0
    have hb3 := hb2.chg hc3 fun e => by rcases e with e | e <;> omega
    refine joinP_of fun J2 hJ2 => ?_
    have next : ∀ w4 (S1 : St), S1 = (if id = 0 then ({ S with res := 0 } : St) else ({ S with res := 0 } : St).drop id) → StM w4 base g r S1 → StOk n S1 → S1.quota = S.quota → (id ≠ 0 → lookL S1.L id = none) → Chg (onS g r) w3 w4 → J2 () w4 := fun w4 S1 hS1 h4 hk4 hqq hno hc4 => by
      refine hJ2 _ _ ?_
      have hb4 := hb3.chg hc4 fun e => by rcases e with e | e <;> omega
      refine ldSl_of (x := m.P) (hb4.cells 2 _ rfl) ?_
      rw [hPn]
      refine room_spec h4 hk4 hn (by omega) (by omega) fun q5 w5 h5 ho5 hc5 => ?_
      have hpre : S.putPre id bs.length = S1.room bs.length := by unfold St.putPre; rw [hS1]
      rw [hpre] at hK
      have hk5 : StOk n (S1.room bs.length).1 := roomF_ok _ _ hk4
      have hfit : (S1.room bs.length).1.used ≤ S1.quota - bs.length := roomF_used (by omega) _ hk4 (by omega) (Nat.le_refl _)
      have hfld := (roomF_fields (bs.length : Int) S1.L.length S1 []).1
      have hfld : (S1.room bs.length).1.quota = S1.quota := hfld
      have hno5 : id ≠ 0 → lookL (S1.room bs.length).1.L id = none := fun e => by
        have hno := hno e
        have key : ∀ (f : Nat) (S' : St) (G : List Int), lookL S'.L id = none → lookL (S'.roomF bs.length f G).1.L id = none := by
          intro f
          induction f with
          | zero => exact fun _ _ h => h
          | succ f ih =>
            intro S' G h
            unfold St.roomF
            split
            · refine ih _ _ ?_
              show lookL (delL S'.L _) id = none
              cases hl : lookL (delL S'.L (eldest S'.L)) id with
              | none => rfl
              | some x =>
                exfalso
                unfold lookL at hl
                obtain ⟨p, hp, _⟩ := Option.map_eq_some_iff.1 hl
                have h3 := List.find?_some hp
                exact look_none h _ (del_mem (List.mem_of_find?_eq_some hp)) (by simpa using h3)
            · exact h
        exact key _ _ _ hno
      have c45 : Chg (onS g r) w2 w5 := (hc3.trans hc4 fun i _ hi => hi).trans hc5 fun i _ hi => hi
      have hb5 := hb4.chg hc5 fun e => by rcases e with e | e <;> omega
      have hP5 : Rd E_uint8 w5 m.P bs := rd_chg0 (hP.ext hB2) c45 hPg
      have hs3' := hc3.size
      have hs4 := hc4.size
      have hs5 := hc5.size
      refine joinP_of fun J3 hJ3 => ?_
      have last : ∀ w6, Below w5.heap.size w5 w6 → J3 (newId (S1.room bs.length).1.L id, ()) w6 := fun w6 hB6 => by
        refine hJ3 _ _ ?_
        have h6 := h5.ext hB6
        have hs6 := hB6.size
        refine Put_last (m := m) (bs := bs) h6 hk5 hn (by omega) (hb5.ext hB6) (hP5.ext hB6) (fun hp a ha e => hPg hp a ha (.inl e)) (by omega) (newId_ok hk5 hn hnum) fun P w7 h7 hc7 => ?_
        have hoq := ho5.ext hB6
        refine hK P q5 w7 he h7 (putAt_ok hk5 (newId_none hk5 hn hno5) (newId_ok hk5 hn hnum) (by omega)) ?_ ?_
        · refine (hoq.chg hc7 fun k hk e => ?_).base (by omega)
          rcases e with (e | e) | e
          · exact own_ne_b hoq h6.blk (by decide) k hk e
          · exact h6.map.ne_own hoq k hk e
          · have := (hoq.lt k hk).1; omega
        · have c : Chg (fun k => onS g r k ∨ k = w.heap.size) w w7 := (((Chg.of_ext hB2).trans (c45.mono (S' := fun k => onS g r k ∨ k = w.heap.size) fun i _ hi => .inl hi) fun i _ hi => hi).trans (Chg.of_ext hB6) fun i _ hi => hi).trans hc7 fun i _ hi => hi
          exact c.mono fun i hi e => e.resolve_right (by omega)
      refine cond_of (fun e0 => ?_) fun e0 => ?_
      · have e0 := eq_of_beq e0
        subst e0
        have hfree := free_at hk5
        refine loopP_rule (Inv := fun (s : Int × Unit) w6 => ∃ j : Nat, s.1 = 1099511627776 + (j : Int) ∧ j ≤ n + 1 ∧ freeF (S1.room bs.length).1.L (2000 - j) s.1 = newId (S1.room bs.length).1.L 0 ∧ Below w5.heap.size w5 w6) (μ := fun s => (1099511627776 + 2000 - s.1).toNat) ⟨0, by omega, by omega, rfl, Below.refl _ _⟩ ?_
        rintro ⟨k, ⟨⟩⟩ w6 ⟨j, hj, hj1, hj2, hB6⟩ I hI
        have hj : k = 1099511627776 + (j : Int) := hj
        refine is_spec (h5.ext hB6) k fun w7 hB7 => ?_
        have hB57 := hB6.trans (hB7.mono hB6.size)
        have e2 : 2000 - j = (2000 - (j + 1)) + 1 := by omega
        have hj2 : freeF (S1.room bs.length).1.L (2000 - j) k = newId (S1.room bs.length).1.L 0 := hj2
        rw [e2] at hj2
        unfold freeF at hj2
        refine cond_of (fun hs => ?_) fun hs => ?_
        · rw [if_pos hs] at hj2
          have hjn : j ≠ n + 1 := fun e => by
            rw [hj, e, hfree] at hs
            cases hs
          rw [wrap64_id (by omega)]
          exact hI _ _ ⟨j + 1, by show k + 1 = _; omega, by omega, hj2, hB57⟩ (by show (1099511627776 + 2000 - (k + 1)).toNat < (1099511627776 + 2000 - k).toNat; omega)
        · rw [if_neg (by rw [hs]; decide)] at hj2
          rw [hj2]
          exact last w7 hB57
      · have e0 : id ≠ 0 := fun e => by rw [e] at e0; simp at e0
        have hnid : newId (S1.room bs.length).1.L id = id := by unfold newId; rw [if_neg e0]
        rw [← hnid]
        have := last w5 (Below.refl _ _)
        rw [hnid] at this ⊢
        exact this
    refine cond_of (fun e0 => ?_) fun e0 => ?_
    · have e0 := bne_iff_ne.1 e0
      refine Drop_spec h3 hk3 id fun w4 h4 hc4 => ?_
      refine next w4 _ (by rw [if_neg e0]) h4 (drop_ok hk3 id) rfl (fun _ => ?_) hc4
      cases hl : lookL (({ S with res := 0 } : St).drop id).L id with
      | none => rfl
      | some x =>
        have := ((mem_delL id id x).1 ((lookL_some (srt_delL hk.srt id)).1 hl)).1
        exact absurd rfl this
    · have e0 : id = 0 := by simpa using e0
      exact next w3 _ (by rw [if_pos e0]) h3 hk3 rfl (fun e => absurd e0 e) (Chg.refl _ _)
  have fin : ∀ (c : Bool) (w2 : World), Below w.heap.size w w2 → Blk w2 w.heap.size ty_api_Matrix (T_api_Matrix.rep.cells m) → c = (!(rightM m.W m.H bs.length && !(m.W == 0) && isNum id && isNum num)) → J5 (c, ()) w2 := fun c w2 hB2 hb2 hc => by
    refine hJ5 _ _ ?_
    have h2 := h.ext hB2
    cases hg : (rightM m.W m.H bs.length && !(m.W == 0) && isNum id && isNum num) with
    | false =>
      have he : putErr S id num m.W m.H bs.length = 1 := by unfold putErr; rw [hg]; rfl
      rw [he] at hE
      rw [hg] at hc
      exact cond_t hc (hE w2 (by decide) h2 hB2)
    | true =>
      rw [hg] at hc
      have he : putErr S id num m.W m.H bs.length = if (bs.length : Int) > S.quota then 6 else 0 := by unfold putErr; rw [hg]; rfl
      refine cond_f hc ?_
      have hBd := hB2.drew
      refine ldSl_of (x := m.P) (hb2.drew.cells 2 _ rfl) (onPtr_some' (ldI_of (x := S.quota) (h2.drew.blk.cells 0 _ rfl) ?_))
      rw [hPn]
      refine cond_of (fun hgt => ?_) fun hgt => ?_
      · have hgt := of_decide_eq_true hgt
        rw [if_pos hgt] at he
        rw [he] at hE
        exact hE w2.drew (by decide) h2.drew hBd
      · have hgt := of_decide_eq_false hgt
        rw [if_neg hgt] at he
        refine good w2.drew hBd hb2.drew ?_ (by omega) he
        simp only [Bool.and_eq_true] at hg
        exact hg.1.2
  refine ldS_of (x := m) hb1.cells ?_
  refine Right_spec fun w2 hB2 => ?_
  have hB12 : Below w.heap.size w w2 := hB1.trans (hB2.mono (by omega))
  have hb2 := hb1.ext hB2
  rw [hPn]
  refine cond_of (fun e1 => ?_) fun e1 => ?_
  · refine fin _ _ hB12 hb2 ?_
    simp at e1
    rw [e1]
    rfl
  · simp at e1
    refine ldI_of (x := m.W) (hb2.cells 0 _ rfl) ?_
    refine cond_of (fun e2 => fin _ _ hB12 hb2 (by rw [e2]; simp)) fun e2 => ?_
    refine isNumber_spec ?_
    refine cond_of (fun e3 => fin _ _ hB12 hb2 (by simp at e3; rw [e3]; simp)) fun e3 => ?_
    simp at e3
    refine isNumber_spec ?_
    exact fin _ _ hB12 hb2 (by rw [e1, e2, e3]; simp)
end
end Go.Proofs.Yteffnkpplhcomaa
