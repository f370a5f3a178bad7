/- The document's store: Put. -/
import Derived.Test.YteffnkpplhcomaaS21
set_option linter.unusedVariables false
namespace Go.Proofs.Yteffnkpplhcomaa
open Go.Vc Go.RowKit
set_option maxRecDepth 100000

/-- The end of Put: the image is laid in at place i. -/
def insTail (s : Option Addr) (x : Addr) (i : Int) (w11 : World) (F : World → Prop) : Prop :=
  onPtr s fun t111 =>
                      ldSl (t111.add 3) w11.drew fun t113 =>
                      slK t113 none (some i) 7 fun t115 =>
                      ldS T_phosphorref21_Image.rep x w11.drew fun t117 =>
                        (nw ty_phosphorref21_Image [] w11.drew fun t109 w12 =>
                         cellsAt w12 x (T_phosphorref21_Image.rep.cells t117) ∧
                         World.cell? w12 (t111.add 3) = some (.slice t113.a t113.n t113.c) ∧
                           (apK PG #[ty_sl_phosphorref21_Image, ty_sl_phosphorref21_Image] ty_sl_phosphorref21_Image (⟨(some t109), 0, 0⟩ : Slc) t115 w12 fun t116 w13 =>
                            cellsAt w13 x (T_phosphorref21_Image.rep.cells t117) ∧
                            nw ty_phosphorref21_Image [(.int .i64 t117.Id), (.int .i64 t117.Number), (.int .i64 t117.M.W), (.int .i64 t117.M.H), (.slice t117.M.P.a t117.M.P.n t117.M.P.c), (.int .i64 t117.Stamp), (.int .i64 t117.Born)] w13 fun t118 w14 =>
                            World.cell? w14 (t111.add 3) = some (.slice t113.a t113.n t113.c) ∧
                            apK PG #[ty_sl_phosphorref21_Image, ty_sl_phosphorref21_Image] ty_sl_phosphorref21_Image t116 (⟨(some t118), 1, 1⟩ : Slc) w14 fun t119 w15 =>
                            onPtr s fun t123 =>
                            ldSl (t123.add 3) w15 fun t125 =>
                            slK t125 (some i) none 7 fun t127 =>
                            apK PG #[ty_sl_phosphorref21_Image, ty_sl_phosphorref21_Image] ty_sl_phosphorref21_Image t119 t127 w15 fun t128 w16 =>
                            onPtr s fun t129 =>
                            stK (t129.add 3) [(.slice t128.a t128.n t128.c)] w16 fun w17 =>
                            F w17) ∧
                         nw ty_phosphorref21_Image [(.int .i64 t117.Id), (.int .i64 t117.Number), (.int .i64 t117.M.W), (.int .i64 t117.M.H), (.slice t117.M.P.a t117.M.P.n t117.M.P.c), (.int .i64 t117.Stamp), (.int .i64 t117.Born)] w12 fun t118_1 w18 =>
                         World.cell? w18 (t111.add 3) = some (.slice t113.a t113.n t113.c) ∧
                         apK PG #[ty_sl_phosphorref21_Image, ty_sl_phosphorref21_Image] ty_sl_phosphorref21_Image (⟨(some t109), 0, 0⟩ : Slc) t115 w18 fun t116_1 w19 =>
                         cellsAt w19 x (T_phosphorref21_Image.rep.cells t117) ∧
                         apK PG #[ty_sl_phosphorref21_Image, ty_sl_phosphorref21_Image] ty_sl_phosphorref21_Image t116_1 (⟨(some t118_1), 1, 1⟩ : Slc) w19 fun t119_1 w20 =>
                         onPtr s fun t123_1 =>
                         ldSl (t123_1.add 3) w20 fun t125_1 =>
                         slK t125_1 (some i) none 7 fun t127_1 =>
                         apK PG #[ty_sl_phosphorref21_Image, ty_sl_phosphorref21_Image] ty_sl_phosphorref21_Image t119_1 t127_1 w20 fun t128_1 w21 =>
                         onPtr s fun t129_1 =>
                         stK (t129_1.add 3) [(.slice t128_1.a t128_1.n t128_1.c)] w21 fun w22 =>
                         F w22) ∧
                      nw ty_phosphorref21_Image [(.int .i64 t117.Id), (.int .i64 t117.Number), (.int .i64 t117.M.W), (.int .i64 t117.M.H), (.slice t117.M.P.a t117.M.P.n t117.M.P.c), (.int .i64 t117.Stamp), (.int .i64 t117.Born)] w11.drew fun t118_2 w23 =>
                      World.cell? w23 (t111.add 3) = some (.slice t113.a t113.n t113.c) ∧
                      nw ty_phosphorref21_Image [] w23 fun t109_1 w24 =>
                      cellsAt w24 x (T_phosphorref21_Image.rep.cells t117) ∧
                      World.cell? w24 (t111.add 3) = some (.slice t113.a t113.n t113.c) ∧
                      apK PG #[ty_sl_phosphorref21_Image, ty_sl_phosphorref21_Image] ty_sl_phosphorref21_Image (⟨(some t109_1), 0, 0⟩ : Slc) t115 w24 fun t116_2 w25 =>
                      cellsAt w25 x (T_phosphorref21_Image.rep.cells t117) ∧
                      apK PG #[ty_sl_phosphorref21_Image, ty_sl_phosphorref21_Image] ty_sl_phosphorref21_Image t116_2 (⟨(some t118_2), 1, 1⟩ : Slc) w25 fun t119_2 w26 =>
                      onPtr s fun t123_2 =>
                      ldSl (t123_2.add 3) w26 fun t125_2 =>
                      slK t125_2 (some i) none 7 fun t127_2 =>
                      apK PG #[ty_sl_phosphorref21_Image, ty_sl_phosphorref21_Image] ty_sl_phosphorref21_Image t119_2 t127_2 w26 fun t128_2 w27 =>
                      onPtr s fun t129_2 =>
                      stK (t129_2.add 3) [(.slice t128_2.a t128_2.n t128_2.c)] w27 fun w28 =>
                      F w28
def insLoop (s : Option Addr) (x : Addr) (z : Int) (w10 : World) (F : World → Prop) : Prop :=
  loopP (σ := Int × Unit) (fun I4 s_4 w11 =>
                onPtr s fun t90 =>
                ldSl (t90.add 3) w11 fun t92 =>
                cond (decide (s_4.1 < ((t92.n : Nat) : Int)))
                  (onPtr s fun t97 =>
                   ldSl (t97.add 3) w11 fun t99 =>
                   ixK t99 s_4.1 7 fun t101 =>
                   ldI .i64 (t101.add 0) w11 fun t103 =>
                   cond (decide (t103 < z))
                     (I4 ((IntKind.i64.wrap (s_4.1 + (1 : Int))), ()) w11)
                     (insTail s x s_4.1 w11 F))
                  (insTail s x s_4.1 w11 F)) (0, ()) w10

section
variable {w w' : World} {base g n : Nat} {q : Slc} {S : St}
theorem insTail_spec {xb i : Nat} {y : Int × Im} {F : World → Prop} (h : RefM w base g q S) (hl : S.L.length ≤ 1000) (hbase : base ≤ w.heap.size) (hx : Blk w xb ty_phosphorref21_Image (T_phosphorref21_Image.rep.cells (toR y))) (hi : i ≤ S.L.length) (hy : Hold w base y.2.v.m.P y.2.bs)
    (hF : ∀ q' w', RefM w' base g q' { S with L := S.L.take i ++ y :: S.L.drop i } → Chg (onR g) w w' → F w') : insTail (some ⟨g, 0, none⟩) ⟨xb, 0, none⟩ (i : Int) w F := by
  unfold insTail
  have hgl := h.blk.lt
  have hxl := hx.lt
  have hd := h.drew
  have hqn := h.qn
  refine onPtr_some' (ldSl_of (x := q) (hd.blk.cells 3 _ rfl) ?_)
  refine hd.row.rd.slK (l := 0) (m := i) rfl (.inl ⟨rfl, rfl⟩) (.inr rfl) (Nat.zero_le _) (by simp; omega) fun hra => ?_
  refine ldS_of (x := toR y) hx.drew.cells ?_
  have hBd := (Below.refl w.heap.size w).drew
  have hxd := hx.drew
  have hsd : w.drew.heap.size = w.heap.size := rfl
  generalize w.drew = wd at hd hra hBd hxd hsd
  have cq : ∀ {w1 : World}, Below wd.heap.size wd w1 → World.cell? w1 ((⟨g, 0, none⟩ : Addr).add 3) = some (.slice q.a q.n q.c) := fun hB => hd.cellQ hB
  have cx : ∀ {w1 : World}, Below wd.heap.size wd w1 → cellsAt w1 ⟨xb, 0, none⟩ (T_phosphorref21_Image.rep.cells (toR y)) := fun hB => (hxd.ext hB).cells
  have low : ∀ {w' w'' : World}, Below wd.heap.size wd w' → Below w'.heap.size w' w'' → Below wd.heap.size wd w'' := fun h h' => h.trans (h'.mono h.size)
  have fin : ∀ (w1 : World) (t119 : Slc), Below wd.heap.size wd w1 → Own E_phosphorref21_Image w1 wd.heap.size t119 ([] ++ ((S.L.map toR).take i).drop 0 ++ [toR y]) →
      onPtr (some (⟨g, 0, none⟩ : Addr)) fun t123 =>
                            ldSl (t123.add 3) w1 fun t125 =>
                            slK t125 (some (i : Int)) none 7 fun t127 =>
                            apK PG #[ty_sl_phosphorref21_Image, ty_sl_phosphorref21_Image] ty_sl_phosphorref21_Image t119 t127 w1 fun t128 w16 =>
                            onPtr (some (⟨g, 0, none⟩ : Addr)) fun t129 =>
                            stK (t129.add 3) [(.slice t128.a t128.n t128.c)] w16 fun w17 =>
                            F w17 := fun w1 t119 hB ho => by
    have h1 := hd.ext hB
    have hs1 := hB.size
    refine onPtr_some' (ldSl_of (x := q) (h1.blk.cells 3 _ rfl) ?_)
    refine h1.row.rd.slK (l := i) (m := S.L.length) rfl (.inr rfl) (.inl ⟨rfl, by simp⟩) hi (by simp) fun hrb => ?_
    refine apR ho hrb hs1 (by simp; omega) fun q4 w4 ho4 hc4 => ?_
    have hB4 : Below wd.heap.size wd w4 := hB.trans (hc4.below hs1 fun k hk e => by have := (ho.lt k e).1; omega)
    have h4 := hd.ext hB4
    refine onPtr_some' ?_
    rw [add_mk]
    refine stK_blk h4.blk (by simp [rCells]) fun w5 hb5 hg5 hs5 => ?_
    have hlist : [] ++ ((S.L.map toR).take i).drop 0 ++ [toR y] ++ ((S.L.map toR).take S.L.length).drop i = (S.L.take i ++ y :: S.L.drop i).map toR := by
      rw [List.map_append, List.map_cons, List.map_take, List.map_drop, List.nil_append, List.drop_zero, List.append_assoc]
      congr 1
      rw [List.take_of_length_le (by simp)]
      rfl
    rw [hlist] at ho4
    have hc5 : Chg (onR g) w w5 := ((Chg.of_ext hBd).trans (Chg.of_ext hB4) fun i _ hi => hi).trans (Chg.gg hg5) fun i _ hi => hi
    refine hF q4 w5 ⟨hb5, ?_, fun p hp => ?_⟩ hc5
    · exact (ho4.chg (Chg.gg hg5) fun k hk e => by have := (ho4.lt k hk).1; omega).base (by omega)
    · have hold : ∀ p : Int × Im, Hold w base p.2.v.m.P p.2.bs → Hold w5 base p.2.v.m.P p.2.bs := fun p hp => hp.chg hc5 fun k hk e => hp.ne_b h.blk (by decide) k hk e
      rcases List.mem_append.1 hp with hp | hp
      · exact hold p (h.img p (List.mem_of_mem_take hp))
      · rcases List.mem_cons.1 hp with rfl | hp
        · exact hold _ hy
        · exact hold p (h.img p (List.mem_of_mem_drop hp))
  have rdy : ∀ {w1 : World} {k : Nat}, Blk w1 k ty_phosphorref21_Image (T_phosphorref21_Image.rep.cells (toR y)) → Rd E_phosphorref21_Image w1 ⟨some ⟨k, 0, none⟩, 1, 1⟩ [toR y] := fun hb => rd_one (E := E_phosphorref21_Image) hb rfl
  refine ⟨?_, ?_⟩
  · refine nw_blk fun w2 hb2 hB2 hs2 => ?_
    refine ⟨cx hB2, cq hB2, ?_, ?_⟩
    · refine apR (b := wd.heap.size) (own_empty hb2 (Nat.le_refl _)) (hra.ext hB2) (by omega) (by simp; omega) fun q3 w3 ho3 hc3 => ?_
      have hB3 : Below wd.heap.size wd w3 := hB2.trans (hc3.below (by omega) fun k hk e => by have := blk_eqR e; omega)
      refine ⟨cx hB3, ?_⟩
      refine nw_blk fun w4 hb4 hB4 hs4 => ?_
      have hB34 := low hB3 hB4
      refine ⟨cq hB34, ?_⟩
      have ho34 := ho3.ext hB4
      have hs3 := hB3.size
      refine apR ho34 (rdy hb4) (by omega) (by simp; omega) fun q5 w5 ho5 hc5 => ?_
      exact fin w5 q5 (hB34.trans (hc5.below (by omega) fun k hk e => by have := (ho34.lt k e).1; omega)) ho5
    · refine nw_blk fun w3 hb3 hB3 hs3 => ?_
      have hB23 := low hB2 hB3
      refine ⟨cq hB23, ?_⟩
      refine apR (b := wd.heap.size) (own_empty (hb2.ext hB3) (Nat.le_refl _)) (hra.ext hB23) (by omega) (by simp; omega) fun q4 w4 ho4 hc4 => ?_
      have hB4 : Below wd.heap.size wd w4 := hB23.trans (hc4.below (by omega) fun k hk e => by have := blk_eqR e; omega)
      refine ⟨cx hB4, ?_⟩
      have hb4 := hb3.chg hc4 fun e => by have := blk_eqR e; omega
      have hs4 := hB4.size
      refine apR ho4 (rdy hb4) hs4 (by simp; omega) fun q5 w5 ho5 hc5 => ?_
      exact fin w5 q5 (hB4.trans (hc5.below hs4 fun k hk e => by have := (ho4.lt k e).1; omega)) ho5
  · refine nw_blk fun w2 hb2 hB2 hs2 => ?_
    refine ⟨cq hB2, ?_⟩
    refine nw_blk fun w3 hb3 hB3 hs3 => ?_
    have hB23 := low hB2 hB3
    refine ⟨cx hB23, cq hB23, ?_⟩
    refine apR (b := wd.heap.size) (own_empty hb3 (by omega)) (hra.ext hB23) (by omega) (by simp; omega) fun q4 w4 ho4 hc4 => ?_
    have hB4 : Below wd.heap.size wd w4 := hB23.trans (hc4.below (by omega) fun k hk e => by have := blk_eqR e; omega)
    refine ⟨cx hB4, ?_⟩
    have hb4 := (hb2.ext hB3).chg hc4 fun e => by have := blk_eqR e; omega
    have hs4 := hB4.size
    refine apR ho4 (rdy hb4) hs4 (by simp; omega) fun q5 w5 ho5 hc5 => ?_
    exact fin w5 q5 (hB4.trans (hc5.below hs4 fun k hk e => by have := (ho4.lt k e).1; omega)) ho5
theorem ins_eq : ∀ {L : List (Int × Im)} {i : Nat} (hi : i ≤ L.length) {k : Int} (y : Im) (hlt : ∀ p ∈ L.take i, p.1 < k) (hge : ∀ (h : i < L.length), k < L[i].1), L.take i ++ (k, y) :: L.drop i = putL' L k y
  | [], i, hi, k, y, _, _ => by simp [putL']
  | p :: r, 0, _, k, y, _, hge => by
    have := hge (by simp)
    unfold putL'
    rw [if_pos (by simpa using this)]
    rfl
  | p :: r, i + 1, hi, k, y, hlt, hge => by
    have h1 := hlt p (by simp)
    unfold putL'
    rw [if_neg (by omega), if_neg (by omega), ← ins_eq (L := r) (i := i) (by simpa using hi) y (fun q hq => hlt q (by simp [hq])) fun h => by have := hge (by simp; omega); simpa using this]
    rfl
theorem insLoop_spec {xb : Nat} {k : Int} {y : Im} {F : World → Prop} (h : RefM w base g q S) (hk : StOk n S) (hn : n ≤ 1000) (hbase : base ≤ w.heap.size) (hx : Blk w xb ty_phosphorref21_Image (T_phosphorref21_Image.rep.cells (toR (k, y)))) (hy : Hold w base y.v.m.P y.bs) (hno : lookL S.L k = none)
    (hF : ∀ q' w', RefM w' base g q' { S with L := putL' S.L k y } → Chg (onR g) w w' → F w') : insLoop (some ⟨g, 0, none⟩) ⟨xb, 0, none⟩ k w F := by
  unfold insLoop
  have hl := hk.len
  have hne := look_none hno
  have tail : ∀ j : Nat, j ≤ S.L.length → (∀ p ∈ S.L.take j, p.1 < k) → (∀ h : j < S.L.length, k < S.L[j].1) → insTail (some ⟨g, 0, none⟩) ⟨xb, 0, none⟩ (j : Int) w F := fun j hj h1 h2 => by
    refine insTail_spec (y := (k, y)) h (by omega) hbase hx hj hy fun q' w' h' hc' => hF q' w' ?_ hc'
    rw [← ins_eq hj y h1 h2]
    exact h'
  refine loopP_rule (Inv := fun (s : Int × Unit) w1 => w1 = w ∧ ∃ j : Nat, s.1 = (j : Int) ∧ j ≤ S.L.length ∧ ∀ p ∈ S.L.take j, p.1 < k) (μ := fun s => S.L.length - s.1.toNat) ⟨rfl, 0, rfl, Nat.zero_le _, fun p hp => by simp at hp⟩ ?_
  rintro ⟨i, ⟨⟩⟩ w1 ⟨rfl, j, hij, hj, hlt⟩ I hI
  have hij : i = (j : Int) := hij
  subst hij
  have hq : ∀ {K : Slc → Prop}, K q → ldSl ((⟨g, 0, none⟩ : Addr).add 3) w1 K := fun hk => ldSl_of (x := q) (h.blk.cells 3 _ rfl) hk
  refine onPtr_some' (hq ?_)
  rw [h.qn]
  refine cond_of (fun hd => ?_) fun hd => ?_
  · have hd : (j : Int) < (S.L.length : Int) := of_decide_eq_true hd
    have hjl : j < S.L.length := by omega
    refine onPtr_some' (hq (h.at hjl (fun a ha => ?_) rfl))
    refine ldI_of (x := S.L[j].1) (ha.get 0 rfl) ?_
    refine cond_of (fun e => ?_) fun e => ?_
    · have e : S.L[j].1 < k := of_decide_eq_true e
      rw [wrap64_id (by omega)]
      refine hI _ _ ⟨rfl, j + 1, by simp, by omega, fun p hp => ?_⟩ (by show S.L.length - ((j : Int) + 1).toNat < S.L.length - ((j : Int)).toNat; omega)
      rcases mem_take_succ hjl hp with hp | rfl
      · exact hlt p hp
      · exact e
    · have e : ¬ S.L[j].1 < k := of_decide_eq_false e
      have := hne _ (List.getElem_mem hjl)
      exact tail j hj hlt fun _ => by omega
  · have hd : ¬ (j : Int) < (S.L.length : Int) := of_decide_eq_false hd
    exact tail j hj hlt fun h => by omega
end
end Go.Proofs.Yteffnkpplhcomaa
