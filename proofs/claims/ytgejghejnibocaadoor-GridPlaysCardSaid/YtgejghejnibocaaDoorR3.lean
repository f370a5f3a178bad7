/- Grids of the reference: Scroll. -/
import Derived.Test.YtgejghejnibocaaDoorR2
namespace Go.Proofs.YtgejghejnibocaaDoor
open Go.Vc Go.RowKit

theorem pushL_length {most : Nat} {old : List (List Cell)} {x : List Cell} (h : old.length ≤ most) : (pushL most old x).length ≤ most := by
  unfold pushL
  split
  · exact h
  · split
    · simp; omega
    · simp; omega
theorem pushAll_length {most : Nat} (xs : List (List Cell)) : ∀ {old : List (List Cell)}, old.length ≤ most → (pushAll most old xs).length ≤ most := by
  induction xs with
  | nil => intro old h; exact h
  | cons x r ih => intro old h; exact ih (pushL_length h)

/-- The lines that go, one behind the other. -/
theorem leaves {w : World} {base m : Nat} {f : RFoot} {S : GS} {p : Slc} {ls : List Slc} {xss : List (List Cell)} {Fin : World → Prop} (h : RefM w base f S) (hp : Rd sl24E w p ls) (hpn : ls.length = m) (hl : Lines w base ls xss) (hpf : ∀ a, p.a = some a → ¬ refS f a.block)
    (hold : S.old.length ≤ S.most) (hmost : S.most ≤ 100000) (hbase : base ≤ w.heap.size) (hm : m ≤ 100000) (htop : 0 ≤ S.top ∧ S.top ≤ 900000000)
    (hfin : ∀ f' w', RefM w' base f' { S with old := pushAll S.most S.old xss, top := S.top + m } → f.to f' w.heap.size → Chg (refS f) w w' → Fin w') :
    loopP (σ := Int × Unit) (fun I7 s_6 w19 =>
      cond (decide (s_6.1 < (m : Int)))
        (ixK p s_6.1 1 fun t135 =>
         ldSl t135 w19 fun t136 =>
         c_phosphorref16_Grid_leave (some ⟨f.g, 0, none⟩) t136 w19 fun w20 =>
         I7 ((IntKind.i64.wrap (s_6.1 + (1 : Int))), ()) w20)
        (Fin w19)) (0, ()) w := by
  have hxl : xss.length = m := by rw [← hl.1, hpn]
  refine loopP_rule (fun (s : Int × Unit) w2 => ∃ (k : Nat) (f' : RFoot), s.1 = k ∧ k ≤ m ∧ RefM w2 base f' { S with old := pushAll S.most S.old (xss.take k), top := S.top + k } ∧ f.to f' w.heap.size ∧ Chg (refS f) w w2) (fun s => m - s.1.toNat) ⟨0, f, rfl, by omega, by simpa [pushAll] using h, RFoot.to.refl _ _, Chg.refl _ _⟩ ?_
  rintro ⟨i, _⟩ w2 ⟨k, f', rfl, hk, h2, hf, hc⟩ I hI
  dsimp only at *
  refine cond_of (fun hlt => ?_) (fun hge => ?_)
  · have hlt := of_decide_eq_true hlt
    have hp2 : Rd sl24E w2 p ls := hp.chg hc hpf
    have hl2 : Lines w2 base ls xss := hl.chg hc h.notC
    refine hp2.ix rfl (by omega) (by omega) fun hcell => ?_
    have hlk : ls[k]? = some (ls[k]'(by omega)) := List.getElem?_eq_getElem _
    have hxk : xss[k]? = some (xss[k]'(by omega)) := List.getElem?_eq_getElem _
    refine ldSl_of (x := ls[k]'(by omega)) (by simpa using hcell 0 _ rfl) ?_
    have hsz := hc.size
    rw [← hf.g]
    refine rleave_spec h2 (hl2.2 k _ _ hlk hxk) (pushAll_length _ hold) hmost (by omega) (by show -1000000000 ≤ S.top + (k : Int) ∧ S.top + (k : Int) ≤ 1000000000; omega) fun f3 w3 h3 hf3 _ hc3 => ?_
    rw [wrap64_id (by omega)]
    have hold' := hf.old
    refine hI _ _ ⟨k + 1, f3, by simp, by omega, ?_, hf.trans hf3 hsz, hc.trans hc3 fun i hi hs => ?_⟩ (by simp; omega)
    · rw [pushAll_succ _ _ _ _ _ hxk, show S.top + ((k + 1 : Nat) : Int) = S.top + (k : Int) + 1 by omega]
      exact h3
    · rcases hold' i hs with e | e
      · exact e
      · omega
  · have hge := of_decide_eq_false hge
    have : k = m := by omega
    subst this
    rw [List.take_of_length_le (by omega)] at h2
    exact hfin f' w2 h2 hf hc

theorem slk {s : Slc} {k : Nat} : s.blk = some k ↔ ∃ a, s.a = some a ∧ a.block = k := by
  unfold Slc.blk
  rw [Option.map_eq_some_iff]

theorem rScroll_spec {w : World} {base : Nat} {f : RFoot} {S : GS} {top past n : Int} {a : Attr} {K : Int → World → Prop} (h : RefM w base f S) (hL : S.L.length = S.rows) (hrows : S.rows ≤ 1000) (hold : S.old.length ≤ S.most) (hmost : S.most ≤ 100000) (hbase : base ≤ w.heap.size) (hn : -9223372036854775808 ≤ n ∧ n ≤ 9223372036854775807) (htop : 0 ≤ S.top ∧ S.top ≤ 900000000)
    (hK : ∀ f' w', RefM w' base f' (scrollG S top past n a) → f.to f' w.heap.size → Chg (refS f) w w' → K (scrollR S.rows top past n) w') : c_phosphorref16_Grid_Scroll (some ⟨f.g, 0, none⟩) top past n a w K := by
  refine call_phosphorref16_Grid_Scroll _ _ _ _ _ ?_
  unfold sh_phosphorref16_Grid_Scroll
  simp only [onPtr_some]
  refine nw_blk fun w1 hb1 hB1 hs1 => ?_
  have h1 := h.ext hB1
  refine joinP_of fun J1 hJ1 => ?_
  have bad : scrollBad S.rows top past n → K 0 w1 := fun hb => by
    have := hK f w1 (by rw [scrollG, if_pos hb]; exact h1) (RFoot.to.refl _ _) (Chg.of_ext hB1)
    rwa [scrollR, if_pos (.inl hb)] at this
  refine cond_of (fun e => bad (.inl (eq_of_beq e))) (fun e0 => ?_)
  refine cond_of (fun e => bad (.inr (.inl (of_decide_eq_true e)))) (fun e1 => ?_)
  refine cond_of (fun e => bad (.inr (.inr (.inl (of_decide_eq_true e))))) (fun e2 => ?_)
  refine ldI_of (x := (S.rows : Int)) (h1.blk.cells 0 _ rfl) ?_
  refine cond_of (fun e => bad (.inr (.inr (.inr (of_decide_eq_true e))))) (fun e3 => ?_)
  have e0 : n ≠ 0 := beq_eq_false_iff_ne.1 e0
  have e1 := of_decide_eq_false e1
  have e2 := of_decide_eq_false e2
  have e3 := of_decide_eq_false e3
  have good : ¬ scrollBad S.rows top past n := by unfold scrollBad; omega
  refine hJ1 _ _ ?_
  clear hJ1 bad
  rw [wrap64_id (x := past - top) (by omega), wrap64_id (x := 0 - (past - top)) (by omega)]
  refine joinP_of fun J2 hJ2 => ?_
  have hm : (scrollM top past n : Int) = min (if n < 0 then -n else n) (past - top) := by unfold scrollM; split <;> omega
  unfold scrollG scrollL at hK
  unfold scrollR at hK
  rw [if_neg good] at hK
  generalize scrollM top past n = m at *
  have hm0 : 1 ≤ m := by split at hm <;> omega
  have hm1 : (m : Int) ≤ past - top := by split at hm <;> omega
  obtain ⟨tp, rfl⟩ : ∃ tp : Nat, top = tp := ⟨top.toNat, by omega⟩
  obtain ⟨ps, rfl⟩ : ∃ ps : Nat, past = ps := ⟨past.toNat, by omega⟩
  simp only [Int.toNat_natCast] at hK
  have main : ∀ c : Int, (if c < 0 then 0 - c else c) = (m : Int) → J2 (c, ()) w1 := fun c hc => hJ2 _ _ (by
    clear hJ2
    dsimp only
    refine joinP_of fun J3 hJ3 => ?_
    have main3 : J3 ((m : Int), ()) w1 := hJ3 _ _ (by
      clear hJ3
      dsimp only
      have hmS : m ≤ 1000 := by omega
      refine loopP_rule (fun (s : Slc × Int × Unit) w5 => ∃ (k : Nat) (bls : List Slc), s.2.1 = k ∧ k ≤ m ∧ Own sl24E w5 w1.heap.size s.1 bls ∧ Lines w5 w1.heap.size bls (List.replicate k (newL S.cols a)) ∧ Below w1.heap.size w1 w5)
        (fun s => m - s.2.1.toNat) ⟨0, [], rfl, by omega, Own.nil _ _ _, Lines.nil _ _, Below.refl _ _⟩ ?_
      rintro ⟨bs, i, _⟩ w5 ⟨k, bls, rfl, hk, hob, hlb, hB15⟩ I hI
      dsimp only at *
      have h5 := h1.ext hB15
      have hb5 := hb1.ext hB15
      have hs15 := hB15.size
      refine cond_of (fun hlt => ?_) (fun hge => ?_)
      · have hlt := of_decide_eq_true hlt
        refine ldI_of (x := (S.cols : Int)) (h5.drew.blk.cells 1 _ rfl) ?_
        refine ldS_of (x := a) hb5.drew.cells ?_
        refine rNew_spec fun t w6 ht hB6 => ?_
        have hB56 : Below w5.heap.size w5 w6 := (Below.refl _ w5).drew.trans hB6
        have hs56 : w5.heap.size ≤ w6.heap.size := hB56.size
        refine nw_blk fun w7 hb7 hB7 hs7 => ?_
        have hB57 : Below w5.heap.size w5 w7 := hB56.trans (hB7.mono hs56)
        have hr7 : Rd sl24E w7 ⟨some ⟨w6.heap.size, 0, none⟩, 1, 1⟩ [t] := rd_one (E := sl24E) hb7 rfl
        have hbl := hlb.1
        rw [List.length_replicate] at hbl
        have hob7 := hob.ext hB57
        refine apR hob7 hr7 (by omega) (by simp; omega) fun q w8 ho8 hc8 hq8 => ?_
        rw [wrap64_id (by omega)]
        have notC : ∀ k cs, bs.blk = some k → ¬ Blk w7 k 42 cs := fun k cs hk hc => by
          obtain ⟨cs', hcs'⟩ := hob7.blk_t hk
          exact hc.ne_t hcs' (by decide) rfl
        have ht7 : Own cellE w7 w1.heap.size t (newL S.cols a) := (ht.base (by show w1.heap.size ≤ w5.heap.size; omega)).ext hB7
        have hlb8 := ((hlb.ext hB57).chg hc8 notC).append (Lines.one (ht7.chg hc8 fun g hg hs => by
          obtain ⟨cs, hcs⟩ := ht7.blk_t hg
          exact notC g cs hs hcs))
        refine hI _ _ ⟨k + 1, bls ++ [t], by simp, by omega, ho8, by rw [List.replicate_succ']; exact hlb8, (hB15.trans (hB57.mono hs15)).trans (hc8.below (by omega) fun i hi hs => by have := (hob.lt i hs).1; omega)⟩ (by simp; omega)
      · have hge := of_decide_eq_false hge
        have : k = m := by omega
        subst this
        clear hI I
        obtain ⟨ls, ho5, hl5⟩ := h5.row
        have hll := hl5.1
        have hbl := hlb.1
        rw [List.length_replicate] at hbl
        -- part
        refine nw_blk fun w9 hb9 hB9 hs9 => ?_
        refine ldSl_of (x := f.ls) ((h5.ext hB9).blk.cells 3 _ rfl) ?_
        refine (ho5.ext hB9).rd.slK (l := tp) (m := ps) rfl (.inr rfl) (.inr rfl) (by omega) (by omega) fun hpart => ?_
        refine apR (own0 hb9 (Nat.le_refl _)) hpart (by omega) (by simp; omega) fun pt w10 ho10 hc10 hq10 => ?_
        have fr : ∀ {n : Nat} {k : Nat}, (⟨some ⟨n, 0, none⟩, 0, 0⟩ : Slc).blk = some k → k = n := fun hk => by cases hk; rfl
        have hB510 : Below w5.heap.size w5 w10 := hB9.trans (hc10.below (by omega) fun i hi hs => by have := fr hs; omega)
        have hs510 := hB510.size
        rw [List.nil_append] at ho10
        -- all
        refine nw_blk fun w11 hb11 hB11 hs11 => ?_
        have hB511 : Below w5.heap.size w5 w11 := hB510.trans (hB11.mono hs510)
        refine ldSl_of (x := f.ls) ((h5.ext hB511).blk.cells 3 _ rfl) ?_
        refine (ho5.ext hB511).rd.slK (l := 0) (m := tp) rfl (.inl ⟨rfl, rfl⟩) (.inr rfl) (by omega) (by omega) fun hfront => ?_
        refine apR (own0 hb11 (Nat.le_refl _)) hfront (by omega) (by simp; omega) fun al w12 ho12 hc12 hq12 => ?_
        have hB1012 : Below w10.heap.size w10 w12 := hB11.trans (hc12.below (by omega) fun i hi hs => by have := fr hs; omega)
        have hB512 : Below w5.heap.size w5 w12 := hB510.trans (hB1012.mono hs510)
        have hs512 := hB512.size
        have hs1012 := hB1012.size
        rw [List.nil_append] at ho12
        -- rest
        refine nw_blk fun w13 hb13 hB13 hs13 => ?_
        have hB513 : Below w5.heap.size w5 w13 := hB512.trans (hB13.mono hs512)
        refine ldSl_of (x := f.ls) ((h5.ext hB513).blk.cells 3 _ rfl) ?_
        refine (ho5.ext hB513).rd.slK (l := ps) (m := ls.length) rfl (.inr rfl) (.inl ⟨rfl, rfl⟩) (by omega) (Nat.le_refl _) fun hback => ?_
        refine apR (own0 hb13 (Nat.le_refl _)) hback (by omega) (by simp; omega) fun rs w14 ho14 hc14 hq14 => ?_
        have hB1214 : Below w12.heap.size w12 w14 := hB13.trans (hc14.below (by omega) fun i hi hs => by have := fr hs; omega)
        have hs1214 := hB1214.size
        have hB514 : Below w5.heap.size w5 w14 := hB512.trans (hB1214.mono hs512)
        have hB114 : Below w1.heap.size w1 w14 := hB15.trans (hB514.mono hs15)
        rw [List.nil_append] at ho14
        clear hpart hfront hback hc10 hc12 hc14 hq10 hq12 hq14 hb9 hb11 hb13
        have h14 := h5.ext hB514
        have hl14 := hl5.ext hB514
        have pt14 := ho10.ext ((hB1012.trans (hB1214.mono hs1012)))
        have al14 := ho12.ext hB1214
        have bs14 := hob.ext hB514
        have hlb14 : Lines w14 base bls (List.replicate k (newL S.cols a)) := ⟨hlb.1, fun i t xs x1 x2 => ((hlb.2 i t xs x1 x2).ext hB514).base (by have := hB1.size; omega)⟩
        have hs01 := hB1.size
        -- what may turn from here on: the row of all, and new blocks
        let T : Nat → Prop := fun k => w10.heap.size ≤ k ∧ (k < w12.heap.size ∨ w14.heap.size ≤ k)
        have alT : ∀ k, al.blk = some k → T k := fun k hk => ⟨(ho12.lt k hk).1, .inl (ho12.lt k hk).2⟩
        have ptT : ∀ k, pt.blk = some k → ¬ T k := fun k hk hT => by have := (ho10.lt k hk).2; have := hT.1; omega
        have bsT : ∀ k, bs.blk = some k → ¬ T k := fun k hk hT => by have := (hob.lt k hk).2; have := hT.1; omega
        have rsT : ∀ k, rs.blk = some k → ¬ T k := fun k hk hT => by
          have := (ho14.lt k hk); have := hT.2; omega
        have refT : ∀ k, refS f k → ¬ T k := fun k hk hT => by have := (h5.below k hk).2; have := hT.1; omega
        refine joinP_of fun J5 hJ5 => ?_
        have main5 : ∀ (q : Slc) (Q : List Slc) (LL : List (List Cell)) w15, Own sl24E w15 w10.heap.size q Q → Lines w15 base Q LL → (∀ k, q.blk = some k → T k) → Chg T w14 w15 → Q.length ≤ 10000 → LL ++ S.L.drop ps = (if n > 0 then S.L.take tp ++ (S.L.take ps).drop (tp + k) ++ List.replicate k (newL S.cols a) ++ S.L.drop ps else S.L.take tp ++ List.replicate k (newL S.cols a) ++ (S.L.take (ps - k)).drop tp ++ S.L.drop ps) → (∀ kk cs, T kk → q.blk = some kk → ¬ Blk w15 kk 42 cs) → (∀ b xs t, Own cellE w14 b t xs → Own cellE w15 b t xs) → J5 (q, ()) w15 := fun q Q LL w15 hoq hlq hqT hcT hQ e hqC keep => hJ5 _ _ (by
          clear hJ5
          dsimp only
          have h15 : RefM w15 base f S := by
            obtain ⟨l1, o1, k1⟩ := h14.row
            obtain ⟨l2, o2, k2⟩ := h14.old
            exact ⟨h14.blk.chg hcT (refT _ (.inl rfl)), h14.hg, ⟨l1, o1.chg hcT fun g hg => refT g (.inr (.inl hg)), k1.1, fun i t xs x1 x2 => keep _ _ _ (k1.2 i t xs x1 x2)⟩, ⟨l2, o2.chg hcT fun g hg => refT g (.inr (.inr hg)), k2.1, fun i t xs x1 x2 => keep _ _ _ (k2.2 i t xs x1 x2)⟩, h14.ne⟩
          have hl15 : Lines w15 base ls S.L := ⟨hl14.1, fun i t xs x1 x2 => keep _ _ _ (hl14.2 i t xs x1 x2)⟩
          have rs15 := ho14.chg hcT rsT
          have pt15 := pt14.chg hcT ptT
          have hs1415 := hcT.size
          refine apR hoq rs15.rd (by omega) (by simp; omega) fun al2 w16 ho16 hc16 hq16 => ?_
          have hc1416 : Chg T w14 w16 := hcT.trans hc16 fun i hi hs => hqT i hs
          have notC16 : ∀ kk cs, q.blk = some kk → ¬ Blk w15 kk 42 cs := fun kk cs hk => hqC kk cs (hqT kk hk) hk
          have h16 : RefM w16 base f S := h15.chg hc16 (fun kk hk hs => refT kk hk (hqT kk hs)) notC16
          have hl16 := (hlq.append ((hl15.take ls.length).drop ps)).chg hc16 notC16
          have hl16' := hl15.chg hc16 notC16
          have al2T : ∀ kk, al2.blk = some kk → T kk := fun kk hk => by
            rcases hq16 with e' | e'
            · exact hqT kk (by rw [← e']; exact hk)
            · rw [e'] at hk
              cases hk
              exact ⟨by omega, .inr (by omega)⟩
          have pt16 := pt15.chg hc16 fun kk hk hs => ptT kk hk (hqT kk hs)
          obtain ⟨os16, o16, k16⟩ := h16.old
          rw [add_mk]
          refine stK_blk h16.blk (by simp) fun w17 hb17 hg17 hs17 => ?_
          have hl16 : Lines w16 base (Q ++ (ls.take ls.length).drop ps) (LL ++ S.L.drop ps) := by
            have e4 : S.L.take ls.length = S.L := List.take_of_length_le (by omega)
            rw [e4] at hl16
            exact hl16
          rw [e] at hl16
          have h17 : RefM w17 base ⟨f.g, al2, f.os⟩ { S with L := _ } := RefM.mk' (g := f.g) (rows := S.rows) (cols := S.cols) (most := S.most) (top := S.top) h16.blk h.hg (ho16.base (by omega)) hl16 o16 k16 (fun kk hk e' => refT kk (.inr (.inr e')) (al2T kk hk)) hb17 hg17
          have hc17 : Chg (refS f) w w17 := (((Chg.of_ext (S := refS f) hB1).trans (Chg.of_ext (S := refS f) hB114) fun i _ hi => hi).trans hc1416 fun i hi hs => by have := hs.1; omega).trans (Chg.gg hg17) fun i _ hi => .inl hi
          have hto : f.to ⟨f.g, al2, f.os⟩ w.heap.size := ⟨rfl, .inr fun kk hk => by have := (al2T kk hk).1; omega, .inl rfl⟩
          refine joinP_of fun J6 hJ6 => ?_
          by_cases hpos : n > 0
          · rw [decide_eq_true hpos]
            rw [if_pos hpos] at hK h17
            refine cond_f rfl (cond_of (fun ht => ?_) (fun ht => ?_))
            · have ht : (tp : Int) ≠ 0 := by simpa using ht
              rw [if_neg (fun hh => ht hh.2), if_pos (.inr (.inr ht))] at hK
              exact hK _ w17 h17 hto hc17
            · have ht : (tp : Int) = 0 := by simpa using ht
              rw [if_pos ⟨hpos, ht⟩, if_neg (by rintro (hh | hh | hh); exact good hh; omega; exact hh ht)] at hK
              refine hJ6 _ _ ?_
              have fgT : ∀ g, pt.blk = some g → g ≠ f.g := fun g hg e' => by
                have := (ho10.lt g hg).1
                have := (h5.below _ (.inl rfl)).2
                omega
              have pt17 := pt16.chg (Chg.gg hg17) fgT
              have hlp : Lines w17 base ((ls.take ps).drop tp) ((S.L.take ps).drop tp) := ((hl16'.take ps).drop tp).chg (Chg.gg hg17) fun kk cs hkk hcs => by
                subst hkk
                exact hcs.ne_t h16.blk (by decide) rfl
              have hk' : k ≤ ((ls.take ps).drop tp).length := by simp; omega
              -- the first k of them go
              have ptk : Rd sl24E w17 ⟨pt.a, k, k⟩ (((ls.take ps).drop tp).take k) := by
                have hr := pt17.rd
                have hcm := hr.cm
                have hnc := hr.nc
                have hnn := hr.n
                refine ⟨by simp; omega, Nat.le_refl _, by show k ≤ maxLen; omega, fun hp => hr.some_ (by omega), fun i x hx => ?_⟩
                have hi : i < k := by
                  have := (List.getElem?_eq_some_iff.1 hx).1
                  simp at this; omega
                rw [List.getElem?_take_of_lt hi] at hx
                exact hr.at_ i x hx
              have swap : ∀ (I : Int × Unit → World → Prop) (s : Int × Unit) (w' : World), (cond (decide (s.1 < (k : Int))) (ixK ⟨pt.a, k, k⟩ s.1 1 fun t => ldSl t w' fun u => c_phosphorref16_Grid_leave (some ⟨f.g, 0, none⟩) u w' fun w'' => I (IntKind.i64.wrap (s.1 + 1), ()) w'') (K k w')) →
                  (cond (decide (s.1 < (k : Int))) (ixK pt s.1 1 fun t => ldSl t w' fun u => c_phosphorref16_Grid_leave (some ⟨f.g, 0, none⟩) u w' fun w'' => I (IntKind.i64.wrap (s.1 + 1), ()) w'') (K k w')) := by
                intro I s w' hh
                by_cases hlt : s.1 < (k : Int)
                · rw [decide_eq_true hlt, cond_true] at hh ⊢
                  unfold ixK at hh ⊢
                  obtain ⟨x, hx⟩ := Option.isSome_iff_exists.1 (pt17.rd.some_ (by omega))
                  have hx' : (⟨pt.a, k, k⟩ : Slc).a = some x := hx
                  rw [hx', onPtr_some] at hh
                  rw [hx, onPtr_some]
                  refine ⟨⟨hh.1.1, ?_⟩, hh.2⟩
                  rw [pt17.rd.n]
                  have := hh.1.2
                  omega
                · rw [decide_eq_false hlt] at hh ⊢
                  exact hh
              have loopSwap : ∀ {σ : Type} {b b' : (σ → World → Prop) → σ → World → Prop} {s0 : σ} {w0 : World}, (∀ I s w, b I s w → b' I s w) → loopP b s0 w0 → loopP b' s0 w0 := fun hbb hl I hI => hl I fun s w hb => hI s w (hbb I s w hb)
              refine loopSwap swap ?_
              refine leaves (f := ⟨f.g, al2, f.os⟩) (Fin := fun w' => K k w') h17 ptk (by simp; omega) (hlp.take k) (fun x hx hs => ?_) hold hmost (by have := hc1416.size; have := hg17.size; omega) (by omega) htop fun f8 w18 h18 hf18 hc18 => ?_
              · have hx : pt.a = some x := hx
                have hblk : pt.blk = some x.block := slk.2 ⟨x, hx, rfl⟩
                rcases hs with e' | e' | e'
                · exact fgT _ hblk e'
                · exact ptT _ hblk (al2T _ e')
                · have := (ho10.lt _ hblk).1
                  have := (h5.below _ (.inr (.inr e'))).2
                  omega
              · have e' : List.take k S.L = ((S.L.take ps).drop tp).take k := by
                  have : tp = 0 := by omega
                  subst this
                  rw [List.drop_zero, List.take_take, Nat.min_eq_left (by omega)]
                rw [wrap64_id (by omega), e'] at hK
                refine hK f8 w18 h18 (hto.trans hf18 (by have := hc17.size; omega)) (hc17.trans hc18 fun i hi hs => ?_)
                rcases hto.old i hs with e'' | e''
                · exact e''
                · omega
          · rw [decide_eq_false hpos]
            rw [if_neg hpos] at hK h17
            rw [if_neg (fun hh => hpos hh.1), if_pos (.inr (.inl (by omega)))] at hK
            exact cond_t rfl (hK _ w17 h17 hto hc17))
        have alC : ∀ {w' : World} {q : Slc} {Q : List Slc} {b : Nat}, Own sl24E w' b q Q → ∀ kk cs, q.blk = some kk → ¬ Blk w' kk 42 cs := fun ho kk cs hk hcs => by
          obtain ⟨cs', hcs'⟩ := ho.blk_t hk
          exact hcs.ne_t hcs' (by decide) rfl
        have keepC : ∀ {w' w'' : World} {q : Slc} {Q : List Slc} {b : Nat}, Own sl24E w' b q Q → Chg (fun k => q.blk = some k) w' w'' → ∀ b xs t, Own cellE w' b t xs → Own cellE w'' b t xs := fun ho hc b xs t ht => ht.chg hc fun g hg hs => by
          obtain ⟨cs, hcs⟩ := ht.blk_t hg
          exact alC ho g cs hs hcs
        have hl14f := (hl14.take tp).drop 0
        refine cond_of (fun hpos => ?_) (fun hpos => ?_)
        · have hpos := of_decide_eq_true hpos
          rw [if_pos hpos] at main5
          refine pt14.rd.slK (l := k) (m := ((ls.take ps).drop tp).length) rfl (.inr rfl) (.inl ⟨rfl, rfl⟩) (by simp; omega) (Nat.le_refl _) fun hpt => ?_
          refine apR al14 hpt (by omega) (by simp; omega) fun q w21 ho21 hc21 hq21 => ?_
          have hc1421 : Chg T w14 w21 := hc21.mono fun i _ hs => alT i hs
          have qT : ∀ kk, q.blk = some kk → T kk := fun kk hk => by
            rcases hq21 with e' | e'
            · exact alT kk (by rw [← e']; exact hk)
            · rw [e'] at hk; cases hk; exact ⟨by omega, .inr (by omega)⟩
          have k21 := keepC al14 hc21
          have bs21 := bs14.chg hc1421 bsT
          have hs21 := hc21.size
          refine apR ho21 bs21.rd (by omega) (by simp; omega) fun q2 w22 ho22 hc22 hq22 => ?_
          have q2T : ∀ kk, q2.blk = some kk → T kk := fun kk hk => by
            rcases hq22 with e' | e'
            · exact qT kk (by rw [← e']; exact hk)
            · rw [e'] at hk; cases hk; exact ⟨by omega, .inr (by omega)⟩
          have k22 := keepC ho21 hc22
          have k1422 : ∀ b xs t, Own cellE w14 b t xs → Own cellE w22 b t xs := fun b xs t ht => k22 b xs t (k21 b xs t ht)
          have LLl : Lines w22 base (((ls.take tp).drop 0 ++ (((ls.take ps).drop tp).take ((ls.take ps).drop tp).length).drop k) ++ bls) ((List.take tp S.L ++ List.drop (tp + k) (List.take ps S.L)) ++ List.replicate k (newL S.cols a)) := by
            have l1 := (hl14f.append ((((hl14.take ps).drop tp).take ((ls.take ps).drop tp).length).drop k)).append hlb14
            have e1 : ((S.L.take ps).drop tp).take ((ls.take ps).drop tp).length = (S.L.take ps).drop tp := List.take_of_length_le (by simp; omega)
            rw [e1, List.drop_drop, List.drop_zero] at l1
            exact ⟨l1.1, fun i t xs x1 x2 => k1422 _ _ _ (l1.2 i t xs x1 x2)⟩
          refine main5 q2 _ _ w22 ho22 LLl q2T (hc1421.trans hc22 fun i _ hs => qT i hs) (by simp; omega) rfl (fun kk cs _ hk => alC ho22 kk cs hk) k1422
        · have hpos : ¬ n > 0 := of_decide_eq_false hpos
          rw [if_neg hpos] at main5
          refine apR al14 bs14.rd (by omega) (by simp; omega) fun q w21 ho21 hc21 hq21 => ?_
          have hc1421 : Chg T w14 w21 := hc21.mono fun i _ hs => alT i hs
          have qT : ∀ kk, q.blk = some kk → T kk := fun kk hk => by
            rcases hq21 with e' | e'
            · exact alT kk (by rw [← e']; exact hk)
            · rw [e'] at hk; cases hk; exact ⟨by omega, .inr (by omega)⟩
          have k21 := keepC al14 hc21
          have pt21 := pt14.chg hc1421 ptT
          have hs21 := hc21.size
          rw [wrap64_id (x := (ps : Int) - tp - k) (by omega)]
          refine pt21.rd.slK (l := 0) (m := ps - tp - k) rfl (.inl ⟨rfl, rfl⟩) (.inr (by simp; omega)) (by omega) (by simp; omega) fun hpt => ?_
          refine apR ho21 hpt (by omega) (by simp; omega) fun q2 w22 ho22 hc22 hq22 => ?_
          have q2T : ∀ kk, q2.blk = some kk → T kk := fun kk hk => by
            rcases hq22 with e' | e'
            · exact qT kk (by rw [← e']; exact hk)
            · rw [e'] at hk; cases hk; exact ⟨by omega, .inr (by omega)⟩
          have k22 := keepC ho21 hc22
          have k1422 : ∀ b xs t, Own cellE w14 b t xs → Own cellE w22 b t xs := fun b xs t ht => k22 b xs t (k21 b xs t ht)
          have LLl : Lines w22 base (((ls.take tp).drop 0 ++ bls) ++ (((ls.take ps).drop tp).take (ps - tp - k)).drop 0) ((List.take tp S.L ++ List.replicate k (newL S.cols a)) ++ List.drop tp (List.take (ps - k) S.L)) := by
            have l1 := (hl14f.append hlb14).append ((((hl14.take ps).drop tp).take (ps - tp - k)).drop 0)
            have e1 : List.drop 0 (((S.L.take ps).drop tp).take (ps - tp - k)) = List.drop tp (List.take (ps - k) S.L) := by
              rw [List.drop_zero, take_drop_take, List.take_take, show min (tp + (ps - tp - k)) ps = ps - k by omega]
            rw [e1, List.drop_zero] at l1
            exact ⟨l1.1, fun i t xs x1 x2 => k1422 _ _ _ (l1.2 i t xs x1 x2)⟩
          refine main5 q2 _ _ w22 ho22 LLl q2T (hc1421.trans hc22 fun i _ hs => qT i hs) (by simp; omega) rfl (fun kk cs _ hk => alC ho22 kk cs hk) k1422)
    refine cond_of (fun hneg => ?_) (fun hneg => ?_)
    · have hneg : c < 0 := of_decide_eq_true hneg
      rw [if_pos hneg] at hc
      rw [hc, wrap64_id (by omega)]
      exact main3
    · have hneg : ¬ c < 0 := of_decide_eq_false hneg
      rw [if_neg hneg] at hc
      rw [hc]
      exact main3)
  refine cond_of (fun c1 => main _ ?_) (fun c1 => cond_of (fun c2 => main _ ?_) (fun c2 => main _ ?_))
  · have c1 := of_decide_eq_true c1
    split at hm <;> split <;> omega
  · have c2 := of_decide_eq_true c2
    split at hm <;> split <;> omega
  · have c1 := of_decide_eq_false c1
    have c2 := of_decide_eq_false c2
    split at hm <;> split <;> omega

end Go.Proofs.YtgejghejnibocaaDoor
