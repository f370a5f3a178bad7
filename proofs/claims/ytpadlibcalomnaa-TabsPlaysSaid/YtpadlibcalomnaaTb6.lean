/- The two laws of the tab stops. -/
import Derived.Test.YtpadlibcalomnaaTb4
import Derived.Test.YtpadlibcalomnaaTb5
set_option linter.unusedVariables false
namespace Go.Proofs.Ytpadlibcalomnaa
open Go.Vc Go.RowKit
set_option maxRecDepth 100000

section
variable {w : World}
theorem below_size {B : Nat} {w w' : World} (h : Below B w w') : w.heap.size ≤ w'.heap.size := h.size
theorem known_spec {K : Bool → World → Prop} (hK : ∀ w', Below w.heap.size w w' → K true w') : c_phosphorlaw15_known w K := by
  refine call_phosphorlaw15_known ?_
  unfold sh_phosphorlaw15_known
  refine New_spec 30 (fun _ _ h => absurd h (by omega)) fun g r w1 _ _ hg hr h1 hB1 => ?_
  refine cond_t rfl (cond_t rfl ?_)
  have hl : 1 ≤ (resz [] (30 : Int).toNat).length ∧ (resz [] (30 : Int).toNat).length ≤ 1000 := by simp
  refine Next_spec h1 hl 3 2 (by omega) fun w2 hB2 => cond_t (by decide +kernel) ?_
  have h2 := h1.ext hB2
  refine Back_spec h2 hl 17 1 (by omega) fun w3 hB3 => cond_t (by decide +kernel) ?_
  have h3 := h2.ext hB3
  refine Next_spec h3 hl 25 1 (by omega) fun w4 hB4 => cond_t (by decide +kernel) ?_
  have h4 := h3.ext hB4
  have s1 := hB1.size
  have s2 := hB2.size
  have s3 := hB3.size
  have s4 := hB4.size
  have hB14 : Below w.heap.size w w4 := ((hB1.trans (hB2.mono (by omega))).trans (hB3.mono (by omega))).trans (hB4.mono (by omega))
  refine Clear_spec h4 9 fun w5 h5 hc5 hs5 => cond_t (by decide +kernel) ?_
  have hB5 := hB14.trans (hc5.below (by omega) fun i hi e => by omega)
  refine Clear_spec h5 8 fun w6 h6 hc6 hs6 => cond_t (by decide +kernel) ?_
  have hB6 := hB5.trans (hc6.below (by omega) fun i hi e => by omega)
  refine Next_spec h6 (by simp) 3 1 (by omega) fun w7 hB7 => ?_
  have e : (nextB (setB (setB (resz [] (30 : Int).toNat) 9 false) 8 false) 3 1 == 16) = true := by decide +kernel
  rw [e]
  exact hK w7 (hB6.trans (hB7.mono (by omega)))
theorem steps_law {set : Slc} {xs : List Int} (hrd : Rd E_int w set xs) {cols col n : Int} (hn63 : n ≤ 9223372036854775807) {K : Bool → World → Prop} (hK : ∀ w', Below w.heap.size w w' → K true w') : c_phosphorlaw15_TabsSteps cols set col n w K := by
  refine call_phosphorlaw15_TabsSteps _ _ _ _ ?_
  unfold sh_phosphorlaw15_TabsSteps
  refine known_spec fun w1 hB1 => cond_f rfl ?_
  have hrd1 := hrd.ext hB1
  refine joinP_of fun J hJ => ?_
  have hT : K true w1 := hK w1 hB1
  refine cond_of (fun _ => hT) fun c1 => ?_
  refine cond_of (fun _ => hT) fun c2 => ?_
  refine cond_of (fun _ => hT) fun c3 => ?_
  refine cond_of (fun _ => hT) fun c4 => ?_
  refine cond_of (fun _ => hT) fun c5 => ?_
  refine cond_of (fun _ => hT) fun c6 => ?_
  refine cond_of (fun _ => hT) fun c7 => ?_
  have c1 := of_decide_eq_false c1
  have c2 := of_decide_eq_false c2
  have c3 := of_decide_eq_false c3
  have c4 := of_decide_eq_false c4
  have c5 := of_decide_eq_false c5
  have c6 := of_decide_eq_false c6
  have c7 := of_decide_eq_false c7
  refine hJ _ _ ?_
  obtain ⟨m, rfl⟩ : ∃ m : Nat, cols = m := ⟨cols.toNat, by omega⟩
  obtain ⟨N, rfl⟩ : ∃ N : Nat, n = N := ⟨n.toNat, by omega⟩
  have hsn := hrd.n
  refine New_spec m (fun _ _ h => absurd h (by omega)) fun g r w2 _ _ hg hr h2 hB2 => ?_
  rw [Int.toNat_natCast] at h2
  have s1 := hB1.size
  have s2 := hB2.size
  have hB12 : Below w.heap.size w w2 := hB1.trans (hB2.mono (by omega))
  refine joinP_of fun J2 hJ2 => ?_
  refine cond_f rfl (cond_f rfl (hJ2 _ _ ?_))
  refine loopP_rule (fun (s : Int × Unit) w3 => ∃ k : Nat, s.1 = k ∧ k ≤ xs.length ∧ (∃ B, B.length = m ∧ StopsM w3 g r B) ∧ Below w.heap.size w w3 ∧ w2.heap.size ≤ w3.heap.size)
    (fun s => xs.length - s.1.toNat) ⟨0, rfl, Nat.zero_le _, ⟨_, by simp, h2⟩, hB12, Nat.le_refl _⟩ ?_
  rintro ⟨i, u⟩ w3 ⟨k, hi, hk, ⟨B, hBl, h3⟩, hB3, hs3⟩ I hI
  dsimp only at hi ⊢
  subst hi
  have hrl := h3.map.lt
  by_cases hlt : k < xs.length
  · refine cond_t (by simp; omega) ?_
    refine (hrd.ext hB3).ix (k := 1) rfl (by omega) (by omega) fun hcell => ?_
    obtain ⟨x, hx, hx'⟩ := get_of hlt
    rw [hx' _] at hcell
    refine ldI_of (x := x) (by simpa using hcell 0 _ rfl) ?_
    refine Set_spec h3 (by omega) x fun w4 h4 hc4 hs4 => ?_
    rw [i64_in (by omega)]
    exact hI _ _ ⟨k + 1, by simp, by omega, ⟨_, by simpa using hBl, h4⟩, hB3.trans (hc4.below hB3.size fun i hi e => by omega), by omega⟩ (by simp; omega)
  · refine cond_f (by simp; omega) ?_
    have hl : 1 ≤ B.length ∧ B.length ≤ 1000 := by omega
    have hin : inB B col = true := by unfold inB; simp; omega
    refine loopP_rule (fun (s : Int × Int × Int × Unit) w7 => ∃ k : Nat, s.2.2.1 = k ∧ k ≤ N ∧ s.1 = nextB B col k ∧ s.2.1 = backB B col k ∧ StopsM w7 g r B ∧ Below w.heap.size w w7)
      (fun s => N - s.2.2.1.toNat) ⟨0, rfl, Nat.zero_le _, ?_, ?_, h3, hB3⟩ ?_
    · show col = _
      rw [← next_iter hin 0]; rfl
    · show col = _
      rw [← back_iter hin 0]; rfl
    rintro ⟨f, b, i, u⟩ w7 ⟨j, hi, hj, hf, hb, h7, hB7⟩ I2 hI2
    dsimp only at hi hf hb ⊢
    subst hi hf hb
    have s7 := hB7.size
    by_cases hlt2 : j < N
    · refine cond_t (by simp; omega) ?_
      refine Next_spec h7 hl _ 1 (by omega) fun w8 hB8 => ?_
      refine Back_spec (h7.ext hB8) hl _ 1 (by omega) fun w9 hB9 => ?_
      rw [i64_in (by omega)]
      have s8 := hB8.size
      refine hI2 _ _ ⟨j + 1, by simp, by omega, ?_, ?_, (h7.ext hB8).ext hB9, (hB7.trans (hB8.mono (by omega))).trans (hB9.mono (by omega))⟩ (by simp; omega)
      · show nextB B (nextB B col j) 1 = _
        rw [← next_iter hin (j + 1), ← next_iter hin j]; rfl
      · show backB B (backB B col j) 1 = _
        rw [← back_iter hin (j + 1), ← back_iter hin j]; rfl
    · obtain rfl : j = N := by omega
      refine cond_f (by simp) ?_
      refine Next_spec h7 hl _ _ (by omega) fun w8 hB8 => cond_t (by simp) ?_
      refine Back_spec (h7.ext hB8) hl _ _ (by omega) fun w9 hB9 => cond_t (by simp) ?_
      have s8 := hB8.size
      have hni := next_in hin (j : Int)
      have hbi := back_in hin (j : Int)
      unfold inB at hni hbi
      simp only [Bool.and_eq_true, decide_eq_true_eq] at hni hbi
      refine cond_t (by simp; omega) ?_
      rw [show decide (backB B col j ≥ 0) = true by simp; omega]
      exact hK w9 ((hB7.trans (hB8.mono (by omega))).trans (hB9.mono (by omega)))
end
def actT : El T_phosphorlaw15_Act where
  cells := T_phosphorlaw15_Act.rep.cells
  t := ty_phosphorlaw15_Act
  k := 3
  pos := by decide
  len _ := rfl
  one x v hv := by
    simp only [T_phosphorlaw15_Act.rep, List.mem_cons, List.mem_nil_iff, or_false] at hv
    rcases hv with rfl | rfl | rfl <;> rfl
section
variable {w : World}
/-- Both stops hold the same. -/
structure TwoT (w : World) (base g r : Nat) (g' : Nat) (q : Slc) (B : List Bool) : Prop where
  p : StopsM w g r B
  d : RefM w base g' q B
  ne : g ≠ g' ∧ r ≠ g' ∧ ∀ k, q.blk = some k → k ≠ g ∧ k ≠ r
  lo : base ≤ g ∧ base ≤ r ∧ base ≤ g'
theorem plays_law {l : Slc} {xs : List T_phosphorlaw15_Act} (hrd : Rd actT w l xs) (hwf : ∀ a ∈ xs, a.N ≤ 9223372036854775807) {cols : Int} {K : Bool → World → Prop} (hK : ∀ w', Below w.heap.size w w' → K true w') : c_phosphorlaw15_TabsPlays cols l w K := by
  refine call_phosphorlaw15_TabsPlays _ _ ?_
  unfold sh_phosphorlaw15_TabsPlays
  refine known_spec fun w1 hB1 => cond_f rfl ?_
  have hsn := hrd.n
  refine cond_of (fun _ => hK w1 hB1) fun c1 => ?_
  have c1 := of_decide_eq_false c1
  have s1 := hB1.size
  by_cases hcc : cols < 1 ∨ 1000 < cols
  · refine New_spec cols (fun w2 hB2 _ => ?_) fun g r w2 h1 h2 => absurd hcc (by omega)
    refine rNew_spec cols (base := 0) (Nat.zero_le _) (fun _ => ?_) fun q w3 h1 h2 => absurd hcc (by omega)
    refine joinP_of fun J hJ => ?_
    exact cond_f rfl (cond_f rfl (hJ _ _ (cond_t rfl (hK w2 (hB1.trans (hB2.mono (by omega)))))))
  refine New_spec cols (fun w2 hB2 h => absurd h hcc) fun g r w2 h1 h2 hg hr h3 hB2 => ?_
  have s2 := hB2.size
  refine rNew_spec cols (base := w.heap.size) (by omega) (fun h => absurd h hcc) fun q w3 _ _ hR hB3 => ?_
  obtain ⟨m, rfl⟩ : ∃ m : Nat, cols = m := ⟨cols.toNat, by omega⟩
  rw [Int.toNat_natCast] at h3 hR
  have hBa : Below w.heap.size w w3 := (hB1.trans (hB2.mono (by omega))).trans (hB3.mono (by omega))
  have hgl := h3.blk.lt
  have hrl := h3.map.lt
  have h33 := h3.ext hB3
  refine joinP_of fun J hJ => ?_
  refine cond_f rfl (cond_f rfl (hJ _ _ (cond_f rfl ?_)))
  refine loopP_rule (fun (s : Int × Unit) w5 => ∃ k : Nat, s.1 = k ∧ k ≤ xs.length ∧ (∃ B q, 1 ≤ B.length ∧ B.length ≤ 1000 ∧ TwoT w5 w.heap.size g r w2.heap.size q B) ∧ Below w.heap.size w w5)
    (fun s => xs.length - s.1.toNat) ⟨0, rfl, Nat.zero_le _, ⟨resz [] m, q, by rw [resz_length]; omega, by rw [resz_length]; omega, h33, ⟨hR.blk, hR.own.base (by omega)⟩, ⟨by omega, by omega, fun k hk => ?_⟩, by omega⟩, hBa⟩ ?_
  · have := (hR.own.lt k hk).1
    omega
  rintro ⟨i, u⟩ w5 ⟨k, hi, hk, ⟨B, q, hl1, hl2, hT⟩, hB5⟩ I hI
  dsimp only at hi ⊢
  subst hi
  have s5 := hB5.size
  by_cases hlt : k < xs.length
  case neg =>
    refine cond_f (by simp; omega) (hK w5 hB5)
  refine cond_t (by simp; omega) ?_
  refine (hrd.ext hB5).ix (k := 3) rfl (by omega) (by omega) fun hcell => ?_
  obtain ⟨a, ha, ha'⟩ := get_of hlt
  rw [ha' _] at hcell
  have hwa := hwf a (List.mem_of_getElem? ha)
  refine ldS_of (x := a) hcell ?_
  refine box_of (t := ty_phosphorlaw15_Act) (vs := T_phosphorlaw15_Act.rep.cells a) rfl fun w7 hb7 hB7 hs7 => ?_
  have hT7 : TwoT w7 w.heap.size g r w2.heap.size q B := ⟨hT.p.ext hB7, hT.d.ext hB7, hT.ne, hT.lo⟩
  have hB57 : Below w.heap.size w w7 := hB5.trans (hB7.mono (by omega))
  refine joinP_of fun J3 hJ3 => ?_
  -- behind the act
  have hend : ∀ {w8 : World} {B : List Bool} {q : Slc}, 1 ≤ B.length → B.length ≤ 1000 → TwoT w8 w.heap.size g r w2.heap.size q B → Below w.heap.size w w8 → Blk w8 w5.heap.size ty_phosphorlaw15_Act (T_phosphorlaw15_Act.rep.cells a) → w5.heap.size < w8.heap.size → J3 () w8 := by
    intro w8 B q hl1 hl2 hT8 hB8 hb8 hs8
    refine hJ3 _ _ ?_
    have s8 := hB8.size
    refine All_spec hT8.p hl2 fun x w9 hx hB9 => ?_
    have hp9 := hT8.p.ext hB9
    have hd9 := hT8.d.ext hB9
    have s9 := hB9.size
    refine rAll_spec hd9 hl2 fun y w10 hy hB10 => ?_
    have hp10 := hp9.ext hB10
    have hd10 := hd9.ext hB10
    have s10 := hB10.size
    have hx10 := hx.ext hB10
    have hb10 := (hb8.ext hB9).ext hB10
    refine joinP_of fun J4 hJ4 => ?_
    have hxn := hx10.rd.n
    have hyn := hy.rd.n
    have hB810 : Below w.heap.size w w10 := (hB8.trans (hB9.mono (by omega))).trans (hB10.mono (by omega))
    refine cond_f (by rw [hxn, hyn]; simp) ?_
    have hb10' : Blk w10.drew w5.heap.size ty_phosphorlaw15_Act (T_phosphorlaw15_Act.rep.cells a) := hb10.drew
    refine ldI_of (x := a.Col) (hb10'.cells 1 _ rfl) (ldI_of (x := a.N) (hb10'.cells 2 _ rfl) (ldI_of (x := a.Col) (hb10'.cells 1 _ rfl) (ldI_of (x := a.N) (hb10'.cells 2 _ rfl) ?_)))
    refine Next_spec hp10.drew ⟨hl1, hl2⟩ _ _ hwa fun w13 hB13 => ?_
    have hb13 := hb10'.ext hB13
    have hp13 := hp10.drew.ext hB13
    have hd13 : RefM w13 w.heap.size w2.heap.size q B := (⟨hd10.blk.drew, hd10.own.drew⟩ : RefM w10.drew w.heap.size w2.heap.size q B).ext hB13
    refine ⟨hb13.cells 2 _ rfl, hb13.cells 1 _ rfl, ?_⟩
    refine rNext_spec hd13 ⟨hl1, hl2⟩ _ _ hwa (cond_f (by simp) ?_)
    refine ldI_of (x := a.Col) (hb13.cells 1 _ rfl) (ldI_of (x := a.N) (hb13.cells 2 _ rfl) (ldI_of (x := a.Col) (hb13.cells 1 _ rfl) (ldI_of (x := a.N) (hb13.cells 2 _ rfl) ?_)))
    have s13 := hB13.size
    have hs13 : w10.heap.size ≤ w13.heap.size := s13
    refine Back_spec hp13 ⟨hl1, hl2⟩ _ _ hwa fun w15 hB15 => ?_
    have hb15 := hb13.ext hB15
    have hp15 := hp13.ext hB15
    have hd15 := hd13.ext hB15
    have s15 := hB15.size
    refine ⟨hb15.cells 2 _ rfl, hb15.cells 1 _ rfl, ?_⟩
    refine rBack_spec hd15 ⟨hl1, hl2⟩ _ _ hwa (cond_f (by simp) (hJ4 _ _ ?_))
    have hB15' : Below w.heap.size w w15 := (hB810.drew.trans (hB13.mono (by show _ ≤ w10.heap.size; omega))).trans (hB15.mono (by omega))
    have hx15 : Go.Vc.Own E_int w15 w8.heap.size x (keysI B) := (hx10.drew.ext hB13).ext hB15
    have hy15 : Go.Vc.Own E_int w15 w9.heap.size y (keysI B) := (hy.drew.ext hB13).ext hB15
    refine loopP_rule (fun (s : Int × Unit) w12 => ∃ j : Nat, s.1 = j ∧ j ≤ (keysI B).length ∧ Go.Vc.Own E_int w12 w8.heap.size x (keysI B) ∧ Go.Vc.Own E_int w12 w9.heap.size y (keysI B) ∧ StopsM w12 g r B ∧ RefM w12 w.heap.size w2.heap.size q B ∧ Below w.heap.size w w12)
      (fun s => (keysI B).length - s.1.toNat) ⟨0, rfl, Nat.zero_le _, hx15, hy15, hp15, hd15, hB15'⟩ ?_
    rintro ⟨i, u⟩ w12 ⟨j, hi, hj, hx12, hy12, hp12, hd12, hB12⟩ I5 hI5
    dsimp only at hi ⊢
    subst hi
    have hkl := keys_le B
    have hlen : (keysI B).length ≤ 1000 := by unfold keysI; rw [List.length_map]; omega
    by_cases hjl : j < (keysI B).length
    · refine cond_t (by simp; omega) ?_
      have hx' : Go.Vc.Own E_int w12.drew w8.heap.size x (keysI B) := hx12.drew
      have hy' : Go.Vc.Own E_int w12.drew w9.heap.size y (keysI B) := hy12.drew
      obtain ⟨z, hz, hz'⟩ := get_of hjl
      refine hx'.rd.ix (k := 1) rfl (by omega) (by omega) fun hc1 => ?_
      rw [hz' _] at hc1
      refine ldI_of (x := z) (by simpa using hc1 0 _ rfl) ?_
      refine hy'.rd.ix (k := 1) rfl (by omega) (by omega) fun hc2 => ?_
      rw [hz' _] at hc2
      refine ldI_of (x := z) (by simpa using hc2 0 _ rfl) (cond_f (by simp) ?_)
      rw [i64_in (by omega)]
      exact hI5 _ _ ⟨j + 1, by simp, by omega, hx', hy', hp12.drew, ⟨hd12.blk.drew, hd12.own.drew⟩, hB12.drew⟩ (by simp; omega)
    · refine cond_f (by simp; omega) ?_
      rw [i64_in (by omega)]
      exact hI _ _ ⟨k + 1, by simp, by omega, ⟨B, q, hl1, hl2, hp12, hd12, hT8.ne, hT8.lo⟩, hB12⟩ (by simp; omega)
  have hgl7 := hT.p.blk.lt
  have hrl7 := hT.p.map.lt
  have hgl7' := hT.d.blk.lt
  have hlo := hT.lo
  have hne := hT.ne
  have hrg := hT.p.ne
  refine ldI_of (x := a.Op) (hb7.cells 0 _ rfl) ?_
  have hb7d : Blk w7.drew w5.heap.size ty_phosphorlaw15_Act (T_phosphorlaw15_Act.rep.cells a) := hb7.drew
  have hp7d : StopsM w7.drew g r B := hT7.p.drew
  have hd7d : RefM w7.drew w.heap.size w2.heap.size q B := ⟨hT7.d.blk.drew, hT7.d.own.drew⟩
  -- an act of one column
  have hput : ∀ {w17 : World} {b : Bool}, StopsM w17 g r (setB B a.Col b) → Chg (fun k => k = r) w7.drew w17 → w17.heap.size = w7.heap.size →
      (World.cell? w17 ((⟨w5.heap.size, 0, none⟩ : Addr).add 1) = some (.int .i64 a.Col) ∧ ∀ {Kc : Bool → World → Prop}, (∀ w18, J3 () w18 → Kc (inB B a.Col && (b || isStop B a.Col)) w18) → c_phosphorref15_Stops_Put (some ⟨w2.heap.size, 0, none⟩) a.Col b w17 Kc) := by
    intro w17 b hp17 hc17 hs17
    have hb17 := hb7d.chg hc17 (by omega)
    have hd17 : RefM w17 w.heap.size w2.heap.size q B := hd7d.keep hc17 (fun e => hne.2.1 e.symm) fun k hk e => (hne.2.2 k hk).2 e
    have hB17 : Below w.heap.size w w17 := (hB57.drew).trans (hc17.below (by show _ ≤ w7.heap.size; omega) fun i hi e => by omega)
    refine ⟨hb17.cells 1 _ rfl, fun {Kc} hKc => ?_⟩
    refine rPut_spec hd17 _ _ fun w18 hd18 hc18 => hKc w18 ?_
    have s18 := hc18.size
    have hqlt := hd17.own.lt
    refine hend (B := setB B a.Col b) (q := q) (by simpa using hl1) (by simpa using hl2) ⟨hp17.keep hc18 (fun e => (hne.2.2 _ e).1 rfl) (fun e => (hne.2.2 _ e).2 rfl), hd18, hne, hlo⟩ (hB17.trans (hc18.below (by omega) fun i hi e => by have := (hqlt i e).1; omega)) (hb17.chg hc18 fun e => by have := (hT.d.own.lt _ e).2; omega) (by omega)
  refine cond_of (fun h1 => ?_) fun h1 => ?_
  · refine ldI_of (x := a.Col) (hb7d.cells 1 _ rfl) (ldI_of (x := a.Col) (hb7d.cells 1 _ rfl) ?_)
    refine Set_spec hp7d hl2 _ fun w17 hp17 hc17 hs17 => ?_
    obtain ⟨e1, e2⟩ := hput hp17 hc17 hs17
    refine ⟨e1, e2 fun w18 hJ => ?_⟩
    rw [Bool.true_or, Bool.and_true]
    exact cond_f (by simp) hJ
  refine cond_of (fun h2 => ?_) fun h2 => ?_
  · refine ldI_of (x := a.Col) (hb7d.cells 1 _ rfl) (ldI_of (x := a.Col) (hb7d.cells 1 _ rfl) ?_)
    refine Clear_spec hp7d _ fun w17 hp17 hc17 hs17 => ?_
    obtain ⟨e1, e2⟩ := hput hp17 hc17 hs17
    refine ⟨e1, e2 fun w18 hJ => ?_⟩
    have e : (inB B a.Col && (false || isStop B a.Col)) = isStop B a.Col := by
      cases hi : inB B a.Col with
      | true => simp
      | false => rw [isStop_in hi]; rfl
    rw [e]
    exact cond_f (by simp) hJ
  refine cond_of (fun h3 => ?_) fun h3 => ?_
  · refine None_spec hT7.p fun w21 hp21 hc21 hs21 => ?_
    have hd21 : RefM w21 w.heap.size w2.heap.size q B := hT7.d.keep hc21 (fun e => hne.2.1 e.symm) fun k hk e => (hne.2.2 k hk).2 e
    refine rNone_spec hd21 hl2 (by omega) fun q' w22 hd22 hc22 hq22 => ?_
    have s22 := hc22.size
    have hb21 := hb7.chg hc21 (by omega)
    refine hend (by simpa using hl1) (by simpa using hl2) ⟨hp21.keep hc22 (fun e => hne.1 e) (fun e => hne.2.1 e), hd22, ⟨hne.1, hne.2.1, fun k hk => ?_⟩, hlo⟩ ((hB57.trans (hc21.below (by omega) fun i hi e => by omega)).trans (hc22.below (by omega) fun i hi e => by omega)) (hb21.chg hc22 (by omega)) (by omega)
    have := hq22 k hk
    omega
  refine cond_of (fun h4 => ?_) fun h4 => ?_
  · refine ldI_of (x := a.N) (hb7d.cells 2 _ rfl) (ldI_of (x := a.N) (hb7d.cells 2 _ rfl) ?_)
    have hsame : (¬ (a.N < 1 ∨ 1000 < a.N)) → 1 ≤ (resz B a.N.toNat).length ∧ (resz B a.N.toNat).length ≤ 1000 := fun h => by simp; omega
    refine Resize_spec hp7d hl2 _ (fun hc => ?_) fun w23 hc1 hc2 hp23 hc23 => ?_
    · refine ⟨hb7d.cells 2 _ rfl, rResize_spec hd7d hl2 (by show _ ≤ w7.heap.size; omega) _ (fun _ => cond_f (by simp) ?_) fun q' w' hc1 hc2 => absurd hc (by omega)⟩
      exact hend hl1 hl2 ⟨hp7d, hd7d, hne, hlo⟩ hB57.drew hb7d (by show _ < w7.heap.size; omega)
    · have s23 := hc23.size
      have s23' : w7.heap.size ≤ w23.heap.size := s23
      have hb23 := hb7d.chg hc23 (by omega)
      have hd23 : RefM w23 w.heap.size w2.heap.size q B := hd7d.keep hc23 (fun e => e.elim (fun e => hne.1 e.symm) fun e => hne.2.1 e.symm) fun k hk e => e.elim (fun e => (hne.2.2 k hk).1 e) fun e => (hne.2.2 k hk).2 e
      refine ⟨hb23.cells 2 _ rfl, rResize_spec hd23 hl2 (by omega) _ (fun hc => absurd hc (by omega)) fun q' w24 _ _ hd24 hc24 hq24 => cond_f (by simp) ?_⟩
      have s24 := hc24.size
      refine hend (hsame (by omega)).1 (hsame (by omega)).2 ⟨hp23.keep hc24 (fun e => hne.1 e) (fun e => hne.2.1 e), hd24, ⟨hne.1, hne.2.1, fun k hk => ?_⟩, hlo⟩ ((hB57.drew.trans (hc23.below (by show _ ≤ w7.heap.size; omega) fun i hi e => by omega)).trans (hc24.below (by omega) fun i hi e => by omega)) (hb23.chg hc24 (by omega)) (by omega)
      have := hq24 k hk
      omega
  · exact hend hl1 hl2 hT7 hB57 hb7 (by omega)
end
end Go.Proofs.Ytpadlibcalomnaa
