/- The laws of grids, walked: few, looks. -/
import Derived.Test.YtgejghejnibocaaDoorH5
import Derived.Test.YtgejghejnibocaaDoorOpen3
namespace Go.Proofs.YtgejghejnibocaaDoor
open Go.Vc Go.RowKit

theorem few16_spec {l : Slc} {ops : List GAct} {w : World} {K : Bool → World → Prop} (h : Rd gactE w l ops) (hK : ∀ b w', (b = true → ops.length ≤ 100 ∧ ∀ x ∈ ops, x.L.n ≤ 4000) → Below w.heap.size w w' → K b w') : c_phosphorlaw16_few l w K := by
  refine call_phosphorlaw16_few _ ?_
  unfold sh_phosphorlaw16_few
  rw [h.n]
  have hm : ops.length ≤ 9223372036854775807 := by
    have h1 := h.n
    have h2 := h.nc
    have h3 := h.cm
    simp only [maxLen] at h3
    omega
  refine loopP_rule (fun (s : Int × Int × Unit) w2 => ∃ k : Nat, s.2.1 = k ∧ k ≤ ops.length ∧ 0 ≤ s.1 ∧ s.1 ≤ 131072 ∧ (∀ x ∈ ops.take k, (x.L.n : Int) ≤ s.1) ∧ Below w.heap.size w w2) (fun s => ops.length - s.2.1.toNat)
    ⟨0, rfl, by omega, Int.le_refl _, by decide, fun x hx => by simp at hx, Below.refl _ _⟩ ?_
  rintro ⟨n, i, _⟩ w2 ⟨k, rfl, hk, h0, h1, hall, hB⟩ I hI
  dsimp only at *
  refine cond_of (fun hlt => ?_) (fun hge => ?_)
  · have hlt := of_decide_eq_true hlt
    have hkl : k < ops.length := by omega
    have ixa : ∀ {w' : World} {F : Addr → Prop}, Below w.heap.size w w' → (cellsAt w' (l.at_ 10 k) (gactE.cells ops[k]) → F (l.at_ 10 k)) → ixK l (k : Int) 10 F := fun hB' hF => (h.ext hB').ix rfl (by omega) (by omega) hF
    have htake : ops.take (k + 1) = ops.take k ++ [ops[k]] := by rw [List.take_add_one, List.getElem?_eq_getElem hkl]; rfl
    generalize ops[k] = a at *
    have no : ∀ w', Below w.heap.size w w' → K false w' := fun w' hB' => hK _ _ (fun e => by cases e) hB'
    refine joinP_of fun J hJ => ?_
    refine ixa hB fun hca => ?_
    refine ldSl_of (x := a.L) (hca 2 _ rfl) ?_
    refine cond_of (fun _ => no _ hB) (fun h2 => cond_of (fun _ => no _ hB) (fun h3 => hJ _ _ ?_))
    have h2 := of_decide_eq_false h2
    have h3 := of_decide_eq_false h3
    have hBd := hB.drew
    have next : I (IntKind.i64.wrap (n + ((a.L.n : Nat) : Int)), IntKind.i64.wrap ((k : Int) + 1), ()) w2.drew := by
      rw [wrap64_id (x := n + ((a.L.n : Nat) : Int)) (by omega), wrap64_id (by omega)]
      refine hI _ _ ⟨k + 1, by simp, by omega, by simp; omega, by simp; omega, fun x hx => ?_, hBd⟩ (by simp; omega)
      rw [htake] at hx
      rcases List.mem_append.1 hx with hx | hx
      · have := hall x hx
        show _ ≤ n + _
        omega
      · rw [List.mem_singleton.1 hx]
        show _ ≤ n + _
        omega
    refine ixa hB fun hca => ?_
    refine ldSl_of (x := a.L) (hca 2 _ rfl) ?_
    refine ixa hBd fun hca => ?_
    refine ldI_of (x := a.Op) (hca 0 _ rfl) ?_
    refine cond_of (fun _ => ?_) (fun _ => next)
    refine ixa hBd fun hca => ?_
    refine ldI_of (x := a.Rows) (hca 8 _ rfl) ?_
    refine cond_of (fun _ => ?_) (fun _ => next)
    refine ixa hBd fun hca => ?_
    refine ldI_of (x := a.Cols) (hca 9 _ rfl) ?_
    refine cond_of (fun _ => ?_) (fun _ => next)
    refine ixa hBd fun hca => ?_
    refine ldI_of (x := a.Rows) (hca 8 _ rfl) ?_
    refine cond_of (fun _ => ?_) (fun _ => next)
    refine ixa hBd fun hca => ?_
    refine ldI_of (x := a.Cols) (hca 9 _ rfl) ?_
    refine cond_of (fun _ => ?_) (fun _ => next)
    refine ixa hBd fun hca => ?_
    refine ldI_of (x := a.Rows) (hca 8 _ rfl) ?_
    refine ixa hBd fun hca => ?_
    refine ldI_of (x := a.Cols) (hca 9 _ rfl) ?_
    exact cond_of (fun _ => no _ hBd) (fun _ => next)
  · have hge := of_decide_eq_false hge
    have : k = ops.length := by omega
    subst this
    rw [List.take_length] at hall
    refine cond_of (fun hl => hK _ _ (fun hb => ?_) hB) (fun _ => hK _ _ (fun e => by cases e) hB)
    have hl := of_decide_eq_true hl
    have hb := of_decide_eq_true hb
    exact ⟨by omega, fun x hx => by have := hall x hx; omega⟩

section
variable {w : World} {base base' : Nat} {f : Foot} {f' : RFoot} {S : GS}
theorem gLine_any {row : Int} {K : Slc → Bool → World → Prop} (h : GridM w base f S) (hL : S.L.length = S.rows) (hw : ∀ xs ∈ S.L, xs.length ≤ 1000000)
    (hK : ∀ s w', Below w.heap.size w w' → K s (decide (0 ≤ row ∧ row < S.rows)) w') : c_grid_Grid_Line (some ⟨f.g, 0, none⟩) row w K := by
  by_cases hr : 0 ≤ row ∧ row < (S.rows : Int)
  · rw [decide_eq_true hr] at hK
    exact gLine_spec h hL hw (fun s xs w' _ _ _ hB => hK s w' hB) (fun hn => absurd hr hn)
  · rw [decide_eq_false hr] at hK
    exact gLine_spec h hL hw (fun s xs w' h0 hx _ hB => absurd ⟨h0, by have := (List.getElem?_eq_some_iff.1 hx).1; omega⟩ hr) (fun _ => hK _ _ (Below.refl _ _))
theorem gOld_any {i : Int} {K : Slc → Bool → World → Prop} (h : GridM w base f S) (hm : S.most ≤ 100000) (hw : ∀ xs ∈ S.old, xs.length ≤ 1000000)
    (hK : ∀ s w', Below w.heap.size w w' → K s (decide (0 ≤ i ∧ i < S.old.length)) w') : c_grid_Grid_Old (some ⟨f.g, 0, none⟩) i w K := by
  by_cases hr : 0 ≤ i ∧ i < (S.old.length : Int)
  · rw [decide_eq_true hr] at hK
    exact gOld_spec h hm hw (fun s xs w' _ _ _ hB => hK s w' hB) (fun hn => by omega)
  · rw [decide_eq_false hr] at hK
    exact gOld_spec h hm hw (fun s xs w' h0 hx _ hB => absurd ⟨h0, by have := (List.getElem?_eq_some_iff.1 hx).1; omega⟩ hr) (fun _ s w' _ hB => hK _ _ hB)

theorem looks_spec {i : Int} {K : Bool → World → Prop} (h : GridM w base f S) (h' : RefM w base' f' S) (ok : GSok S 1000000000) (hK : ∀ w', Below w.heap.size w w' → K true w') : c_phosphorlaw16_looks (some ⟨f.g, 0, none⟩) (some ⟨f'.g, 0, none⟩) i w K := by
  refine call_phosphorlaw16_looks _ _ _ ?_
  unfold sh_phosphorlaw16_looks
  refine gSize_spec h ?_
  simp only [onPtr_some]
  have hd : GridM w.drew.drew base f S := h.drew.drew
  have hd' : RefM w.drew.drew base' f' S := h'.drew.drew
  have hBd : Below w.heap.size w w.drew.drew := (Below.refl _ w).drew.drew
  obtain ⟨os, ho', hl'⟩ := h'.old
  have hosn : f'.os.n = S.old.length := by rw [ho'.rd.n, hl'.1]
  obtain ⟨ls, ho, hl⟩ := h'.row
  have hlsn : f'.ls.n = S.rows := by rw [ho.rd.n, hl.1, ok.len]
  have htop := ok.top
  have hol := ok.olen
  have hmo := ok.most
  have hro := ok.rows
  have hwL : ∀ xs ∈ S.L, xs.length ≤ 10000 := fun xs hx => by rw [(ok.L xs hx).2.1]; have := ok.cols.2; omega
  have hwL' : ∀ xs ∈ S.L, xs.length ≤ 1000000 := fun xs hx => by have := hwL xs hx; omega
  have hwO : ∀ xs ∈ S.old, xs.length ≤ 1000000 := fun xs hx => by have := (ok.old xs hx).1; omega
  refine joinP_of fun J1 hJ1 => ?_
  refine ldI_of (x := (S.rows : Int)) (hd'.blk.cells 0 _ rfl) (cond_f (by simp) ?_)
  refine ldI_of (x := (S.cols : Int)) (hd'.blk.cells 1 _ rfl) (cond_f (by simp) ?_)
  refine ldI_of (x := S.top) (hd'.blk.cells 5 _ rfl) ?_
  refine gTop_spec hd ⟨hd'.blk.cells 5 _ rfl, cond_f (by simp) ?_⟩
  refine ldI_of (x := S.top) (hd'.blk.cells 5 _ rfl) ?_
  refine ldSl_of (x := f'.os) (hd'.blk.cells 4 _ rfl) ?_
  refine gFirst_spec hd ?_
  have hdd : GridM w.drew.drew.drew base f S := hd.drew
  have hdd' : RefM w.drew.drew.drew base' f' S := hd'.drew
  refine ⟨hdd'.blk.cells 4 _ rfl, hdd'.blk.cells 5 _ rfl, ?_⟩
  refine cond_f (by rw [hosn]; simp) ?_
  refine ldSl_of (x := f'.os) (hdd'.blk.cells 4 _ rfl) ?_
  refine gBack_spec hdd ⟨hdd'.blk.cells 4 _ rfl, ?_⟩
  refine cond_f (by rw [hosn]; simp) (hJ1 _ _ ?_)
  clear hJ1
  have hB0 : Below w.heap.size w w.drew.drew.drew := hBd.drew
  generalize w.drew.drew.drew = w0 at *
  -- the lines
  refine loopP_rule (fun (s : Int × Unit) w2 => ∃ k : Nat, s.1 = k ∧ k ≤ S.rows ∧ Below w.heap.size w w2) (fun s => S.rows - s.1.toNat) ⟨0, rfl, by omega, hB0⟩ ?_
  rintro ⟨j, _⟩ w2 ⟨k, rfl, hk, hB2⟩ I hI
  dsimp only at *
  refine cond_of (fun hlt => ?_) (fun hge => ?_)
  · have hlt := of_decide_eq_true hlt
    refine gLine_spec (h.ext hB2) ok.len hwL' (fun s xs w3 _ hx hs hB3 => ?_) (fun hn => absurd ⟨by omega, hlt⟩ hn)
    have hB03 : Below w.heap.size w w3 := hB2.trans (hB3.mono hB2.size)
    have h3' := h'.ext hB03
    refine cond_f rfl ?_
    refine ldSl_of (x := f'.ls) (h3'.blk.cells 3 _ rfl) ?_
    have hll := hl.1
    have hle := ok.len
    refine (ho.ext hB03).rd.ix rfl (by omega) (by omega) fun hc => ?_
    have hlk : ls[k]? = some (ls[k]'(by omega)) := List.getElem?_eq_getElem _
    refine ldSl_of (x := ls[k]'(by omega)) (by simpa using hc 0 _ rfl) ?_
    have hx : S.L[k]? = some xs := hx
    refine Same_spec hs.rd ((hl.ext hB03).2 _ _ _ hlk hx).rd fun b w4 hb hB4 _ => ?_
    rw [hb.2 rfl]
    refine cond_f rfl ?_
    rw [wrap64_id (by omega)]
    exact hI _ _ ⟨k + 1, by simp, by omega, hB03.trans (hB4.mono hB03.size)⟩ (by simp; omega)
  clear hI I hge hk
  -- the scrollback
  refine loopP_rule (fun (s : Int × Unit) w3 => ∃ k : Nat, s.1 = k ∧ k ≤ S.old.length ∧ Below w.heap.size w w3) (fun s => S.old.length - s.1.toNat) ⟨0, rfl, by omega, hB2⟩ ?_
  rintro ⟨j, _⟩ w3 ⟨k, rfl, hk, hB3⟩ I hI
  dsimp only at *
  refine ldSl_of (x := f'.os) ((h'.ext hB3).blk.cells 4 _ rfl) ?_
  rw [hosn]
  refine cond_of (fun hlt => ?_) (fun hge => ?_)
  · have hlt := of_decide_eq_true hlt
    refine gOld_spec (h.ext hB3) (by omega) hwO (fun s xs w4 _ hx hs hB4 => ?_) (fun hn => by omega)
    have hB04 : Below w.heap.size w w4 := hB3.trans (hB4.mono hB3.size)
    have h4' := h'.ext hB04
    refine cond_f rfl ?_
    refine ldSl_of (x := f'.os) (h4'.blk.cells 4 _ rfl) ?_
    have hll := hl'.1
    refine (ho'.ext hB04).rd.ix rfl (by omega) (by omega) fun hc => ?_
    have hlk : os[k]? = some (os[k]'(by omega)) := List.getElem?_eq_getElem _
    refine ldSl_of (x := os[k]'(by omega)) (by simpa using hc 0 _ rfl) ?_
    have hx : S.old[k]? = some xs := hx
    refine Same_spec hs.rd ((hl'.ext hB04).2 _ _ _ hlk hx).rd fun b w5 hb hB5 _ => ?_
    rw [hb.2 rfl]
    refine cond_f rfl ?_
    rw [wrap64_id (by omega)]
    exact hI _ _ ⟨k + 1, by simp, by omega, hB04.trans (hB5.mono hB04.size)⟩ (by simp; omega)
  clear hI I hge hk
  -- the rest
  refine gLine_any (h.ext hB3) ok.len hwL' fun s w4 hB4 => ?_
  have hB04 : Below w.heap.size w w4 := hB3.trans (hB4.mono hB3.size)
  refine gOld_any (h.ext hB04) (by omega) hwO fun s' w5 hB5 => ?_
  have hB05 : Below w.heap.size w w5 := hB04.trans (hB5.mono hB04.size)
  refine gText_spec (h.ext hB05) ok.len hro.2 hwL fun t w6 ht hB6 => ?_
  have hB06 : Below w.heap.size w w6 := hB05.trans (hB6.mono hB05.size)
  have h6' := h'.ext hB06
  have htn : t.n = S.rows := by rw [ht.rd.n, List.length_map, ok.len]
  refine joinP_of fun J4 hJ4 => ?_
  have fin : J4 () w6 := hJ4 _ _ (by
    clear hJ4
    refine loopP_rule (fun (s : Int × Unit) w7 => ∃ k : Nat, s.1 = k ∧ k ≤ S.rows ∧ Below w6.heap.size w6 w7) (fun s => S.rows - s.1.toNat) ⟨0, rfl, by omega, Below.refl _ _⟩ ?_
    rintro ⟨j, _⟩ w7 ⟨k, rfl, hk, hB7⟩ I hI
    dsimp only at *
    refine cond_of (fun hlt => ?_) (fun hge => hK _ (hB06.trans (hB7.mono hB06.size)))
    have hlt := of_decide_eq_true hlt
    have hle := ok.len
    have hll := hl.1
    have ht7 := (ht.ext hB7).drew
    have hB07 : Below w.heap.size w w7.drew := (hB06.trans (hB7.mono hB06.size)).drew
    have hxk : S.L[k]? = some (S.L[k]'(by omega)) := List.getElem?_eq_getElem _
    have htx : ∀ q, (S.L.map textS)[((k : Nat) : Int).toNat]'q = textS (S.L[k]'(by omega)) := fun q => by simp
    refine ht7.rd.ix rfl (by omega) (by simp; omega) fun hc => ?_
    rw [htx] at hc
    have hcell : w7.drew.cell? (t.at_ strE.k k) = some (.string (textS (S.L[k]'(by omega)))) := by simpa using hc 0 _ rfl
    refine ldStr_of hcell ?_
    refine ldSl_of (x := f'.ls) ((h'.ext hB07).blk.cells 3 _ rfl) ?_
    refine (ho.ext hB07).rd.ix rfl (by omega) (by omega) fun hc2 => ?_
    have hlk : ls[k]? = some (ls[k]'(by omega)) := List.getElem?_eq_getElem _
    refine ldSl_of (x := ls[k]'(by omega)) (by simpa using hc2 0 _ rfl) ?_
    have hgood := ok.L _ (List.mem_of_getElem? hxk)
    refine rText_spec ((hl.ext hB07).2 _ _ _ hlk hxk).rd (hwL _ (List.mem_of_getElem? hxk)) hgood.2.2 fun w8 hB8 => ?_
    have hc8 := (hc.ext hB8) 0 _ rfl
    refine ⟨by simpa using hc8, ?_⟩
    refine cond_f (by simp) ?_
    rw [wrap64_id (by omega)]
    exact hI _ _ ⟨k + 1, by simp, by omega, hB7.drew.trans (hB8.mono hB7.drew.size)⟩ (by simp; omega))
  refine rIs_spec h6' ?_
  refine cond_f (by simp) ?_
  refine cond_of (fun h0 => ?_) (fun h0 => ?_)
  · have h0 : i ≥ 0 := of_decide_eq_true h0
    refine ldSl_of (x := f'.os) (h6'.blk.cells 4 _ rfl) ?_
    rw [hosn]
    refine cond_f (by simp [show (0 : Int) ≤ i from h0]) ?_
    exact cond_f (by rw [htn]; simp) fin
  · have h0 : ¬ i ≥ 0 := of_decide_eq_false h0
    refine cond_f (by simp; omega) ?_
    exact cond_f (by rw [htn]; simp) fin
end

end Go.Proofs.YtgejghejnibocaaDoor
