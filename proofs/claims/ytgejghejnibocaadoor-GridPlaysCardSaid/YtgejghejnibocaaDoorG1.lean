/- Rings of lines, and rows of lines: what their functions come to. -/
import Derived.Test.YtgejghejnibocaaDoorW4
namespace Go.Proofs.YtgejghejnibocaaDoor
open Go.Vc Go.RowKit

def sl2E : El Slc where
  cells s := [.slice s.a s.n s.c]
  t := 116
  k := 1
  pos := by decide
  len _ := rfl
  one x v hv := by
    simp only [List.mem_cons, List.mem_nil_iff, or_false] at hv
    rcases hv with rfl
    rfl
noncomputable def slT116 : SlT Tryd.prog slE 116 where
  ht := by kernel_rfl
  i := (Tryd.prog.info? 25).getD default
  hi := by kernel_rfl
  z := .slice none 0 0
  hz := by kernel_rfl
  hs := by kernel_rfl
  hzs := rfl
theorem by116 : slT116.i.bytes = 24 := by kernel_rfl

theorem GrowS_nil {n : Int} {w : World} {K : Slc → World → Prop} (h0 : 0 ≤ n) (hn : n ≤ 1000000) (hK : ∀ r w', Own slE w' w.heap.size r [] → Below w.heap.size w w' → K r w') : c_slices_Grow_line_Line_line_Line (⟨none, 0, 0⟩ : Slc) n w K := by
  refine call_slices_Grow_line_Line_line_Line _ _ ?_
  unfold sh_slices_Grow_line_Line_line_Line
  refine joinP_of fun J hJ => ?_
  refine cond_f (by simpa using h0) (hJ _ _ ?_)
  have hw : IntKind.i64.wrap (n - (IntKind.i64.wrap (((0 : Nat) : Int) - ((0 : Nat) : Int)))) = n := by
    rw [wrap64_id (x := ((0 : Nat) : Int) - ((0 : Nat) : Int)) (by omega), wrap64_id (by omega)]
    omega
  simp only [hw]
  refine cond_of (fun h => ?_) (fun h => ?_)
  · have h := of_decide_eq_true h
    refine bnd_some (by omega) (by omega) (bnd_none ?_)
    refine apM_nil slT116 (kk := .i64) (by kernel_rfl) (n := n.toNat) (by omega) (by omega) (by simp only [maxLen]; omega) (by rw [by116]; omega) fun cap w' h1 h2 ho hB => ?_
    refine bnd_some (by omega) (by simp) (bnd_none ?_)
    have e : cut (some ⟨w.heap.size, 0, none⟩) 0 cap 1 = some ⟨w.heap.size, 0, none⟩ := by
      unfold cut
      split
      · rfl
      · simp
    show K ⟨cut (some ⟨w.heap.size, 0, none⟩) 0 cap 1, 0, cap⟩ w'
    rw [e]
    exact hK _ _ ho hB
  · exact hK _ _ (Own.nil _ _ _) (Below.refl _ _)

/-- Many slices that read as many lists. -/
def RdAllS (w : World) (ss : List Slc) (xss : List (List Slc)) : Prop := ss.length = xss.length ∧ ∀ (i : Nat) s xs, ss[i]? = some s → xss[i]? = some xs → Rd slE w s xs

theorem sum_take_leS (xss : List (List Slc)) (k : Nat) : (xss.take k).flatten.length ≤ xss.flatten.length := by
  conv => rhs; rw [← List.take_append_drop k xss]
  rw [List.flatten_append, List.length_append]
  omega
theorem flatten_takeS {xss : List (List Slc)} {k : Nat} {xs : List Slc} (h : xss[k]? = some xs) : (xss.take (k + 1)).flatten = (xss.take k).flatten ++ xs := by
  rw [List.take_add_one, h]
  simp

theorem ConcatS_spec {p : Slc} {ss : List Slc} {xss : List (List Slc)} {w : World} {K : Slc → World → Prop} (hp : Rd sl2E w p ss) (hss : RdAllS w ss xss) (hl : xss.flatten.length ≤ 1000000) (hn : ss.length ≤ 1000000)
    (hK : ∀ r w', Own slE w' w.heap.size r xss.flatten → Below w.heap.size w w' → K r w') : c_slices_Concat_line_Line_line_Line p w K := by
  refine call_slices_Concat_line_Line_line_Line _ ?_
  unfold sh_slices_Concat_line_Line_line_Line
  have hpn := hp.n
  obtain ⟨hsl, hss⟩ := hss
  refine loopP_rule (fun (s : Int × Int × Unit) w2 => ∃ k : Nat, s.2.1 = k ∧ k ≤ ss.length ∧ s.1 = ((xss.take k).flatten.length : Nat) ∧ w2 = w) (fun s => ss.length - s.2.1.toNat) ⟨0, rfl, by omega, rfl, rfl⟩ ?_
  rintro ⟨t, i, _⟩ w2 ⟨k, rfl, hk, rfl, rfl⟩ I hI
  dsimp only at *
  have hle := sum_take_leS xss
  refine cond_of (fun hlt => ?_) (fun hge => ?_)
  · have hlt := of_decide_eq_true hlt
    rw [hpn] at hlt
    have hkl : k < ss.length := by omega
    have hx : ss[k]? = some ss[k] := List.getElem?_eq_getElem hkl
    have hy : xss[k]? = some (xss[k]'(by omega)) := List.getElem?_eq_getElem _
    refine hp.ix rfl (by omega) (by omega) fun hc => ?_
    refine ldSl_of (x := ss[k]) (by simpa using hc 0 _ rfl) ?_
    have hr := hss k _ _ hx hy
    have hrn := hr.n
    have hf := flatten_takeS hy
    have h1 := hle (k + 1)
    rw [hf, List.length_append] at h1
    rw [hrn, wrap64_id (by omega)]
    refine cond_f (by simp; omega) ?_
    rw [wrap64_id (by omega)]
    exact hI _ _ ⟨k + 1, by simp, by omega, by rw [hf]; simp, rfl⟩ (by simp; omega)
  · have hge := of_decide_eq_false hge
    rw [hpn] at hge
    have : k = ss.length := by omega
    subst this
    have h1 := hle ss.length
    refine GrowS_nil (by omega) (by omega) fun g w3 ho3 hB3 => ?_
    refine loopP_rule (fun (s : Slc × Int × Unit) w4 => ∃ k : Nat, s.2.1 = k ∧ k ≤ ss.length ∧ Own slE w4 w2.heap.size s.1 ((xss.take k).flatten) ∧ Below w2.heap.size w2 w4) (fun s => ss.length - s.2.1.toNat) ⟨0, rfl, by omega, by simpa using ho3, hB3⟩ ?_
    rintro ⟨t, i, _⟩ w4 ⟨k, rfl, hk, ho, hB⟩ I2 hI2
    dsimp only at *
    refine cond_of (fun hlt => ?_) (fun hge => ?_)
    · have hlt := of_decide_eq_true hlt
      rw [hpn] at hlt
      have hkl : k < ss.length := by omega
      have hx : ss[k]? = some ss[k] := List.getElem?_eq_getElem hkl
      have hy : xss[k]? = some (xss[k]'(by omega)) := List.getElem?_eq_getElem _
      refine (hp.ext hB).ix rfl (by omega) (by omega) fun hc => ?_
      refine ldSl_of (x := ss[k]) (by simpa using hc 0 _ rfl) ?_
      have hr := (hss k _ _ hx hy).ext hB
      have hf := flatten_takeS hy
      have h1 := hle (k + 1)
      rw [hf, List.length_append] at h1
      refine apK_own slT116 ho hr hB.size (by rw [by116]; omega) (by simp only [maxLen]; omega) fun r w5 ho5 hg5 hr5 => ?_
      rw [wrap64_id (by omega)]
      exact hI2 _ _ ⟨k + 1, by simp, by omega, by rw [hf]; exact ho5, hB.grown hg5 hB.size fun g hg => (ho.lt g hg).1⟩ (by simp; omega)
    · have hge := of_decide_eq_false hge
      rw [hpn] at hge
      have : k = ss.length := by omega
      subst this
      rw [hsl, List.take_length] at ho
      exact hK _ _ ho hB


theorem rdAllS2 {w : World} {a b : Slc} {xs ys : List Slc} (ha : Rd slE w a xs) (hb : Rd slE w b ys) : RdAllS w [a, b] [xs, ys] := by
  refine ⟨rfl, fun i s l hs hl => ?_⟩
  match i, hs, hl with
  | 0, hs, hl => cases hs; cases hl; exact ha
  | 1, hs, hl => cases hs; cases hl; exact hb
  | i + 2, hs, hl => cases hs
theorem rdAllS4 {w : World} {a b c d : Slc} {xs ys zs us : List Slc} (ha : Rd slE w a xs) (hb : Rd slE w b ys) (hc : Rd slE w c zs) (hd : Rd slE w d us) : RdAllS w [a, b, c, d] [xs, ys, zs, us] := by
  refine ⟨rfl, fun i s l hs hl => ?_⟩
  match i, hs, hl with
  | 0, hs, hl => cases hs; cases hl; exact ha
  | 1, hs, hl => cases hs; cases hl; exact hb
  | 2, hs, hl => cases hs; cases hl; exact hc
  | 3, hs, hl => cases hs; cases hl; exact hd
  | i + 4, hs, hl => cases hs

/-! ### Many lines -/
/-- Each slice of the list is a row of cells of the call's own. -/
def Lines (w : World) (base : Nat) (ls : List Slc) (xss : List (List Cell)) : Prop := ls.length = xss.length ∧ ∀ (i : Nat) s xs, ls[i]? = some s → xss[i]? = some xs → Own cellE w base s xs
section
variable {w w' : World} {base : Nat} {ls ms : List Slc} {xss yss : List (List Cell)}
theorem Lines.nil (w : World) (base : Nat) : Lines w base [] [] := ⟨rfl, fun i s xs h => by simp at h⟩
theorem Lines.ext (h : Lines w base ls xss) (hb : Below w.heap.size w w') : Lines w' base ls xss := ⟨h.1, fun i s xs h1 h2 => (h.2 i s xs h1 h2).ext hb⟩
theorem Lines.chg {S : Nat → Prop} (h : Lines w base ls xss) (hc : Chg S w w') (hS : ∀ k cs, S k → ¬ Blk w k 42 cs) : Lines w' base ls xss :=
  ⟨h.1, fun i s xs h1 h2 => (h.2 i s xs h1 h2).chg hc fun g hg hs => by
    obtain ⟨cs, hcs⟩ := (h.2 i s xs h1 h2).blk_t hg
    exact hS g cs hs hcs⟩
theorem Lines.append (h : Lines w base ls xss) (h' : Lines w base ms yss) : Lines w base (ls ++ ms) (xss ++ yss) := by
  refine ⟨by rw [List.length_append, List.length_append, h.1, h'.1], fun i s xs h1 h2 => ?_⟩
  rcases Nat.lt_or_ge i ls.length with hi | hi
  · rw [List.getElem?_append_left hi] at h1
    rw [List.getElem?_append_left (by rw [← h.1]; exact hi)] at h2
    exact h.2 i s xs h1 h2
  · rw [List.getElem?_append_right hi] at h1
    rw [List.getElem?_append_right (by rw [← h.1]; exact hi), ← h.1] at h2
    exact h'.2 _ s xs h1 h2
theorem Lines.take (h : Lines w base ls xss) (n : Nat) : Lines w base (ls.take n) (xss.take n) := by
  refine ⟨by simp [h.1], fun i s xs h1 h2 => ?_⟩
  rw [List.getElem?_take] at h1 h2
  split at h1
  · next hi => rw [if_pos hi] at h2; exact h.2 i s xs h1 h2
  · cases h1
theorem Lines.drop (h : Lines w base ls xss) (n : Nat) : Lines w base (ls.drop n) (xss.drop n) := by
  refine ⟨by simp [h.1], fun i s xs h1 h2 => ?_⟩
  rw [List.getElem?_drop] at h1 h2
  exact h.2 _ s xs h1 h2
theorem Lines.set (h : Lines w base ls xss) (i : Nat) {s : Slc} {xs : List Cell} (hs : Own cellE w base s xs) : Lines w base (ls.set i s) (xss.set i xs) := by
  refine ⟨by simp [h.1], fun j t ys h1 h2 => ?_⟩
  rw [List.getElem?_set] at h1 h2
  by_cases hij : i = j
  · rw [if_pos hij] at h1 h2
    split at h1
    · rw [if_pos (by rw [← h.1]; assumption)] at h2
      cases h1; cases h2; exact hs
    · cases h1
  · rw [if_neg hij] at h1 h2
    exact h.2 j t ys h1 h2
theorem Lines.one {s : Slc} {xs : List Cell} (hs : Own cellE w base s xs) : Lines w base [s] [xs] := by
  refine ⟨rfl, fun i t ys h1 h2 => ?_⟩
  match i, h1, h2 with
  | 0, h1, h2 => cases h1; cases h2; exact hs
  | i + 1, h1, h2 => cases h1
end

/-! ### Rings -/
/-- Block r is a ring of lines that holds 'old', the eldest first; its row is 's'. -/
def RingM (w : World) (base r : Nat) (s : Slc) (most : Nat) (old : List (List Cell)) : Prop :=
  ∃ (at_ : Nat) (gone : Int) (ls : List Slc) (xss : List (List Cell)), Blk w r 140 [.int .i64 most, .slice s.a s.n s.c, .int .i64 at_, .int .i64 gone] ∧ Own slE w base s ls ∧ Lines w base ls xss ∧ base ≤ r ∧
    old = xss.drop at_ ++ xss.take at_ ∧ xss.length ≤ most ∧ (at_ = 0 ∨ (at_ < xss.length ∧ xss.length = most))

theorem RingNew_spec {base : Nat} {most : Int} {w : World} {K : Option Addr → Int → World → Prop} (h0 : 0 ≤ most) (h1 : most ≤ 65536) (hb : base ≤ w.heap.size)
    (hK : ∀ w', RingM w' base w.heap.size ⟨none, 0, 0⟩ most.toNat [] → Below w.heap.size w w' → w'.heap.size = w.heap.size + 1 → K (some ⟨w.heap.size, 0, none⟩) 0 w') : c_ring_New_line_Line most w K := by
  refine call_ring_New_line_Line _ ?_
  unfold sh_ring_New_line_Line
  refine joinP_of fun J hJ => ?_
  refine cond_f (by simpa using h0) (cond_f (by simpa using h1) (hJ _ _ ?_))
  refine nw_blk fun w1 hb1 hB1 hs1 => hK _ ⟨0, 0, [], [], ?_, Own.nil _ _ _, Lines.nil _ _, hb, rfl, by simp, .inl rfl⟩ hB1 hs1
  rw [show ((most.toNat : Nat) : Int) = most by omega]
  exact hb1

theorem RingLen_spec {base r most : Nat} {s : Slc} {old : List (List Cell)} {w : World} {K : Int → World → Prop} (h : RingM w base r s most old) (hK : K old.length w) : c_ring_Ring_line_Line_Len (some ⟨r, 0, none⟩) w K := by
  obtain ⟨at_, gone, ls, xss, hb, ho, hl, hbr, e, hm, ha⟩ := h
  refine call_ring_Ring_line_Line_Len _ ?_
  unfold sh_ring_Ring_line_Line_Len
  rw [onPtr_some]
  refine ldSl_of (x := s) (hb.cells 1 _ rfl) ?_
  have hn : s.n = old.length := by
    rw [ho.rd.n, hl.1, e, List.length_append, List.length_drop, List.length_take]
    omega
  rw [hn]
  exact hK

theorem RingAt_spec {base r most : Nat} {s : Slc} {old : List (List Cell)} {i : Int} {w : World} {K : Slc → Bool → World → Prop} (h : RingM w base r s most old) (hmost : most ≤ 100000)
    (hK1 : ∀ t xs, 0 ≤ i → old[i.toNat]? = some xs → Own cellE w base t xs → K t true w.drew) (hK2 : (i < 0 ∨ i ≥ old.length) → K ⟨none, 0, 0⟩ false w) : c_ring_Ring_line_Line_At (some ⟨r, 0, none⟩) i w K := by
  obtain ⟨at_, gone, ls, xss, hb, ho, hl, hbr, e, hm, ha⟩ := h
  refine call_ring_Ring_line_Line_At _ _ ?_
  unfold sh_ring_Ring_line_Line_At
  have hol : old.length = xss.length := by rw [e, List.length_append, List.length_drop, List.length_take]; omega
  have hsn : s.n = old.length := by rw [ho.rd.n, hl.1, hol]
  refine joinP_of fun J1 hJ1 => joinP_of fun J2 hJ2 => ?_
  have no : (i < 0 ∨ i ≥ old.length) → J2 (true, ()) w := fun hh => hJ2 _ _ (cond_t rfl (hK2 hh))
  refine cond_of (fun h0 => no (.inl (of_decide_eq_true h0))) (fun h0 => ?_)
  have h0 := of_decide_eq_false h0
  rw [onPtr_some]
  refine ldSl_of (x := s) (hb.cells 1 _ rfl) ?_
  rw [hsn]
  by_cases h1 : i ≥ (old.length : Int)
  · rw [decide_eq_true h1]; exact no (.inr h1)
  · rw [decide_eq_false h1]
    refine hJ2 _ _ (cond_f rfl (hJ1 _ _ ?_))
    rw [onPtr_some]
    refine ldSl_of (x := s) (hb.drew.cells 1 _ rfl) ?_
    rw [onPtr_some]
    refine ldI_of (x := at_) (hb.drew.cells 2 _ rfl) ?_
    rw [onPtr_some]
    refine ldSl_of (x := s) (hb.drew.cells 1 _ rfl) ?_
    rw [hsn]
    refine ⟨by omega, ?_⟩
    rw [wrap64_id (by omega), Int.tmod_eq_emod_of_nonneg (by omega)]
    obtain ⟨k, rfl⟩ : ∃ k : Nat, i = k := ⟨i.toNat, by omega⟩
    have hmod : ((at_ : Int) + k) % (old.length : Int) = (((at_ + k) % old.length : Nat) : Int) := by
      rw [Int.natCast_emod, Int.natCast_add]
    have hlt : (at_ + k) % old.length < old.length := Nat.mod_lt _ (by omega)
    rw [hmod]
    have hjj : old[k]? = xss[(at_ + k) % old.length]? := by
      rw [e]
      have hdl : (xss.drop at_).length = xss.length - at_ := by simp
      by_cases hk : k < xss.length - at_
      · rw [List.getElem?_append_left (by omega), List.getElem?_drop]
        congr 1
        rw [← e, hol, Nat.mod_eq_of_lt (by omega)]
      · rw [List.getElem?_append_right (by omega), hdl, List.getElem?_take_of_lt (by omega), ← e, hol]
        congr 1
        rw [Nat.mod_eq_sub_mod (by omega), Nat.mod_eq_of_lt (by omega)]
        omega
    generalize (at_ + k) % old.length = j at *
    have hjl : j < ls.length := by rw [hl.1, ← hol]; exact hlt
    have hjx : j < xss.length := by rw [← hol]; exact hlt
    have hls : ls[j]? = some ls[j] := List.getElem?_eq_getElem _
    have hxs : xss[j]? = some xss[j] := List.getElem?_eq_getElem _
    refine ho.drew.rd.ix rfl (by omega) (by omega) fun hc => ?_
    refine ldSl_of (x := ls[j]) (by simpa using hc 0 _ rfl) ?_
    refine hK1 _ xss[j] (by omega) ?_ (hl.2 _ _ _ hls hxs)
    rw [← hxs, ← hjj]
    rfl

end Go.Proofs.YtgejghejnibocaaDoor
