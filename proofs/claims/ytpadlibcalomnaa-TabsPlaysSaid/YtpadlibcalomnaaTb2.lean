/- The program's tab stops: their memory, and what each operation comes to. -/
import Derived.Test.YtpadlibcalomnaaTb1
import Derived.Test.YtpadlibcalomnaaS1
import Derived.Test.YtpadlibcalomnaaMem4
set_option linter.unusedVariables false
namespace Go.Proofs.Ytpadlibcalomnaa
open Go.Vc Go.RowKit
set_option maxRecDepth 100000

def encT : Unit → Value := fun _ => .bool true
/-- The stops at g, with their map at r. -/
structure StopsM (w : World) (g r : Nat) (B : List Bool) : Prop where
  blk : Blk w g ty_tabs_Stops [.int .i64 (B.length : Int), .map (some r)]
  map : MapM encT w r (keysB B)
theorem tmapT : PG.underlying ty_map_int_bool = some (.map ty_int ty_bool) := by kernel_rfl
theorem tintT : PG.underlying ty_int = some (.int .i64) := by kernel_rfl
theorem zboolT : ∀ w, (zeroValue ty_bool).run PG w = .ok (.bool false) w := Try.zeroValue4
theorem onPtr_some' {a : Addr} {K : Addr → Prop} (h : K a) : onPtr (some a) K := h
theorem i64_of {x : Int} (h : -9223372036854775808 ≤ x ∧ x ≤ 9223372036854775807) : IntKind.i64.wrap x = x := wrap64_id h

section
variable {w w' : World} {g r : Nat} {B : List Bool}
theorem StopsM.keep {Sx : Nat → Prop} (h : StopsM w g r B) (hc : Chg Sx w w') (hg : ¬ Sx g) (hr : ¬ Sx r) : StopsM w' g r B := ⟨h.blk.chg hc hg, h.map.chg hc hr⟩
theorem StopsM.ext (h : StopsM w g r B) (hb : Below w.heap.size w w') : StopsM w' g r B := ⟨h.blk.ext hb, h.map.ext hb⟩
theorem StopsM.drew (h : StopsM w g r B) : StopsM w.drew g r B := ⟨h.blk, h.map.keep rfl⟩
theorem StopsM.ne (h : StopsM w g r B) : r ≠ g := h.map.ne_blk h.blk
theorem keys_le (B : List Bool) : (keysB B).length ≤ B.length := by
  unfold keysB
  have : ∀ (B : List Bool) (i : Int), (keysF i B).length ≤ B.length := by
    intro B
    induction B with
    | nil => intro i; simp [keysF]
    | cons b r ih =>
      intro i
      rw [keysF]
      have := ih (i + 1)
      split <;> simp <;> omega
  exact this B 0
theorem is_spec (h : StopsM w g r B) (col : Int) {K : Bool → World → Prop} (hK : K (inB B col) w) : c_tabs_Stops_is (some ⟨g, 0, none⟩) col w K := by
  refine call_tabs_Stops_is _ _ ?_
  unfold sh_tabs_Stops_is
  unfold inB at hK
  refine cond_of (fun h0 => ?_) fun h0 => ?_
  · refine onPtr_some' (ldI_of (x := (B.length : Int)) (h.blk.cells 0 _ rfl) ?_)
    rw [show decide (0 ≤ col) = true from h0] at hK
    exact hK
  · rw [show decide (0 ≤ col) = false from h0] at hK
    exact hK
theorem near_spec (h : StopsM w g r B) (hl : B.length ≤ 1000) (col : Int) {K : Int → World → Prop} (hK : K (nearB B col) w) : c_tabs_Stops_near (some ⟨g, 0, none⟩) col w K := by
  refine call_tabs_Stops_near _ _ ?_
  unfold sh_tabs_Stops_near
  refine onPtr_some' (ldI_of (x := (B.length : Int)) (h.blk.cells 0 _ rfl) ?_)
  rw [i64_of (by omega)]
  have e : (if (B.length : Int) - 1 < (if (0 : Int) > col then (0 : Int) else col) then (B.length : Int) - 1 else (if (0 : Int) > col then (0 : Int) else col)) = nearB B col := by
    unfold nearB
    split <;> split at * <;> omega
  rw [e]
  exact hK
theorem All_spec (h : StopsM w g r B) (hl : B.length ≤ 1000) {K : Slc → World → Prop}
    (hK : ∀ q w', Own E_int w' w.heap.size q (keysI B) → Below w.heap.size w w' → K q w') : c_tabs_Stops_All (some ⟨g, 0, none⟩) w K := by
  refine call_tabs_Stops_All _ ?_
  unfold sh_tabs_Stops_All
  refine onPtr_some' (ldM_of (x := some r) (h.blk.cells 1 _ rfl) (Keys_spec ?_))
  have hB : Below w.heap.size w (w.alloc (.cells #[.map (some r)] 42)) := (Below.refl _ w).alloc (Nat.le_refl _) _
  have hs : (w.alloc (.cells #[.map (some r)] 42)).heap.size = w.heap.size + 1 := by show (w.heap.push _).size = _; simp
  have hb : Blk (w.alloc (.cells #[.map (some r)] 42)) w.heap.size 42 [.map (some r)] := Blk.new w 42 [.map (some r)]
  have := keys_le B
  refine Sorted_spec (h.map.ext hB) (by omega) (hb.cell 0 rfl) fun q w' hq hB' => ?_
  exact hK q w' (hq.base (by omega)) (hB.trans (hB'.mono (by omega)))
def setB (B : List Bool) (col : Int) (b : Bool) : List Bool := if inB B col then B.set col.toNat b else B
@[simp] theorem setB_length (B : List Bool) (col : Int) (b : Bool) : (setB B col b).length = B.length := by unfold setB; split <;> simp
theorem inB_nat {col : Int} (h : inB B col = true) : ∃ k : Nat, col = k ∧ k < B.length := by
  unfold inB at h
  simp at h
  exact ⟨col.toNat, by omega, by omega⟩
theorem isStop_in {col : Int} (h : inB B col = false) : isStop B col = false := by
  cases hs : isStop B col with
  | false => rfl
  | true =>
    obtain ⟨j, rfl, hj⟩ := isStop_iff.1 hs
    have := (List.getElem?_eq_some_iff.1 hj).1
    unfold inB at h
    simp at h
    omega
theorem StopsM.put (h : StopsM w g r B) (B' : List Bool) (hl : B'.length = B.length) (hc : Chg (fun k => k = r) w w') (hm : MapM encT w' r (keysB B')) : StopsM w' g r B' :=
  ⟨by rw [hl]; exact h.blk.chg hc (fun e => h.ne e.symm), hm⟩
theorem update_spec {L : List (Int × Unit)} (h : MapM encT w r L) {col : Int} (hc : -9223372036854775808 ≤ col ∧ col ≤ 9223372036854775807) {K : Option Value → World → Prop}
    (hK : ∀ w', MapM encT w' r (putL' L col ()) → Chg (fun k => k = r) w w' → w'.heap.size = w.heap.size → K none w') : runU PG (Instr.mapUpdate ty_map_int_bool (.map (some r)) (.int .i64 col) (.bool true)) w K := by
  obtain ⟨w', h1, h2, h3, h4⟩ := h.update tmapT tintT hc ()
  exact ⟨w', h1, hK w' h2 h3 h4⟩
theorem delete_spec {L : List (Int × Unit)} (h : MapM encT w r L) (col : Int) {K : Value → World → Prop}
    (hK : ∀ v w', MapM encT w' r (delL L col) → Chg (fun k => k = r) w w' → w'.heap.size = w.heap.size → K v w') : runK1 PG (Builtin.delete_ #[ty_map_int_bool, ty_int] ty_unit #[(.map (some r)), (.int .i64 col)]) Kind.raw w K := by
  obtain ⟨w', h1, h2, h3, h4⟩ := h.delete tmapT tintT col ty_unit
  exact ⟨.tuple #[], w', h1, hK _ w' h2 h3 h4⟩
theorem Set_spec (h : StopsM w g r B) (hl : B.length ≤ 1000) (col : Int) {K : Bool → World → Prop}
    (hK : ∀ w', StopsM w' g r (setB B col true) → Chg (fun k => k = r) w w' → w'.heap.size = w.heap.size → K (inB B col) w') : c_tabs_Stops_Set (some ⟨g, 0, none⟩) col w K := by
  refine call_tabs_Stops_Set _ _ ?_
  unfold sh_tabs_Stops_Set
  refine joinP_of fun J hJ => ?_
  refine is_spec h col ?_
  refine cond_of (fun hi => ?_) fun hi => ?_
  · obtain ⟨k, rfl, hk⟩ := inB_nat hi
    refine onPtr_some' (ldM_of (x := some r) (h.blk.cells 1 _ rfl) (update_spec h.map (by omega) fun w' hm hc hs => hJ _ _ ?_))
    have e : setB B k true = B.set k true := by unfold setB; rw [if_pos hi, Int.toNat_natCast]
    have h' : StopsM w' g r (setB B k true) := h.put _ (by simp) hc (by rw [e, ← put_keys hk]; exact hm)
    refine is_spec h' k ?_
    have e2 : inB (setB B k true) k = inB B k := by unfold inB; rw [setB_length]
    rw [e2]
    exact hK w' h' hc hs
  · refine hJ _ _ (is_spec h col (hK w ?_ (Chg.refl _ _) rfl))
    unfold setB
    rw [if_neg (by rw [hi]; simp)]
    exact h
theorem Clear_spec (h : StopsM w g r B) (col : Int) {K : Bool → World → Prop}
    (hK : ∀ w', StopsM w' g r (setB B col false) → Chg (fun k => k = r) w w' → w'.heap.size = w.heap.size → K (isStop B col) w') : c_tabs_Stops_Clear (some ⟨g, 0, none⟩) col w K := by
  refine call_tabs_Stops_Clear _ _ ?_
  unfold sh_tabs_Stops_Clear
  refine onPtr_some' (ldM_of (x := some r) (h.blk.cells 1 _ rfl) ?_)
  refine ⟨isStop B col, w, ?_, ?_⟩
  · rw [h.map.lookup tmapT tintT zboolT col, ← look_keys]
    cases lookL (keysB B) col <;> rfl
  · refine onPtr_some' (ldM_of (x := some r) (h.blk.cells 1 _ rfl) (delete_spec h.map col fun v w' hm hc hs => hK w' ?_ hc hs))
    refine h.put _ (by simp) hc ?_
    unfold setB
    by_cases hi : inB B col = true
    · obtain ⟨k, rfl, hk⟩ := inB_nat hi
      rw [if_pos hi, Int.toNat_natCast, ← del_keys]
      exact hm
    · rw [if_neg hi, ← del_none (isStop_in (by simpa using hi))]
      exact hm
theorem keys_none (n : Nat) : keysB (List.replicate n false) = [] := by
  cases h : keysB (List.replicate n false) with
  | nil => rfl
  | cons p L =>
    obtain ⟨a, u⟩ := p
    have hm : (a, u) ∈ keysB (List.replicate n false) := by rw [h]; exact List.mem_cons_self
    obtain ⟨j, _, hj⟩ := mem_keysB.1 hm
    rw [List.getElem?_replicate] at hj
    split at hj <;> simp at hj
theorem None_spec (h : StopsM w g r B) {K : World → Prop}
    (hK : ∀ w', StopsM w' g r (List.replicate B.length false) → Chg (fun k => k = r) w w' → w'.heap.size = w.heap.size → K w') : c_tabs_Stops_None (some ⟨g, 0, none⟩) w K := by
  refine call_tabs_Stops_None _ ?_
  unfold sh_tabs_Stops_None
  refine onPtr_some' (ldM_of (x := some r) (h.blk.cells 1 _ rfl) ?_)
  obtain ⟨w', h1, h2, h3, h4⟩ := h.map.clear tmapT ty_unit
  exact ⟨.tuple #[], w', h1, hK w' (h.put _ (by simp) h3 (by rw [keys_none]; exact h2)) h3 h4⟩
theorem Next_spec (h : StopsM w g r B) (hl : 1 ≤ B.length ∧ B.length ≤ 1000) (col n : Int) (hnm : n ≤ 9223372036854775807) {K : Int → World → Prop}
    (hK : ∀ w', Below w.heap.size w w' → K (nextB B col n) w') : c_tabs_Stops_Next (some ⟨g, 0, none⟩) col n w K := by
  refine call_tabs_Stops_Next _ _ _ ?_
  unfold sh_tabs_Stops_Next
  refine joinP_of fun J1 hJ1 => ?_
  refine joinP_of fun J3 hJ3 => ?_
  have hnear : (n < 1 ∨ inB B col = false) → J3 (true, ()) w := fun hc => hJ3 _ _ (cond_t rfl (near_spec h hl.2 col (by have := hK w (Below.refl _ _); unfold nextB at this; rwa [if_pos hc] at this)))
  refine cond_of (fun hn => hnear (.inl (of_decide_eq_true hn))) fun hn => ?_
  have hn := of_decide_eq_false hn
  refine is_spec h col ?_
  cases hi : inB B col with
  | false => exact hnear (.inr hi)
  | true =>
    refine hJ3 _ _ (cond_f rfl (hJ1 _ _ ?_))
    refine All_spec h hl.2 fun q w1 hq hB1 => ?_
    have hK1 := hK w1 hB1
    rw [next_eq (by omega) hi, ← scan_nth _ _ _ _ (by omega)] at hK1
    have hkl := keys_le B
    have hlen : (keysI B).length = (keysB B).length := by simp [keysI]
    refine loopP_rule (fun (s : Int × Int × Unit) w2 => w2 = w1 ∧ ∃ k : Nat, s.2.1 = k ∧ k ≤ (keysI B).length ∧ 1 ≤ s.1 ∧ s.1 ≤ n ∧ scan (fun k => decide (col < k)) ((B.length : Int) - 1) (keysI B) n = scan (fun k => decide (col < k)) ((B.length : Int) - 1) ((keysI B).drop k) s.1)
      (fun s => (keysI B).length - s.2.1.toNat) ⟨rfl, 0, rfl, Nat.zero_le _, by show 1 ≤ n; omega, Int.le_refl _, rfl⟩ ?_
    rintro ⟨m, i, u⟩ _ ⟨rfl, k, hki, hk, hm1, hmn, hsc⟩ I hI
    dsimp only at hki hm1 hmn hsc ⊢
    subst hki
    have hqn := hq.rd.n
    by_cases hlt : k < (keysI B).length
    · refine cond_t (by simp; omega) ?_
      refine hq.rd.ix (k := 1) rfl (by omega) (by omega) fun hcell => ?_
      obtain ⟨x, hx, hx'⟩ := get_of hlt
      rw [hx' _] at hcell
      refine ldI_of (x := x) (by simpa using hcell 0 _ rfl) ?_
      have hd : (keysI B).drop k = x :: (keysI B).drop (k + 1) := by rw [List.drop_eq_getElem_cons hlt]; congr 1; exact hx' hlt
      rw [hd, scan] at hsc
      rw [i64_of (x := (k : Int) + 1) (by omega), i64_of (x := m - 1) (by omega)]
      refine cond_of (fun hle => ?_) fun hle => ?_
      · have hle := of_decide_eq_true hle
        rw [if_neg (by simp; omega)] at hsc
        exact hI _ _ ⟨rfl, k + 1, by simp, by omega, hm1, hmn, hsc⟩ (by simp; omega)
      · have hle := of_decide_eq_false hle
        rw [if_pos (by simp; omega)] at hsc
        refine cond_of (fun hz => ?_) fun hz => ?_
        · have hz : m - 1 = 0 := by simpa using hz
          rw [if_pos (by omega)] at hsc
          rw [hsc] at hK1
          exact hK1
        · have hz : ¬ m - 1 = 0 := by simpa using hz
          rw [if_neg (by omega)] at hsc
          exact hI _ _ ⟨rfl, k + 1, by simp, by omega, by show 1 ≤ m - 1; omega, by show m - 1 ≤ n; omega, hsc⟩ (by simp; omega)
    · refine cond_f (by simp; omega) ?_
      rw [List.drop_of_length_le (by omega), scan] at hsc
      rw [hsc] at hK1
      refine onPtr_some' (ldI_of (x := (B.length : Int)) ((h.ext hB1).blk.cells 0 _ rfl) ?_)
      rw [i64_of (by omega)]
      exact hK1
end
end Go.Proofs.Ytpadlibcalomnaa
