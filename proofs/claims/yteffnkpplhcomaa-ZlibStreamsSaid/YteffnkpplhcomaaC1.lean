/- The document's codes: Reverse, Complete, New, Code. -/
import Derived.Test.YteffnkpplhcomaaB16
import Derived.Test.YteffnkpplhcomaaHuffR
namespace Go.Proofs.Yteffnkpplhcomaa
open Go.Vc Go.RowKit
set_option maxRecDepth 400000

theorem rReverse_spec {v n : Nat} {w : World} {K : Int → World → Prop} (hv : v < 2 ^ 32) (hn : n ≤ 32) (hK : K ((revN v n : Nat) : Int) w) : c_phosphorref1_Reverse v n w K := by
  refine call_phosphorref1_Reverse _ _ ?_
  unfold sh_phosphorref1_Reverse
  refine joinP_of fun J hJ => ?_
  refine cond_f (by simp) (cond_f (by simp; omega) (hJ _ _ ?_))
  refine loopP_rule (fun (s : Int × Int × Unit) w2 => ∃ i : Nat, s.2.1 = i ∧ i ≤ n ∧ s.1 = ((revN v i : Nat) : Int) ∧ w2 = w) (fun s => n - s.2.1.toNat) ⟨0, rfl, by omega, rfl, rfl⟩ ?_
  rintro ⟨r, i, _⟩ w2 ⟨i, rfl, hi, rfl, rfl⟩ I hI
  dsimp only at *
  refine cond_of (fun hlt => ?_) (fun hge => ?_)
  · have hlt := of_decide_eq_true hlt
    refine ⟨by decide, ?_⟩
    rw [wrap_nat .u64 (x := i) (by show i < 2 ^ 64; omega)]
    refine ⟨by omega, hI _ _ ⟨i + 1, ?_, by omega, ?_, rfl⟩ ?_⟩
    · dsimp only; rw [wrap64_id (by omega)]; rfl
    · have hr := revN_lt v i
      have hp : 2 ^ i * 2 ≤ 2 ^ 32 := by rw [← Nat.pow_succ]; exact Nat.pow_le_pow_right (by decide) (by omega)
      have hd : v / 2 ^ i < 2 ^ 32 := Nat.lt_of_le_of_lt (Nat.div_le_self _ _) hv
      dsimp only
      rw [show min ((1 : Int)).toNat IntKind.u32.bits = 1 by decide, mul_pow_nat, wrap_nat .u32 (by show _ < 2 ^ 32; omega)]
      have em : min ((i : Int)).toNat IntKind.u32.bits = i := by show min i 32 = i; omega
      rw [em, fdiv_nat]
      have e1 : bitsR .and .u32 ((v / 2 ^ i : Nat) : Int) 1 = ((v / 2 ^ i % 2 : Nat) : Int) := by
        rw [show (1 : Int) = ((1 : Nat) : Int) from rfl, bits_and .u32 hd (by decide), one_and]
      rw [e1, bits_or .u32 (by show _ < 2 ^ 32; omega) (by show _ < 2 ^ 32; omega), Nat.pow_one, Nat.mul_comm, two_or _ _ (by omega)]
      rfl
    · dsimp only; rw [wrap64_id (by omega)]; omega
  · have hge := of_decide_eq_false hge
    have : i = n := by omega
    subst this
    exact hK

theorem Complete_spec {s : Slc} {ls : List UInt8} {w : World} {K : Int → World → Prop} (h : Rd E_uint8 w s ls) (hl : ls.length ≤ 100000) (hK : K (if roomN ls < 32768 then -1 else if 32768 < roomN ls then 1 else 0) w) : c_phosphorref4_Complete s w K := by
  refine call_phosphorref4_Complete _ ?_
  unfold sh_phosphorref4_Complete
  rw [h.n]
  refine loopP_rule (fun (s : Int × Int × Unit) w2 => ∃ i : Nat, s.2.1 = i ∧ i ≤ ls.length ∧ s.1 = ((roomN (ls.take i) : Nat) : Int) ∧ w2 = w) (fun s => ls.length - s.2.1.toNat) ⟨0, rfl, by omega, rfl, rfl⟩ ?_
  rintro ⟨r, i, _⟩ w2 ⟨i, rfl, hi, rfl, rfl⟩ I hI
  dsimp only at *
  have hrl := roomN_le (ls.take i)
  rw [List.length_take] at hrl
  refine cond_of (fun hlt => ?_) (fun hge => ?_)
  · have hlt := of_decide_eq_true hlt
    have hil : i < ls.length := by omega
    obtain ⟨x, hx, hxs⟩ := get_of (xs := ls) (k := i) hil
    have hst : roomN (ls.take (i + 1)) = roomN (ls.take i) + (if 0 < x.toNat ∧ x.toNat ≤ 15 then 2 ^ (15 - x.toNat) else 0) := by
      rw [List.take_add_one, hx, roomN_append]
      simp [roomN]
    have h8 := x.toNat_lt
    refine joinP_of fun J hJ => ?_
    have byte : ∀ {K : Int → Prop}, K (x.toNat : Int) → ixK s (i : Int) 1 fun t => ldI .u8 t w2 K := fun {K} hK => h.ix (i := (i : Int)) rfl (by omega) (by omega) fun hc => by
      rw [hxs] at hc
      exact ldB8 (b := x) hc hK
    refine byte ?_
    have no : ¬ (0 < x.toNat ∧ x.toNat ≤ 15) → J (false, ()) w2 := fun hn => hJ _ _ (cond_f rfl (hI _ _ ⟨i + 1, by dsimp only; rw [wrap64_id (by omega)]; rfl, by omega, by dsimp only; rw [hst, if_neg hn]; rfl, rfl⟩ (by dsimp only; rw [wrap64_id (by omega)]; omega)))
    refine cond_of (fun h1 => byte ?_) (fun h1 => no ?_)
    · have h1 := of_decide_eq_true h1
      by_cases h15 : x.toNat ≤ 15
      · rw [decide_eq_true (by omega)]
        refine hJ _ _ (cond_t rfl (byte ?_))
        have e15 : (15 : Int) - (x.toNat : Int) = ((15 - x.toNat : Nat) : Int) := by omega
        rw [e15, wrap_nat .u8 (x := 15 - x.toNat) (by show _ < 2 ^ 8; omega), wrap_nat .u64 (x := 15 - x.toNat) (by show _ < 2 ^ 64; omega)]
        refine ⟨by omega, ?_⟩
        have em : min (((15 - x.toNat : Nat) : Int)).toNat IntKind.i64.bits = 15 - x.toNat := by show min (15 - x.toNat) 64 = _; omega
        rw [em, show ((1 : Int) * 2 ^ (15 - x.toNat)) = ((2 ^ (15 - x.toNat) : Nat) : Int) by simp]
        have hp : 2 ^ (15 - x.toNat) ≤ 2 ^ 14 := Nat.pow_le_pow_right (by decide) (by omega)
        have hp0 : (0 : Int) ≤ ((2 ^ (15 - x.toNat) : Nat) : Int) := Int.natCast_nonneg _
        rw [wrap_nat .i64 (x := 2 ^ (15 - x.toNat)) (by show _ < 2 ^ 63; omega)]
        refine hI _ _ ⟨i + 1, by dsimp only; rw [wrap64_id (by omega)]; rfl, by omega, ?_, rfl⟩ (by dsimp only; rw [wrap64_id (by omega)]; omega)
        dsimp only
        rw [hst, if_pos ⟨by omega, h15⟩, wrap64_id (by omega)]
        rfl
      · rw [decide_eq_false (by omega)]
        exact no fun h => h15 h.2
    · have h1 := of_decide_eq_false h1
      exact fun h => by omega
  · have hge := of_decide_eq_false hge
    have : i = ls.length := by omega
    subst this
    rw [List.take_length] at *
    by_cases h1 : roomN ls < 32768
    · rw [if_pos h1] at hK
      exact cond_t (decide_eq_true (by omega)) hK
    · rw [if_neg h1] at hK
      refine cond_f (decide_eq_false (by omega)) ?_
      by_cases h2 : 32768 < roomN ls
      · rw [if_pos h2] at hK
        exact cond_t (decide_eq_true (by omega)) hK
      · rw [if_neg h2] at hK
        exact cond_f (decide_eq_false (by omega)) hK

/-! ### How many codes, and the last one's length -/
def nzN (ls : List UInt8) : Nat := ls.countP fun x => 0 < x.toNat
def oneN (ls : List UInt8) : Nat := ls.foldl (fun a x => if 0 < x.toNat then x.toNat else a) 0
theorem nz_snoc (l : List UInt8) (x : UInt8) : nzN (l ++ [x]) = nzN l + (if 0 < x.toNat then 1 else 0) := by
  simp only [nzN, List.countP_append, List.countP_cons, List.countP_nil, Nat.zero_add, decide_eq_true_eq]
theorem one_snoc (l : List UInt8) (x : UInt8) : oneN (l ++ [x]) = if 0 < x.toNat then x.toNat else oneN l := by simp [oneN]
theorem room_snoc (l : List UInt8) (x : UInt8) : roomN (l ++ [x]) = roomN l + (if 0 < x.toNat ∧ x.toNat ≤ 15 then 2 ^ (15 - x.toNat) else 0) := by rw [roomN_append]; simp [roomN]
theorem cnt_snoc (l : List UInt8) (x : UInt8) (k : Nat) : cntK (l ++ [x]) k = cntK l k + (if k ≠ 0 ∧ x.toNat = k then 1 else 0) := by rw [cntK_append, cntK_cons, cntK_nil, Nat.zero_add]
theorem nz_all (ls : List UInt8) : (∀ x ∈ ls, x.toNat ≤ 15) → (nzN ls = 0 → roomN ls = 0 ∧ cntK ls 1 = 0) ∧ (nzN ls = 1 → roomN ls = 2 ^ (15 - oneN ls) ∧ cntK ls 1 = (if oneN ls = 1 then 1 else 0) ∧ 0 < oneN ls ∧ oneN ls ≤ 15) ∧ 16384 * cntK ls 1 + (nzN ls - cntK ls 1) ≤ roomN ls ∧ cntK ls 1 ≤ nzN ls := by
  refine list_last (fun ls => (∀ x ∈ ls, x.toNat ≤ 15) → (nzN ls = 0 → roomN ls = 0 ∧ cntK ls 1 = 0) ∧ (nzN ls = 1 → roomN ls = 2 ^ (15 - oneN ls) ∧ cntK ls 1 = (if oneN ls = 1 then 1 else 0) ∧ 0 < oneN ls ∧ oneN ls ≤ 15) ∧ 16384 * cntK ls 1 + (nzN ls - cntK ls 1) ≤ roomN ls ∧ cntK ls 1 ≤ nzN ls) ?_ (fun l x ih h => ?_) ls
  · intro _
    refine ⟨fun _ => ⟨rfl, cntK_nil 1⟩, fun h => (by cases h), ?_, ?_⟩
    · rw [cntK_nil]; exact Nat.zero_le _
    · rw [cntK_nil]; exact Nat.zero_le _
  · obtain ⟨i1, i2, i3, i4⟩ := ih fun y hy => h y (by simp [hy])
    have hx := h x (by simp)
    rw [nz_snoc, one_snoc, room_snoc, cnt_snoc]
    by_cases h0 : 0 < x.toNat
    · rw [if_pos h0, if_pos h0, if_pos ⟨h0, hx⟩]
      have hp : 0 < 2 ^ (15 - x.toNat) := Nat.pow_pos (by decide)
      refine ⟨fun e => by omega, fun e => ?_, ?_, ?_⟩
      · obtain ⟨a, b⟩ := i1 (by omega)
        refine ⟨by omega, ?_, h0, hx⟩
        rw [b, Nat.zero_add]
        by_cases e1 : x.toNat = 1 <;> simp [e1]
      · by_cases e1 : x.toNat = 1
        · rw [if_pos ⟨by decide, e1⟩, e1]
          omega
        · rw [if_neg fun h => e1 h.2]
          omega
      · split <;> omega
    · have h0' : x.toNat = 0 := by omega
      rw [if_neg h0, if_neg h0, if_neg (fun h => h0 h.1), if_neg (by omega : ¬ (1 ≠ 0 ∧ x.toNat = 1))]
      exact ⟨i1, i2, i3, i4⟩
/-- Which lengths make a table. -/
theorem room_good {ls : List UInt8} (h : ∀ x ∈ ls, x.toNat ≤ 15) : (roomN ls = 32768 ∨ roomN ls = 0 ∨ (roomN ls = 16384 ∧ cntK ls 1 = 1)) ↔ roomN ls = 32768 ∨ (roomN ls < 32768 ∧ (nzN ls = 0 ∨ nzN ls = 1 ∧ oneN ls = 1)) := by
  obtain ⟨i1, i2, i3, i4⟩ := nz_all ls h
  constructor
  · rintro (h | h | ⟨h, h1⟩)
    · exact .inl h
    · exact .inr ⟨by omega, .inl (by omega)⟩
    · have hn : nzN ls = 1 := by omega
      obtain ⟨a, b, _, _⟩ := i2 hn
      rw [h1] at b
      by_cases e : oneN ls = 1
      · exact .inr ⟨by omega, .inr ⟨hn, e⟩⟩
      · rw [if_neg e] at b; cases b
  · rintro (h | ⟨h, h1 | ⟨h1, h2⟩⟩)
    · exact .inl h
    · exact .inr (.inl (i1 h1).1)
    · obtain ⟨a, b, _, _⟩ := i2 h1
      rw [h2] at a b
      exact .inr (.inr ⟨a, b⟩)

/-! ### New -/
/-- The codes that were dealt. -/
def rcodesL (ls : List UInt8) (k i : Nat) : List Int := (List.range ls.length).map fun j => match ls[j]? with
  | some x => if 0 < x.toNat ∧ (x.toNat < k ∨ x.toNat = k ∧ j < i) then ((codeK ls x.toNat j : Nat) : Int) else 0
  | none => 0
theorem rcodesL_length (ls : List UInt8) (k i : Nat) : (rcodesL ls k i).length = ls.length := by simp [rcodesL]
theorem rcodesL_get {ls : List UInt8} {k i j : Nat} {x : UInt8} (hx : ls[j]? = some x) : (rcodesL ls k i)[j]? = some (if 0 < x.toNat ∧ (x.toNat < k ∨ x.toNat = k ∧ j < i) then ((codeK ls x.toNat j : Nat) : Int) else 0) := by
  have hj : j < ls.length := (List.getElem?_eq_some_iff.1 hx).1
  unfold rcodesL
  rw [List.getElem?_map, List.getElem?_range hj]
  simp only [Option.map_some, hx]
theorem rcodesL_ext {ls : List UInt8} {k i k' i' : Nat} (h : ∀ (j : Nat) (x : UInt8), ls[j]? = some x → ((0 < x.toNat ∧ (x.toNat < k ∨ x.toNat = k ∧ j < i)) ↔ (0 < x.toNat ∧ (x.toNat < k' ∨ x.toNat = k' ∧ j < i')))) : rcodesL ls k i = rcodesL ls k' i' := by
  unfold rcodesL
  refine List.map_congr_left fun j hj => ?_
  cases hx : ls[j]? with
  | none => rfl
  | some x => simp only [h j x hx]
theorem rcodesL_none (ls : List UInt8) : rcodesL ls 1 0 = List.replicate ls.length 0 := by
  refine List.ext_getElem? fun j => ?_
  by_cases hj : j < ls.length
  · rw [rcodesL_get (List.getElem?_eq_getElem hj), if_neg (by omega), List.getElem?_replicate, if_pos hj]
  · rw [List.getElem?_eq_none (by rw [rcodesL_length]; omega), List.getElem?_eq_none (by simp; omega)]
theorem rcodesL_next (ls : List UInt8) (k : Nat) : rcodesL ls k ls.length = rcodesL ls (k + 1) 0 :=
  rcodesL_ext fun j x hx => by
    have hj : j < ls.length := (List.getElem?_eq_some_iff.1 hx).1
    omega
theorem rcodesL_skip {ls : List UInt8} {k i : Nat} {x : UInt8} (hx : ls[i]? = some x) (hk : x.toNat ≠ k) : rcodesL ls k (i + 1) = rcodesL ls k i :=
  rcodesL_ext fun j y hy => by
    by_cases e : j = i
    · subst e
      rw [hx] at hy
      obtain rfl := Option.some.inj hy
      omega
    · omega
theorem rcodesL_set {ls : List UInt8} {k i : Nat} {x : UInt8} (hx : ls[i]? = some x) (h0 : 0 < k) (hk : x.toNat = k) : (rcodesL ls k i).set i ((codeK ls k i : Nat) : Int) = rcodesL ls k (i + 1) := by
  have hi : i < ls.length := (List.getElem?_eq_some_iff.1 hx).1
  refine List.ext_getElem? fun j => ?_
  by_cases hj : j < ls.length
  · by_cases e : j = i
    · subst e
      rw [List.getElem?_set_self (by rw [rcodesL_length]; exact hj), rcodesL_get hx, if_pos (by omega), hk]
    · rw [List.getElem?_set_ne (Ne.symm e), rcodesL_get (List.getElem?_eq_getElem hj), rcodesL_get (List.getElem?_eq_getElem hj)]
      have : ((ls[j]).toNat < k ∨ (ls[j]).toNat = k ∧ j < i) ↔ ((ls[j]).toNat < k ∨ (ls[j]).toNat = k ∧ j < i + 1) := by omega
      simp only [this]
  · rw [List.getElem?_eq_none (by rw [List.length_set, rcodesL_length]; omega), List.getElem?_eq_none (by rw [rcodesL_length]; omega)]

/-- The document's table in memory. -/
structure RTab (w : World) (base g : Nat) (lo co : Slc) (ls : List UInt8) : Prop where
  blk : Blk w g ty_phosphorref4_Table [.slice lo.a lo.n lo.c, .slice co.a co.n co.c]
  hg : base ≤ g
  lo : Own E_uint8 w base lo ls
  co : Own E_uint32 w base co (rcodesL ls 16 0)
  sm : ls.length ≤ 320
  good : goodTab ls
theorem RTab.ext {w w' : World} {base g : Nat} {lo co : Slc} {ls : List UInt8} (h : RTab w base g lo co ls) (hb : Below w.heap.size w w') : RTab w' base g lo co ls :=
  ⟨h.blk.ext hb, h.hg, h.lo.ext hb, h.co.ext hb, h.sm, h.good⟩
theorem RTab.below {w w' : World} {base B g : Nat} {lo co : Slc} {ls : List UInt8} (h : RTab w base g lo co ls) (hB : w.heap.size ≤ B) (hb : Below B w w') : RTab w' base g lo co ls := h.ext (hb.mono hB)
theorem RTab.base {w : World} {base b' g : Nat} {lo co : Slc} {ls : List UInt8} (h : RTab w base g lo co ls) (hb : b' ≤ base) : RTab w b' g lo co ls := ⟨h.blk, Nat.le_trans hb h.hg, h.lo.base hb, h.co.base hb, h.sm, h.good⟩

theorem own_ne {w : World} {T T' : Type} {E : El T} {E' : El T'} {b b' : Nat} {s s' : Slc} {xs : List T} {ys : List T'} (h : Own E w b s xs) (h' : Own E' w b' s' ys) (hne : E.t ≠ E'.t) : ∀ k, s.blk = some k → s'.blk ≠ some k := fun k hk e => by
  obtain ⟨cs, hcs⟩ := h.blk_t hk
  obtain ⟨cs', hcs'⟩ := h'.blk_t e
  exact hcs.ne_t hcs' hne rfl
theorem own_ne_blk {w : World} {T : Type} {E : El T} {b g : Nat} {s : Slc} {xs : List T} {t : TypeId} {vs : List Value} (h : Own E w b s xs) (h' : Blk w g t vs) (hne : E.t ≠ t) : ∀ k, s.blk = some k → k ≠ g := fun k hk => by
  obtain ⟨cs, hcs⟩ := h.blk_t hk
  exact hcs.ne_t h' hne

/-- The loops that deal the codes. -/
theorem rNew_loop {l lo co : Slc} {ls : List UInt8} {w w7 : World} {g : Nat} {K : Option Addr → Int → World → Prop} (h : Rd E_uint8 w l ls) (hsm : ls.length ≤ 320) (hgood : goodTab ls) (hB : Below w.heap.size w w7)
    (hb : Blk w7 g ty_phosphorref4_Table [.slice lo.a lo.n lo.c, .slice co.a co.n co.c]) (hg : w.heap.size ≤ g) (hlo : Own E_uint8 w7 w.heap.size lo ls) (hco : Own E_uint32 w7 w.heap.size co (List.replicate ls.length 0))
    (hK : ∀ w', RTab w' w.heap.size g lo co ls → Below w.heap.size w w' → K (some ⟨g, 0, none⟩) 0 w') :
    loopP (σ := Int × Int × Unit) (fun I3 s_2 w8 =>
      cond (decide (s_2.2.1 ≤ (15 : Int)))
        (loopP (σ := Int × Int × Unit) (fun I4 s_3 w9 =>
           cond (decide (s_3.2.1 < ((l.n : Nat) : Int)))
             (ixK l s_3.2.1 1 fun t79 =>
              ldI .u8 t79 w9 fun t80 =>
              cond ((IntKind.i64.wrap t80) == s_2.2.1)
                (ldSl ((⟨g, 0, none⟩ : Addr).add 1) w9 fun t87 =>
                 ixK t87 s_3.2.1 1 fun t90 =>
                 stK t90 [(.int .u32 s_3.1)] w9 fun w10 =>
                 I4 ((IntKind.u32.wrap (s_3.1 + (1 : Int))), (IntKind.i64.wrap (s_3.2.1 + (1 : Int))), ()) w10)
                (I4 (s_3.1, (IntKind.i64.wrap (s_3.2.1 + (1 : Int))), ()) w9))
             (0 ≤ (1 : Int) ∧
              I3 ((IntKind.u32.wrap (s_3.1 * 2 ^ (min (1 : Int).toNat IntKind.u32.bits))), (IntKind.i64.wrap (s_2.2.1 + (1 : Int))), ()) w9)) (s_2.1, 0, ()) w8)
        (K (some ⟨g, 0, none⟩) 0 w8)) (0, 1, ()) w7 := by
  have hroom := hgood.room
  have hpow : ∀ k, k ≤ 15 → firstK ls k + cntK ls k ≤ 32768 := fun k hk => Nat.le_trans (kraft hroom hk) (Nat.pow_le_pow_right (by decide) hk)
  have hln := h.n
  refine loopP_rule (fun (s : Int × Int × Unit) w2 => ∃ k : Nat, s.2.1 = ((k + 1 : Nat) : Int) ∧ k ≤ 15 ∧ s.1 = ((firstK ls (k + 1) : Nat) : Int) ∧ Blk w2 g ty_phosphorref4_Table [.slice lo.a lo.n lo.c, .slice co.a co.n co.c] ∧ Own E_uint8 w2 w.heap.size lo ls ∧ Own E_uint32 w2 w.heap.size co (rcodesL ls (k + 1) 0) ∧ Below w.heap.size w w2) (fun s => 16 - s.2.1.toNat)
    ⟨0, rfl, by omega, by simp [firstK, cntK], hb, hlo, by rw [rcodesL_none]; exact hco, hB⟩ ?_
  rintro ⟨c, k, _⟩ w2 ⟨k, rfl, hk, rfl, hb2, hlo2, hco2, hB2⟩ I hI
  dsimp only at *
  refine cond_of (fun hle => ?_) (fun hgt => ?_)
  · have hle := of_decide_eq_true hle
    refine loopP_rule (fun (s : Int × Int × Unit) w3 => ∃ i : Nat, s.2.1 = i ∧ i ≤ ls.length ∧ s.1 = ((codeK ls (k + 1) i : Nat) : Int) ∧ Blk w3 g ty_phosphorref4_Table [.slice lo.a lo.n lo.c, .slice co.a co.n co.c] ∧ Own E_uint8 w3 w.heap.size lo ls ∧ Own E_uint32 w3 w.heap.size co (rcodesL ls (k + 1) i) ∧ Below w.heap.size w w3) (fun s => ls.length - s.2.1.toNat)
      ⟨0, rfl, by omega, by simp [codeK, cntK_nil], hb2, hlo2, hco2, hB2⟩ ?_
    rintro ⟨c, i, _⟩ w3 ⟨i, rfl, hi, rfl, hb3, hlo3, hco3, hB3⟩ I2 hI2
    dsimp only at *
    have hci : codeK ls (k + 1) i ≤ 32768 := by
      unfold codeK
      have h1 := hpow (k + 1) (by omega)
      have h2 : cntK (ls.take i) (k + 1) ≤ cntK ls (k + 1) := by
        conv => rhs; rw [← List.take_append_drop i ls]
        rw [cntK_append]; omega
      omega
    refine cond_of (fun hlt => ?_) (fun hge => ?_)
    · have hlt := of_decide_eq_true hlt
      have hil : i < ls.length := by omega
      obtain ⟨x, hx, hxs⟩ := get_of (xs := ls) (k := i) hil
      have h8 := x.toNat_lt
      refine (h.ext hB3).ix rfl (by omega) (by omega) fun hc => ?_
      rw [hxs] at hc
      refine ldB8 (b := x) hc ?_
      rw [wrap_nat .i64 (x := x.toNat) (by show _ < 2 ^ 63; omega)]
      refine cond_of (fun he => ?_) (fun he => ?_)
      · have he : x.toNat = k + 1 := by have := eq_of_beq he; omega
        refine ldSl_of (x := co) (hb3.cells 1 _ rfl) ?_
        refine hco3.rd.ix rfl (by omega) (by rw [rcodesL_length]; omega) fun _ => ?_
        refine hco3.st0 (x := _) (y := ((codeK ls (k + 1) i : Nat) : Int)) (by rw [show ((i : Int)).toNat = i from rfl]; exact rcodesL_get (k := k + 1) (i := i) hx) rfl fun w4 hco4 hg4 hs4 => ?_
        rw [show ((i : Int)).toNat = i from rfl, rcodesL_set hx (by omega) he] at hco4
        have hc34 : Chg (fun j => co.blk = some j) w3 w4 := Chg.of_grown hg4 fun j hj => hj
        have hb4 := hb3.chg hc34 fun e => own_ne_blk hco3 hb3 (by decide) g e rfl
        have hlo4 := hlo3.chg hc34 fun j hj e => own_ne hlo3 hco3 (by decide) j hj e
        rw [show ((codeK ls (k + 1) i : Nat) : Int) + 1 = ((codeK ls (k + 1) i + 1 : Nat) : Int) from rfl, wrap_nat .u32 (x := codeK ls (k + 1) i + 1) (by show _ < 2 ^ 32; omega), wrap64_id (by omega)]
        refine hI2 _ _ ⟨i + 1, by simp, by omega, ?_, hb4, hlo4, hco4, hB3.trans (hc34.below hB3.size fun j hj e => by have := (hco3.lt j e).1; omega)⟩ (by simp; omega)
        show ((codeK ls (k + 1) i + 1 : Nat) : Int) = _
        unfold codeK
        rw [cntK_take_succ ls (k + 1) i hx, if_pos ⟨by omega, he⟩]
        rfl
      · have he : x.toNat ≠ k + 1 := by have := beq_eq_false_iff_ne.1 he; omega
        rw [wrap64_id (by omega)]
        refine hI2 _ _ ⟨i + 1, by simp, by omega, ?_, hb3, hlo3, by rw [rcodesL_skip hx he]; exact hco3, hB3⟩ (by simp; omega)
        unfold codeK
        rw [cntK_take_succ ls (k + 1) i hx, if_neg (fun h => he h.2)]
    · have hge := of_decide_eq_false hge
      have : i = ls.length := by omega
      subst this
      refine ⟨by decide, hI _ _ ⟨k + 1, ?_, by omega, ?_, hb3, hlo3, ?_, hB3⟩ ?_⟩
      · dsimp only; rw [wrap64_id (by omega)]; omega
      · dsimp only
        rw [show min ((1 : Int)).toNat IntKind.u32.bits = 1 by decide, mul_pow_nat, wrap_nat .u32 (by show _ < 2 ^ 32; omega)]
        unfold codeK
        rw [List.take_length, Nat.pow_one, Nat.mul_comm]
        rfl
      · rw [← rcodesL_next]
        exact hco3
      · dsimp only; rw [wrap64_id (by omega)]; omega
  · have hgt := of_decide_eq_false hgt
    have : k = 15 := by omega
    subst this
    exact hK w2 ⟨hb2, hg, hlo2, hco2, hsm, hgood⟩ hB2

theorem rNew_spec {l : Slc} {ls : List UInt8} {w : World} {K : Option Addr → Int → World → Prop} (h : Rd E_uint8 w l ls)
    (hK1 : badTab ls → ∀ e, e ≠ 0 → K none e w) (hK2 : ¬ badTab ls → ∀ g lo co w', RTab w' w.heap.size g lo co ls → Below w.heap.size w w' → K (some ⟨g, 0, none⟩) 0 w') : c_phosphorref4_New l w K := by
  refine call_phosphorref4_New _ ?_
  unfold sh_phosphorref4_New
  have hln := h.n
  refine cond_of (fun hlt => ?_) (fun hge => ?_)
  · have hlt := of_decide_eq_true hlt
    exact hK1 (.inl (.inl (by omega))) 1 (by decide)
  have hge := of_decide_eq_false hge
  have hsm : ls.length ≤ 320 := by omega
  refine loopP_rule (fun (s : Int × Int × Int × Unit) w2 => ∃ i : Nat, s.2.2.1 = i ∧ i ≤ ls.length ∧ s.1 = ((nzN (ls.take i) : Nat) : Int) ∧ s.2.1 = ((oneN (ls.take i) : Nat) : Int) ∧ (∀ x ∈ ls.take i, x.toNat ≤ 15) ∧ w2 = w) (fun s => ls.length - s.2.2.1.toNat) ⟨0, rfl, by omega, rfl, rfl, fun x hx => by simp at hx, rfl⟩ ?_
  rintro ⟨n, o, i, _⟩ w2 ⟨i, rfl, hi, rfl, rfl, h15, rfl⟩ I hI
  dsimp only at *
  have hnz : nzN (ls.take i) ≤ 320 := by
    have : nzN (ls.take i) ≤ (ls.take i).length := List.countP_le_length
    rw [List.length_take] at this
    omega
  refine cond_of (fun hlt => ?_) (fun hge => ?_)
  · have hlt := of_decide_eq_true hlt
    have hil : i < ls.length := by omega
    obtain ⟨x, hx, hxs⟩ := get_of (xs := ls) (k := i) hil
    have h8 := x.toNat_lt
    have byte : ∀ {K : Int → Prop}, K (x.toNat : Int) → ixK l (i : Int) 1 fun t => ldI .u8 t w2 K := fun {K} hK => h.ix (i := (i : Int)) rfl (by omega) (by omega) fun hc => by
      rw [hxs] at hc
      exact ldB8 (b := x) hc hK
    have et : ls.take (i + 1) = ls.take i ++ [x] := by rw [List.take_add_one, hx]; rfl
    refine byte (cond_of (fun hb => ?_) (fun hb => byte ?_))
    · have hb := of_decide_eq_true hb
      exact hK1 (.inl (.inr ⟨x, List.mem_of_getElem? hx, by omega⟩)) 1 (by decide)
    · have hb := of_decide_eq_false hb
      have h15' : ∀ y ∈ ls.take (i + 1), y.toNat ≤ 15 := fun y hy => by
        rw [et, List.mem_append, List.mem_singleton] at hy
        rcases hy with hy | rfl
        · exact h15 y hy
        · omega
      rw [wrap64_id (x := (i : Int) + 1) (by omega)]
      refine cond_of (fun hp => byte ?_) (fun hp => ?_)
      · have hp := of_decide_eq_true hp
        rw [wrap64_id (by omega), wrap64_id (by omega)]
        refine hI _ _ ⟨i + 1, rfl, by omega, ?_, ?_, h15', rfl⟩ (by simp; omega)
        · show _ = ((nzN (ls.take (i + 1)) : Nat) : Int)
          rw [et, nz_snoc, if_pos (by omega)]; rfl
        · show _ = ((oneN (ls.take (i + 1)) : Nat) : Int)
          rw [et, one_snoc, if_pos (by omega)]
      · have hp := of_decide_eq_false hp
        refine hI _ _ ⟨i + 1, rfl, by omega, ?_, ?_, h15', rfl⟩ (by simp; omega)
        · show _ = ((nzN (ls.take (i + 1)) : Nat) : Int)
          rw [et, nz_snoc, if_neg (by omega)]; rfl
        · show _ = ((oneN (ls.take (i + 1)) : Nat) : Int)
          rw [et, one_snoc, if_neg (by omega)]
  have hge := of_decide_eq_false hge
  have : i = ls.length := by omega
  subst this
  rw [List.take_length] at *
  have hgd := room_good h15
  refine Complete_spec h (by omega) ?_
  refine joinP_of fun J hJ => ?_
  have bad : ¬ (roomN ls = 32768 ∨ (roomN ls < 32768 ∧ (nzN ls = 0 ∨ nzN ls = 1 ∧ oneN ls = 1))) → K none 3 w2 := fun hn => hK1 (.inr fun hg => hn (hgd.1 hg)) 3 (by decide)
  have ok : (roomN ls = 32768 ∨ (roomN ls < 32768 ∧ (nzN ls = 0 ∨ nzN ls = 1 ∧ oneN ls = 1))) → J () w2 := fun hyes => hJ _ _ (by
    clear hJ
    have hgood : goodTab ls := ⟨h15, hgd.2 hyes⟩
    have hnb : ¬ badTab ls := fun hb => by
      rcases hb with (hb | ⟨x, hx, hx15⟩) | hb
      · omega
      · have := h15 x hx; omega
      · exact hb hgood.2
    have hBd : Below w2.heap.size w2 w2.drew := (Below.refl _ w2).drew
    have hsd : w2.drew.heap.size = w2.heap.size := rfl
    have hE0 : ∀ {w w' : World} {b : Nat}, Blk w' b ty_uint8 [] → w.heap.size ≤ b → Own E_uint8 w' w.heap.size ⟨some ⟨b, 0, none⟩, 0, 0⟩ [] := fun hb hle => own_empty (E := E_uint8) hb hle
    have mk : ∀ {w : World} {K : Slc → World → Prop}, (∀ w', Own E_uint32 w' w.heap.size ⟨some ⟨w.heap.size, 0, none⟩, ls.length, ls.length⟩ (List.replicate ls.length 0) → Below w.heap.size w w' → K ⟨some ⟨w.heap.size, 0, none⟩, ls.length, ls.length⟩ w') → mkSl PG ty_sl_uint32 (.int .i64 ((l.n : Nat) : Int)) (.int .i64 ((l.n : Nat) : Int)) w K := fun {w K} hk => by
      rw [hln]
      exact mkSl_of sT_sl_uint32 (x0 := (0 : Int)) rfl rfl rfl (by rw [by_sl_uint32]; omega) (by simp only [maxLen]; omega) hk
    refine ⟨nw_blk fun w4 hb4 hB4 hs4 => ⟨?_, ?_⟩, ?_⟩
    · have hB04 : Below w2.heap.size w2 w4 := hBd.trans (hB4.mono (by omega))
      refine apB (b := w2.heap.size) (hE0 hb4 (by omega)) (h.ext hB04) (by omega) (by simp; omega) fun r w5 ho5 hc5 hq5 => ?_
      have hB05 : Below w2.heap.size w2 w5 := hB04.trans (hc5.below (by omega) fun i hi e => by injection e with e; have e : w2.drew.heap.size = i := e; omega)
      have hs5 := hc5.size
      refine mk fun w6 ho6 hB6 => ?_
      have hs6 := hB6.size
      refine nw_blk fun w7 hb7 hB7 hs7 => ?_
      have hB06 : Below w2.heap.size w2 w6 := hB05.trans (hB6.mono hB05.size)
      have ho5' := (ho5.ext hB6).ext hB7
      rw [List.nil_append] at ho5'
      exact rNew_loop h hsm hgood (hB06.trans (hB7.mono hB06.size)) (lo := r) (co := ⟨some ⟨w5.heap.size, 0, none⟩, ls.length, ls.length⟩) hb7 hB06.size ho5' ((ho6.ext hB7).base hB05.size) fun w' ht hB => hK2 hnb _ _ _ w' ht hB
    · have hB04 : Below w2.heap.size w2 w4 := hBd.trans (hB4.mono (by omega))
      refine mk fun w5 ho5 hB5 => ?_
      have hs5 := hB5.size
      have hB05 : Below w2.heap.size w2 w5 := hB04.trans (hB5.mono hB04.size)
      refine apB (b := w2.heap.size) (hE0 (hb4.ext hB5) (by omega)) (h.ext hB05) hB05.size (by simp; omega) fun r w6 ho6 hc6 hq6 => ?_
      have hB06 : Below w2.heap.size w2 w6 := hB05.trans (hc6.below hB05.size fun i hi e => by injection e with e; have e : w2.drew.heap.size = i := e; omega)
      have ho5' := ho5.chg hc6 fun k hk e => by
        injection hk with hk
        injection e with e
        have hk : w4.heap.size = k := hk
        have e : w2.drew.heap.size = k := e
        omega
      refine nw_blk fun w7 hb7 hB7 hs7 => ?_
      rw [List.nil_append] at ho6
      exact rNew_loop h hsm hgood (hB06.trans (hB7.mono hB06.size)) (lo := r) (co := ⟨some ⟨w4.heap.size, 0, none⟩, ls.length, ls.length⟩) hb7 hB06.size (ho6.ext hB7) ((ho5'.ext hB7).base hB04.size) fun w' ht hB => hK2 hnb _ _ _ w' ht hB
    · refine mk fun w4 ho4 hB4 => ?_
      have hB04 : Below w2.heap.size w2 w4 := hBd.trans (hB4.mono (by omega))
      have hs4 := hB04.size
      refine nw_blk fun w5 hb5 hB5 hs5 => ?_
      have hB05 : Below w2.heap.size w2 w5 := hB04.trans (hB5.mono hB04.size)
      refine apB (b := w2.heap.size) (hE0 hb5 hs4) (h.ext hB05) hB05.size (by simp; omega) fun r w6 ho6 hc6 hq6 => ?_
      have hB06 : Below w2.heap.size w2 w6 := hB05.trans (hc6.below hB05.size fun i hi e => by injection e with e; have e : w4.heap.size = i := e; omega)
      have ho4' := (ho4.ext hB5).chg hc6 fun k hk e => by
        have := (ho4.lt k hk).2
        injection e with e
        have e : w4.heap.size = k := e
        omega
      refine nw_blk fun w7 hb7 hB7 hs7 => ?_
      rw [List.nil_append] at ho6
      exact rNew_loop h hsm hgood (hB06.trans (hB7.mono hB06.size)) (lo := r) (co := ⟨some ⟨w2.drew.heap.size, 0, none⟩, ls.length, ls.length⟩) hb7 hB06.size (ho6.ext hB7) ((ho4'.ext hB7).base (by omega)) fun w' ht hB => hK2 hnb _ _ _ w' ht hB)
  by_cases h1 : roomN ls < 32768
  · rw [if_pos h1]
    refine cond_f rfl (cond_t rfl ?_)
    refine cond_of (fun hp => ?_) (fun hz => ?_)
    · have hp := of_decide_eq_true hp
      refine cond_of (fun h1' => ?_) (fun hn1 => ?_)
      · have h1' := eq_of_beq h1'
        cases ho : ((oneN ls : Nat) : Int) == 1 with
        | true =>
          have ho := eq_of_beq ho
          exact cond_f rfl (ok (.inr ⟨h1, .inr ⟨by omega, by omega⟩⟩))
        | false =>
          have ho := beq_eq_false_iff_ne.1 ho
          exact cond_t rfl (bad fun hh => by omega)
      · have hn1 := beq_eq_false_iff_ne.1 hn1
        exact bad fun hh => by omega
    · have hz := of_decide_eq_false hz
      exact ok (.inr ⟨h1, .inl (by omega)⟩)
  · rw [if_neg h1]
    by_cases h2 : 32768 < roomN ls
    · rw [if_pos h2]
      exact cond_t rfl (bad fun hh => by omega)
    · rw [if_neg h2]
      exact cond_f rfl (cond_f rfl (ok (.inl (by omega))))

theorem rCode_spec {w : World} {base g : Nat} {lo co : Slc} {ls : List UInt8} {y : Nat} {x : UInt8} {K : Int → Int → World → Prop} (h : RTab w base g lo co ls) (hx : ls[y]? = some x) (hx0 : 0 < x.toNat)
    (hK : K ((revN (codeK ls x.toNat y) x.toNat : Nat) : Int) (x.toNat : Int) w.drew) : c_phosphorref4_Table_Code (some ⟨g, 0, none⟩) (y : Int) w K := by
  refine call_phosphorref4_Table_Code _ _ ?_
  unfold sh_phosphorref4_Table_Code
  simp only [onPtr_some]
  have hy : y < ls.length := (List.getElem?_eq_some_iff.1 hx).1
  have hbd : Blk w.drew g ty_phosphorref4_Table [.slice lo.a lo.n lo.c, .slice co.a co.n co.c] := h.blk
  have hlod : Own E_uint8 w.drew base lo ls := h.lo
  have hcod : Own E_uint32 w.drew base co (rcodesL ls 16 0) := h.co
  have h15 := h.good.1 x (List.mem_of_getElem? hx)
  have hxs : ∀ h, ls[((y : Int)).toNat]'h = x := fun h => (List.getElem_eq_iff h).2 hx
  refine joinP_of fun J hJ => ?_
  refine cond_f (decide_eq_false (by omega)) ?_
  refine ldSl_of (x := lo) (h.blk.cells 0 _ rfl) ?_
  rw [h.lo.rd.n]
  refine cond_f (decide_eq_false (by omega)) ?_
  refine ldSl_of (x := lo) (h.blk.cells 0 _ rfl) ?_
  refine h.lo.rd.ix (i := (y : Int)) rfl (by omega) (by omega) fun hc => ?_
  rw [hxs] at hc
  refine ldB8 (b := x) hc ?_
  refine cond_f (beq_eq_false_iff_ne.2 (by omega)) (hJ _ _ ?_)
  refine ldSl_of (x := co) (hbd.cells 1 _ rfl) ?_
  refine hcod.rd.ix (i := (y : Int)) rfl (by omega) (by rw [rcodesL_length]; omega) fun hc2 => ?_
  have hcv : ∀ h, (rcodesL ls 16 0)[((y : Int)).toNat]'h = ((codeK ls x.toNat y : Nat) : Int) := fun hh => by
    rw [List.getElem_eq_iff]
    rw [show ((y : Int)).toNat = y from rfl, rcodesL_get hx, if_pos (by omega)]
  rw [hcv] at hc2
  refine ldI_of (x := ((codeK ls x.toNat y : Nat) : Int)) (by simpa using hc2 0 _ rfl) ?_
  refine ldSl_of (x := lo) (hbd.cells 0 _ rfl) ?_
  refine hlod.rd.ix (i := (y : Int)) rfl (by omega) (by omega) fun hc3 => ?_
  rw [hxs] at hc3
  refine ldB8 (b := x) hc3 ?_
  refine ldSl_of (x := lo) (hbd.cells 0 _ rfl) ?_
  refine hlod.rd.ix (i := (y : Int)) rfl (by omega) (by omega) fun hc4 => ?_
  refine ldB8 (b := x) hc3 ?_
  rw [wrap_nat .i64 (x := x.toNat) (by show _ < 2 ^ 63; omega)]
  have hck : codeK ls x.toNat y < 2 ^ 32 := by
    have h1 := kraft h.good.room h15
    have h2 : cntK (ls.take y) x.toNat ≤ cntK ls x.toNat := by
      conv => rhs; rw [← List.take_append_drop y ls]
      rw [cntK_append]; omega
    have h3 : 2 ^ x.toNat ≤ 2 ^ 15 := Nat.pow_le_pow_right (by decide) h15
    unfold codeK
    omega
  refine rReverse_spec hck (by omega) ⟨by simpa using hc3 0 _ rfl, hbd.cells 0 _ rfl, hK⟩
end Go.Proofs.Yteffnkpplhcomaa
