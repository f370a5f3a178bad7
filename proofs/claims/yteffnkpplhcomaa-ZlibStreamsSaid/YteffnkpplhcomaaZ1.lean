/- Adler's sum: the program's, through an interface, and the document's; Big. -/
import Derived.Test.YteffnkpplhcomaaB21
import Derived.Test.YteffnkpplhcomaaSh4
namespace Go.Proofs.Yteffnkpplhcomaa
open Go.Vc Go.RowKit
set_option maxRecDepth 400000

abbrev fn_sums_Adler_Sum : Nat := 193
abbrev fn_sums_Adler_Write : Nat := 194
def adlStep (p : Nat × Nat) (b : UInt8) : Nat × Nat := ((p.1 + b.toNat) % 65521, (p.2 + (p.1 + b.toNat) % 65521) % 65521)
def adl (bs : List UInt8) : Nat × Nat := bs.foldl adlStep (1, 0)
def adlN (bs : List UInt8) : Nat := (adl bs).2 * 65536 + (adl bs).1
theorem adl_lt (bs : List UInt8) : ∀ p : Nat × Nat, p.1 < 65521 → p.2 < 65521 → (bs.foldl adlStep p).1 < 65521 ∧ (bs.foldl adlStep p).2 < 65521 := by
  induction bs with
  | nil => intro p h1 h2; exact ⟨h1, h2⟩
  | cons b r ih => intro p _ _; exact ih _ (Nat.mod_lt _ (by decide)) (Nat.mod_lt _ (by decide))
theorem adlN_lt (bs : List UInt8) : adlN bs < 2 ^ 32 := by
  have h := adl_lt bs (1, 0) (by decide) (by decide)
  have h1 : (adl bs).1 < 65521 := h.1
  have h2 : (adl bs).2 < 65521 := h.2
  unfold adlN
  omega
theorem fold_snoc (p : Nat × Nat) (bs : List UInt8) (b : UInt8) : (bs ++ [b]).foldl adlStep p = adlStep (bs.foldl adlStep p) b := by simp

def adlCells (p : Nat × Nat) : List Value := [.int .u32 (p.1 : Int), .int .u32 (p.2 : Int)]
theorem Rd.blk_lt {T : Type} {E : El T} {w : World} {s : Slc} {xs : List T} (h : Rd E w s xs) (hne : xs ≠ []) : ∀ k, s.blk = some k → k < w.heap.size := fun k hk => by
  obtain ⟨a, ha, rfl⟩ := slk.1 hk
  have hl : 0 < xs.length := List.length_pos_iff.2 hne
  have := h.lt hl
  simpa [Slc.at_, ha] using this
section
variable {w : World}
theorem AdlW_spec {s : Nat} {p : Nat × Nat} {b : Slc} {bs : List UInt8} {K : Int → Value → World → Prop} (hs : Blk w s ty_sums_Adler (adlCells p)) (hp : p.1 < 65521 ∧ p.2 < 65521) (hb : Rd E_uint8 w b bs) (hne : bs ≠ [] → ∀ k, b.blk = some k → k ≠ s) (hl : bs.length ≤ 1000000000000)
    (hK : ∀ w', Blk w' s ty_sums_Adler (adlCells (bs.foldl adlStep p)) → Chg (fun k => k = s) w w' → K ((bs.length : Nat) : Int) .nilIface w') : c_sums_Adler_Write (some ⟨s, 0, none⟩) b w K := by
  refine call_sums_Adler_Write _ _ ?_
  unfold sh_sums_Adler_Write
  simp only [onPtr_some]
  rw [hb.n]
  refine loopP_rule (fun (t : Int × Unit) w1 => ∃ i : Nat, t.1 = i ∧ i ≤ bs.length ∧ Blk w1 s ty_sums_Adler (adlCells ((bs.take i).foldl adlStep p)) ∧ Chg (fun k => k = s) w w1) (fun t => bs.length - t.1.toNat) ⟨0, rfl, by omega, hs, Chg.refl _ _⟩ ?_
  rintro ⟨i, _⟩ w1 ⟨i, rfl, hi, h1, hc⟩ I hI
  dsimp only at *
  refine cond_of (fun hlt => ?_) (fun hge => ?_)
  · have hlt := of_decide_eq_true hlt
    have hil : i < bs.length := by omega
    obtain ⟨x, hx, hxs⟩ := get_of (xs := bs) (k := i) hil
    have hbn : bs ≠ [] := fun e => by rw [e] at hil; exact absurd hil (Nat.not_lt_zero _)
    have hb1 : Rd E_uint8 w1 b bs := hb.chg hc fun a ha e => hne hbn _ (slk.2 ⟨a, ha, rfl⟩) e
    refine hb1.ix (i := (i : Int)) rfl (by omega) (by omega) fun hcx => ?_
    rw [hxs] at hcx
    refine ldB8 (b := x) hcx ?_
    obtain ⟨q, hq⟩ : ∃ q, q = (bs.take i).foldl adlStep p := ⟨_, rfl⟩
    rw [← hq] at h1
    have hql := adl_lt (bs.take i) p hp.1 hp.2
    rw [← hq] at hql
    have h8 := x.toNat_lt
    refine ldI_of (x := (q.1 : Int)) (h1.cells 0 _ rfl) ⟨by decide, ?_⟩
    rw [wrap_nat .u32 (x := x.toNat) (by show _ < 2 ^ 32; omega), show (q.1 : Int) + (x.toNat : Int) = ((q.1 + x.toNat : Nat) : Int) from rfl, wrap_nat .u32 (x := q.1 + x.toNat) (by show _ < 2 ^ 32; omega),
      show (65521 : Int) = ((65521 : Nat) : Int) from rfl, ← Int.ofNat_tmod]
    rw [add_mk]
    refine stK_blk h1 (by simp [adlCells]) fun w2 hb2 hg2 hs2 => ?_
    have hb2 : Blk w2 s ty_sums_Adler (adlCells ((q.1 + x.toNat) % 65521, q.2)) := hb2
    have hb2d : Blk w2.drew s ty_sums_Adler (adlCells ((q.1 + x.toNat) % 65521, q.2)) := hb2
    refine ldI_of (x := (q.2 : Int)) (hb2d.cells 1 _ rfl) ?_
    refine ldI_of (x := (((q.1 + x.toNat) % 65521 : Nat) : Int)) (hb2d.cells 0 _ rfl) ⟨by decide, ?_⟩
    rw [show (q.2 : Int) + (((q.1 + x.toNat) % 65521 : Nat) : Int) = ((q.2 + (q.1 + x.toNat) % 65521 : Nat) : Int) from rfl, wrap_nat .u32 (x := q.2 + (q.1 + x.toNat) % 65521) (by show _ < 2 ^ 32; omega), ← Int.ofNat_tmod]
    rw [add_mk]
    refine stK_blk hb2d (by simp [adlCells]) fun w3 hb3 hg3 hs3 => ?_
    have hb3 : Blk w3 s ty_sums_Adler (adlCells (adlStep q x)) := hb3
    rw [wrap64_id (by omega)]
    refine hI _ _ ⟨i + 1, rfl, by omega, ?_, ?_⟩ (by simp; omega)
    · have e : bs.take (i + 1) = bs.take i ++ [x] := by rw [List.take_add_one, hx]; rfl
      rw [e, fold_snoc, ← hq]
      exact hb3
    · have hBd : Below w2.heap.size w2 w2.drew := (Below.refl _ w2).drew
      exact ((hc.trans (Chg.gg hg2) fun i _ hi => hi).trans (Chg.of_ext (S := fun k => k = s) hBd) fun i _ hi => hi).trans (Chg.gg hg3) fun i _ hi => hi
  · have hge := of_decide_eq_false hge
    have : i = bs.length := by omega
    subst this
    rw [List.take_length] at h1
    exact hK w1 h1 hc
theorem AdlS_spec {s : Nat} {p : Nat × Nat} {K : Int → World → Prop} (hs : Blk w s ty_sums_Adler (adlCells p)) (hp : p.1 < 65521 ∧ p.2 < 65521) (hK : K ((p.2 * 65536 + p.1 : Nat) : Int) w.drew) : c_sums_Adler_Sum (some ⟨s, 0, none⟩) w K := by
  refine call_sums_Adler_Sum _ ?_
  unfold sh_sums_Adler_Sum
  simp only [onPtr_some]
  have hsd : Blk w.drew s ty_sums_Adler (adlCells p) := hs
  refine ldI_of (x := (p.2 : Int)) (hsd.cells 1 _ rfl) ⟨by decide, ?_⟩
  refine ldI_of (x := (p.1 : Int)) (hsd.cells 0 _ rfl) ?_
  rw [show min ((16 : Int)).toNat IntKind.u32.bits = 16 by decide, mul_pow_nat, wrap_nat .u32 (x := p.2 * 2 ^ 16) (by show _ < 2 ^ 32; omega), bits_or .u32 (by show _ < 2 ^ 32; omega) (by show _ < 2 ^ 32; omega)]
  have e : p.2 * 2 ^ 16 ||| p.1 = p.2 * 65536 + p.1 := by
    rw [Nat.or_comm, Nat.mul_comm, add_or (by omega)]
    omega
  rw [e]
  exact hK
theorem rAdler_spec {b : Slc} {bs : List UInt8} {K : Int → World → Prop} (hb : Rd E_uint8 w b bs) (hl : bs.length ≤ 1000000000000) (hK : K ((adlN bs : Nat) : Int) w) : c_phosphorref2_Adler b w K := by
  refine call_phosphorref2_Adler _ ?_
  unfold sh_phosphorref2_Adler
  rw [hb.n]
  refine loopP_rule (fun (t : Int × Int × Int × Unit) w1 => ∃ i : Nat, t.2.2.1 = i ∧ i ≤ bs.length ∧ t.1 = ((adl (bs.take i)).1 : Int) ∧ t.2.1 = ((adl (bs.take i)).2 : Int) ∧ w1 = w) (fun t => bs.length - t.2.2.1.toNat) ⟨0, rfl, by omega, rfl, rfl, rfl⟩ ?_
  rintro ⟨a, c, i, _⟩ w1 ⟨i, rfl, hi, rfl, rfl, rfl⟩ I hI
  dsimp only at *
  obtain ⟨q, hq⟩ : ∃ q, q = adl (bs.take i) := ⟨_, rfl⟩
  rw [← hq]
  have hql := adl_lt (bs.take i) (1, 0) (by decide) (by decide)
  change (adl (bs.take i)).1 < _ ∧ (adl (bs.take i)).2 < _ at hql
  rw [← hq] at hql
  refine cond_of (fun hlt => ?_) (fun hge => ?_)
  · have hlt := of_decide_eq_true hlt
    have hil : i < bs.length := by omega
    obtain ⟨x, hx, hxs⟩ := get_of (xs := bs) (k := i) hil
    have h8 := x.toNat_lt
    refine hb.ix (i := (i : Int)) rfl (by omega) (by omega) fun hcx => ?_
    rw [hxs] at hcx
    refine ldB8 (b := x) hcx ⟨by decide, by decide, ?_⟩
    rw [wrap_nat .u32 (x := x.toNat) (by show _ < 2 ^ 32; omega), show (q.1 : Int) + (x.toNat : Int) = ((q.1 + x.toNat : Nat) : Int) from rfl, wrap_nat .u32 (x := q.1 + x.toNat) (by show _ < 2 ^ 32; omega),
      show (65521 : Int) = ((65521 : Nat) : Int) from rfl, ← Int.ofNat_tmod, show (q.2 : Int) + (((q.1 + x.toNat) % 65521 : Nat) : Int) = ((q.2 + (q.1 + x.toNat) % 65521 : Nat) : Int) from rfl, wrap_nat .u32 (x := q.2 + (q.1 + x.toNat) % 65521) (by show _ < 2 ^ 32; omega), ← Int.ofNat_tmod, wrap64_id (by omega)]
    have e : adl (bs.take (i + 1)) = adlStep q x := by
      rw [List.take_add_one, hx, hq]
      exact fold_snoc _ _ _
    refine hI _ _ ⟨i + 1, rfl, by omega, ?_, ?_, rfl⟩ (by simp; omega)
    · dsimp only; rw [e]; rfl
    · dsimp only; rw [e]; rfl
  · have hge := of_decide_eq_false hge
    have : i = bs.length := by omega
    subst this
    rw [List.take_length] at hq
    refine ⟨by decide, ?_⟩
    rw [show min ((16 : Int)).toNat IntKind.u32.bits = 16 by decide, mul_pow_nat, wrap_nat .u32 (x := q.2 * 2 ^ 16) (by show _ < 2 ^ 32; omega), bits_or .u32 (by show _ < 2 ^ 32; omega) (by show _ < 2 ^ 32; omega)]
    have e : q.2 * 2 ^ 16 ||| q.1 = adlN bs := by
      rw [Nat.or_comm, Nat.mul_comm, add_or (by omega), hq]
      unfold adlN
      omega
    rw [e]
    exact hK

/-! ### Through the interface -/
theorem run_adlW (s : Option Addr) (w : World) : (method (PG.types.size + Made.depth) ty_p_sums_Adler (.pointer s) "Write").run PG w = .ok (fn_sums_Adler_Write, .pointer s) w := pureRun_run _ (by kernel_rfl) w
theorem run_adlS (s : Option Addr) (w : World) : (method (PG.types.size + Made.depth) ty_p_sums_Adler (.pointer s) "Sum").run PG w = .ok (fn_sums_Adler_Sum, .pointer s) w := pureRun_run _ (by kernel_rfl) w
theorem callW {s : Option Addr} {b : Slc} {K : Int → Value → World → Prop} (h : c_sums_Adler_Write s b w K) : callI C (.iface ty_p_sums_Adler (.pointer s)) "Write" [.slice b.a b.n b.c] [(Kind.int .i64), Kind.raw] w K :=
  ⟨_, _, _, _, rfl, run_adlW s w, by kernel_rfl, h⟩
theorem callS {s : Option Addr} {K : Int → World → Prop} (h : c_sums_Adler_Sum s w K) : callI C (.iface ty_p_sums_Adler (.pointer s)) "Sum" [] [(Kind.int .u32)] w K :=
  ⟨_, _, _, _, rfl, run_adlS s w, by kernel_rfl, h⟩
/-- Of one part. -/
theorem Of_spec {s g : Nat} {b : Slc} {bs : List UInt8} {K : Int → World → Prop} (hs : Blk w s ty_sums_Adler (adlCells (1, 0))) (hg : Blk w g ty_sl_uint8 [.slice b.a b.n b.c]) (hb : Rd E_uint8 w b bs) (hne : bs ≠ [] → ∀ k, b.blk = some k → k ≠ s) (hl : bs.length ≤ 1000000000000)
    (hK : ∀ w', Chg (fun k => k = s) w w' → K ((adlN bs : Nat) : Int) w') : c_sums_Of_sums_Adler (some ⟨s, 0, none⟩) ⟨some ⟨g, 0, none⟩, 1, 1⟩ w K := by
  refine call_sums_Of_sums_Adler _ _ ?_
  unfold sh_sums_Of_sums_Adler
  have hgs : g ≠ s := hg.ne_t hs (by decide)
  refine loopP_rule (fun (t : Int × Unit) w1 => (t.1 = 0 ∧ w1 = w) ∨ (t.1 = 1 ∧ Blk w1 s ty_sums_Adler (adlCells (adl bs)) ∧ Chg (fun k => k = s) w w1)) (fun t => 1 - t.1.toNat) (.inl ⟨rfl, rfl⟩) ?_
  rintro ⟨i, _⟩ w1 h I hI
  dsimp only at *
  rcases h with ⟨rfl, rfl⟩ | ⟨rfl, h1, hc⟩
  · refine cond_t rfl ?_
    refine ixK_at rfl (by omega) (by show (0 : Int) < ((1 : Nat) : Int); omega) ?_
    refine ldSl_of (x := b) ?_ ?_
    · have := hg.cells 0 _ rfl
      simpa [Slc.at_] using this
    · refine callW (AdlW_spec hs (by decide) hb hne hl fun w2 hb2 hc2 => ?_)
      exact hI _ _ (.inr ⟨rfl, hb2, hc2⟩) (by decide)
  · refine cond_f rfl ?_
    have hl2 := adl_lt bs (1, 0) (by decide) (by decide)
    refine callS (AdlS_spec h1 hl2 ?_)
    have hBd : Below w1.heap.size w1 w1.drew := (Below.refl _ w1).drew
    exact hK _ (hc.trans (Chg.of_ext (S := fun k => k = s) hBd) fun i _ hi => hi)

/-- Four bytes as a number, the first one the highest. -/
def bigN (bs : List UInt8) : Nat := bs.foldl (fun n b => n * 256 + b.toNat) 0
theorem big4 (a b c d : UInt8) : bigN [a, b, c, d] = ((a.toNat * 256 + b.toNat) * 256 + c.toNat) * 256 + d.toNat := by simp [bigN]
theorem Big_spec {b : Slc} {x0 x1 x2 x3 : UInt8} {K : Int → World → Prop} (hb : Rd E_uint8 w b [x0, x1, x2, x3]) (hK : K ((bigN [x0, x1, x2, x3] : Nat) : Int) w.drew) : c_bits_Big b w K := by
  refine call_bits_Big _ ?_
  unfold sh_bits_Big
  rw [hb.n]
  have hd : Rd E_uint8 w.drew b [x0, x1, x2, x3] := hb.drew
  have a0 := x0.toNat_lt
  have a1 := x1.toNat_lt
  have a2 := x2.toNat_lt
  have a3 := x3.toNat_lt
  refine cond_f rfl ?_
  refine hd.ix (i := 0) rfl (by omega) (by show (0 : Int) < ((4 : Nat) : Int); omega) fun h0 => ldB8 (b := x0) h0 ⟨by decide, ?_⟩
  refine hd.ix (i := 1) rfl (by omega) (by show (1 : Int) < ((4 : Nat) : Int); omega) fun h1 => ldB8 (b := x1) h1 ⟨by decide, ?_⟩
  refine hd.ix (i := 2) rfl (by omega) (by show (2 : Int) < ((4 : Nat) : Int); omega) fun h2 => ldB8 (b := x2) h2 ⟨by decide, ?_⟩
  refine hd.ix (i := 3) rfl (by omega) (by show (3 : Int) < ((4 : Nat) : Int); omega) fun h3 => ldB8 (b := x3) h3 ?_
  rw [show min ((24 : Int)).toNat IntKind.u32.bits = 24 by decide, show min ((16 : Int)).toNat IntKind.u32.bits = 16 by decide, show min ((8 : Int)).toNat IntKind.u32.bits = 8 by decide]
  rw [wrap_nat .u32 (x := x0.toNat) (by show _ < 2 ^ 32; omega), wrap_nat .u32 (x := x1.toNat) (by show _ < 2 ^ 32; omega), wrap_nat .u32 (x := x2.toNat) (by show _ < 2 ^ 32; omega), wrap_nat .u32 (x := x3.toNat) (by show _ < 2 ^ 32; omega),
    mul_pow_nat, mul_pow_nat, mul_pow_nat, wrap_nat .u32 (x := x0.toNat * 2 ^ 24) (by show _ < 2 ^ 32; omega), wrap_nat .u32 (x := x1.toNat * 2 ^ 16) (by show _ < 2 ^ 32; omega), wrap_nat .u32 (x := x2.toNat * 2 ^ 8) (by show _ < 2 ^ 32; omega)]
  have e1 : x0.toNat * 2 ^ 24 ||| x1.toNat * 2 ^ 16 = x0.toNat * 2 ^ 24 + x1.toNat * 2 ^ 16 := by
    rw [Nat.or_comm, Nat.mul_comm x0.toNat, add_or (by omega)]; omega
  have e2 : (x0.toNat * 2 ^ 24 + x1.toNat * 2 ^ 16) ||| x2.toNat * 2 ^ 8 = x0.toNat * 2 ^ 24 + x1.toNat * 2 ^ 16 + x2.toNat * 2 ^ 8 := by
    rw [show x0.toNat * 2 ^ 24 + x1.toNat * 2 ^ 16 = 2 ^ 16 * (x0.toNat * 2 ^ 8 + x1.toNat) by omega, Nat.or_comm, add_or (by omega)]; omega
  have e3 : (x0.toNat * 2 ^ 24 + x1.toNat * 2 ^ 16 + x2.toNat * 2 ^ 8) ||| x3.toNat = x0.toNat * 2 ^ 24 + x1.toNat * 2 ^ 16 + x2.toNat * 2 ^ 8 + x3.toNat := by
    rw [show x0.toNat * 2 ^ 24 + x1.toNat * 2 ^ 16 + x2.toNat * 2 ^ 8 = 2 ^ 8 * (x0.toNat * 2 ^ 16 + x1.toNat * 2 ^ 8 + x2.toNat) by omega, Nat.or_comm, add_or (by omega)]; omega
  rw [bits_or .u32 (by show _ < 2 ^ 32; omega) (by show _ < 2 ^ 32; omega), e1, bits_or .u32 (by show _ < 2 ^ 32; omega) (by show _ < 2 ^ 32; omega), e2, bits_or .u32 (by show _ < 2 ^ 32; omega) (by show _ < 2 ^ 32; omega), e3]
  rw [big4] at hK
  rw [show x0.toNat * 2 ^ 24 + x1.toNat * 2 ^ 16 + x2.toNat * 2 ^ 8 + x3.toNat = ((x0.toNat * 256 + x1.toNat) * 256 + x2.toNat) * 256 + x3.toNat by omega]
  exact hK
end
end Go.Proofs.Yteffnkpplhcomaa
