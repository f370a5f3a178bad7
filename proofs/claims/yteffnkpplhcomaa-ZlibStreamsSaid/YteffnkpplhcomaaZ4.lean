/- The laws of zlib: known, back, fronts. -/
import Derived.Test.YteffnkpplhcomaaZ3
import Derived.Test.YteffnkpplhcomaaC3
import Derived.Lib.SlBytesConst
namespace Go.Proofs.Yteffnkpplhcomaa
open Go.Vc Go.RowKit
set_option maxRecDepth 400000

/-- What Pack lays between head and sum. -/
def isBody (fixed : Bool) (body bs : List UInt8) : Prop := (fixed = false → body = storeL bs) ∧ (fixed = true → le body = (fixedN bs).1 ∧ body.length = ((fixedN bs).2 + 7) / 8)
theorem body_run {fixed : Bool} {body bs tail : List UInt8} {most : Nat} (h : isBody fixed body bs) (hm : bs.length ≤ most) : ∃ c' p', Ch most (body ++ tail) cfg0 0 c' p' ∧ c'.mode = 5 ∧ c'.hist = bs ∧ (p' + 7) / 8 = body.length := by
  cases fixed with
  | true =>
    obtain ⟨h1, h2⟩ := h.2 rfl
    obtain ⟨c', hch, h5, hh⟩ := run_fixed (tail := tail) h1 h2 hm
    exact ⟨c', _, hch, h5, hh, h2.symm⟩
  | false =>
    have h1 := h.1 rfl
    subst h1
    obtain ⟨c', hch, h5, hh⟩ := run_store (most := most) (B := storeL bs ++ tail) (tail := tail) bs.length bs 0 cfg0 (Nat.le_refl _) (by simp) rfl (by show 0 + bs.length ≤ _; omega)
    exact ⟨c', _, hch, h5, by rw [hh]; rfl, by omega⟩
theorem body_le {fixed : Bool} {body bs : List UInt8} (h : isBody fixed body bs) : body.length ≤ 9 * bs.length + 20 ∧ 0 < body.length := by
  cases fixed with
  | true =>
    obtain ⟨h1, h2⟩ := h.2 rfl
    have := fixedN_le bs
    have h3 : 3 ≤ (bytesN bs).2 := (foldN_goes bs (3, 3)).1
    have e : (fixedN bs).2 = (bytesN bs).2 + kN 256 := rfl
    omega
  | false =>
    have h1 := h.1 rfl
    subst h1
    have := storeL_length _ bs (Nat.le_refl _)
    have hp : 0 < (storeL bs).length := by
      rw [storeL]
      split <;> simp [headS]
    omega
theorem tail_at {c : Cfg} {p : Nat} {body s more : List UInt8} (h5 : c.mode = 5) (hp : (p + 7) / 8 = body.length) (hs : s.length = 4) : tailL c p (body ++ (s ++ more)) = s := by
  rw [tailL, if_pos h5, hp, List.drop_left, List.take_append_of_le_length (by omega), List.take_of_length_le (by omega)]
theorem be4_length (n : Nat) : (be4 n).length = 4 := rfl
theorem packed_drop (body s more : List UInt8) : ([120, 1] ++ body ++ s ++ more).drop 2 = body ++ (s ++ more) := by
  simp
theorem packed_head (body s more : List UInt8) : headOK ([120, 1] ++ body ++ s ++ more) = true := by
  show (zh1 120 && zh2 120 1) = true
  decide
theorem zerr_of {body s more : List UInt8} {c : Cfg} {p : Nat} {bs : List UInt8} (h5 : c.mode = 5) (hp : (p + 7) / 8 = body.length) (hs : s.length = 4) (hh : c.hist = bs) : zerr ([120, 1] ++ body ++ s ++ more) c p .short = if bigN s = adlN bs then 0 else 4 := by
  rw [zerr.eq_def, packed_head, if_neg (by decide)]
  show zend _ c p = _
  rw [zend, packed_drop, tail_at h5 hp hs, if_pos hs, hh]

section
variable {w : World}
/-- A packed stream, whole, and bytes behind. -/
theorem Unpack_whole {b : Slc} {body s more bs : List UInt8} {fixed : Bool} {most : Nat} {K : Slc → Int → Int → World → Prop} (hr : Rd E_uint8 w b ([120, 1] ++ body ++ s ++ more)) (hrh : ∀ k, b.blk = some k → k < w.heap.size) (hbd : isBody fixed body bs) (hs : s.length = 4) (hm : bs.length ≤ most) (hmm : most ≤ 1073741824) (hbl : bs.length ≤ 100000) (hml : more.length ≤ 100000)
    (hK1 : bigN s = adlN bs → ∀ o w', Own E_uint8 w' w.heap.size o bs → Below w.heap.size w w' → K o ((6 + body.length : Nat) : Int) 0 w')
    (hK2 : bigN s ≠ adlN bs → ∀ w', Below w.heap.size w w' → K nilS 0 4 w') : c_zlib_Unpack b most w K := by
  obtain ⟨c', p', hch, h5, hh, hp⟩ := body_run (tail := s ++ more) hbd hm
  have hble := body_le hbd
  have ez := zerr_of (more := more) h5 hp hs hh
  refine Unpack_spec hmm hr hrh (by simp only [List.length_append, List.length_cons, List.length_nil]; omega) (c1 := c') (a1 := p') (r0 := .short) (by rw [packed_drop]; exact hch) (step1_five h5) (by intro _ _ e; cases e) (fun e o w' ho hB => ?_) (fun n e hn w' hB => ?_)
  · rw [hp]
    rw [hh] at ho
    refine hK1 ?_ o w' ho hB
    rw [ez] at e
    by_cases h : bigN s = adlN bs
    · exact h
    · rw [if_neg h] at e; cases e
  · rw [ez] at e
    by_cases h : bigN s = adlN bs
    · rw [if_pos h] at e; omega
    · rw [if_neg h] at e; subst e; exact hK2 h w' hB

/-- []byte of a constant. -/
theorem lits_bytes {vs : List Value} {n : Nat} {bs : List UInt8} {K : Slc → World → Prop} (hv : vs = bs.map fun b => Value.int .u8 (b.toNat : Int)) (hn : n = bs.length) (hl : bs.length ≤ 1000000)
    (hK : ∀ s w', Rd E_uint8 w' s bs → s.blk = some w.heap.size → Below w.heap.size w w' → w'.heap.size = w.heap.size + 1 → K s w') :
    nw ty_uint8 vs w fun t w1 => runK1 PG (convert ty_sl_uint8 ty_sl_uint8 (.slice (some t) n n)) Kind.slice w1 K := by
  subst hn hv
  refine ⟨⟨some ⟨w.heap.size, 0, none⟩, bs.length, bs.length⟩, _, Lib.run_convert_bytes_const w ty_sl_uint8 ty_uint8 _ _ _ (by kernel_rfl) (by kernel_rfl), hK _ _ ⟨rfl, Nat.le_refl _, by show bs.length ≤ maxLen; simp only [maxLen]; omega, fun _ => rfl, fun i x hx j v hj => ?_⟩ rfl ((Below.refl _ w).alloc (Nat.le_refl _) _) (by simp)⟩
  have hj0 : j = 0 := by
    have := (List.getElem?_eq_some_iff.1 hj).1
    simp [E_uint8] at this
    exact this
  subst hj0
  have hv : v = .int .u8 (x.toNat : Int) := by
    simp [E_uint8] at hj
    exact hj.symm
  subst hv
  have hi : i < bs.length := (List.getElem?_eq_some_iff.1 hx).1
  show World.cell? _ (((⟨w.heap.size, 0, none⟩ : Addr).add (i * 1)).add 0) = _
  rw [add_zero, add_mk, Nat.mul_one, Nat.zero_add]
  have hnew : ∀ o : Obj, (w.alloc o).heap[w.heap.size]? = some o := fun o => by
    show (w.heap.push o)[w.heap.size]? = _
    simp
  unfold World.cell?
  dsimp only
  rw [hnew]
  show (bs.map fun b => Value.int .u8 (b.toNat : Int)).toArray[i]? = _
  rw [List.getElem?_toArray, List.getElem?_map, hx]
  rfl
theorem zknown_spec {K : Bool → World → Prop} (hK : ∀ w', Below w.heap.size w w' → K true w') : c_phosphorlaw6_known w K := by
  refine call_phosphorlaw6_known ?_
  unfold sh_phosphorlaw6_known
  refine lits_bytes (bs := [97, 98, 99]) rfl rfl (by decide) fun s1 w1 r1 hsb hB1 hs1 => ?_
  refine Pack_spec r1 (by decide) fun p body w2 hp hb0 hb1' hB2 => ?_
  have hs2 := hB2.size
  have hbody : body = storeL [97, 98, 99] := hb0 rfl
  have hdone : isBody false body [97, 98, 99] := ⟨hb0, hb1'⟩
  have hp' : Rd E_uint8 w2 p ([120, 1] ++ body ++ be4 (adlN [97, 98, 99]) ++ []) := by rw [List.append_nil]; exact hp.rd
  refine Unpack_whole (most := 3) hp' (fun k hk => (hp.lt k hk).2) hdone rfl (by decide) (by decide) (by decide) (by decide) (fun _ o w3 ho hB3 => ?_) (fun h => absurd (big_be4 (adlN_lt _)) h)
  have hs3 := hB3.size
  refine nw_blk fun w4 hb4 hB4 hs4 => ?_
  have r4 : Rd E_uint8 w4 ⟨some ⟨w3.heap.size, 0, none⟩, 2, 2⟩ [120, 2] := rd_lits (E := E_uint8) (ys := [120, 2]) hb4 (by decide) rfl
  refine Unpack_spec (most := 3) (c1 := cfg0) (a1 := 0) (r0 := .short) (by decide) r4 (fun k hk => by injection hk with hk; have hk : w3.heap.size = k := hk; omega) (by decide) (.refl _ _) rfl (by intro _ _ e; cases e) (fun e => absurd e (by decide)) (fun n e hn w5 hB5 => ?_)
  have e3 : n = 3 := by rw [← e]; decide
  subst e3
  have hB35 : Below w3.heap.size w3 w5 := hB4.trans (hB5.mono (by omega))
  have hB25 : Below w2.heap.size w2 w5 := hB3.trans (hB35.mono hs3)
  have hB05 : Below w.heap.size w w5 := hB1.trans ((hB2.mono (by omega)).trans (hB25.mono (by omega)))
  refine ⟨_, _, run_bytes_strB (hp.ext hB25).rd, ?_⟩
  dsimp only
  have epk : packL body [97, 98, 99] = [120, 1, 1, 3, 0, 252, 255, 97, 98, 99, 2, 77, 1, 39] := by
    rw [hbody, storeL, dif_pos (by decide)]
    decide +kernel
  have elen : 6 + body.length = (packL body [97, 98, 99]).length := by
    rw [packL, List.length_append, List.length_append, be4_length]
    show 6 + body.length = 2 + body.length + 4
    omega
  rw [strB_toList, epk]
  refine cond_t (by decide +kernel) ?_
  refine ⟨_, _, run_bytes_strB (ho.ext hB35).rd, ?_⟩
  dsimp only
  rw [strB_toList]
  refine cond_t (by decide +kernel) ?_
  rw [hp.rd.n, elen]
  exact cond_t (by rw [beq_self_eq_true]) (cond_t rfl (hK w5 hB05))

theorem and31 (x : Int) : bitsR .and .i64 x 31 = (((x % 32).toNat : Nat) : Int) := by
  show IntKind.i64.wrap ((BitVec.ofInt 64 x &&& BitVec.ofInt 64 31).toNat : Int) = _
  have e : (BitVec.ofInt 64 x &&& BitVec.ofInt 64 31).toNat = (x % 32).toNat := by
    rw [BitVec.toNat_and, BitVec.toNat_ofInt, show (BitVec.ofInt 64 31).toNat = 31 from rfl, Nat.and_two_pow_sub_one_eq_mod _ 5]
    have : ((2 ^ 64 : Nat) : Int) = 18446744073709551616 := by decide
    rw [this]
    omega
  rw [e]
  exact wrap_nat .i64 (by show _ < 2 ^ 63; omega)
theorem big_inj {a b : List UInt8} (ha : a.length = 4) (hb : b.length = 4) (h : bigN a = bigN b) : a = b := by
  match a, ha, b, hb with
  | [a0, a1, a2, a3], _, [b0, b1, b2, b3], _ =>
    rw [big4, big4] at h
    have h0 := a0.toNat_lt
    have h1 := a1.toNat_lt
    have h2 := a2.toNat_lt
    have h3 := a3.toNat_lt
    have g0 := b0.toNat_lt
    have g1 := b1.toNat_lt
    have g2 := b2.toNat_lt
    have g3 := b3.toNat_lt
    rw [UInt8.toNat.inj (show a0.toNat = b0.toNat by omega), UInt8.toNat.inj (show a1.toNat = b1.toNat by omega), UInt8.toNat.inj (show a2.toNat = b2.toNat by omega), UInt8.toNat.inj (show a3.toNat = b3.toNat by omega)]
theorem xor_bit_ne : ∀ x : Nat, x < 256 → ∀ k : Nat, k < 8 → x ^^^ 2 ^ k ≠ x ∧ x ^^^ 2 ^ k < 256 := by decide +kernel
theorem set_behind (a s : List UInt8) (i : Nat) (y : UInt8) : (a ++ s).set (a.length + i) y = a ++ s.set i y := by
  rw [List.set_append_right _ _ (by omega), Nat.add_sub_cancel_left]

theorem zback_law {b more : Slc} {bs mo : List UInt8} {fixed : Bool} {bit : Int} {K : Bool → World → Prop} (hb : Rd E_uint8 w b bs) (hmo : Rd E_uint8 w more mo) (hK : ∀ w', Below w.heap.size w w' → K true w') : c_phosphorlaw6_ZlibBack b more fixed bit w K := by
  refine call_phosphorlaw6_ZlibBack _ _ _ _ ?_
  unfold sh_phosphorlaw6_ZlibBack
  refine zknown_spec fun w1 hB1 => cond_f rfl ?_
  have hs1 := hB1.size
  rw [hb.n, hmo.n]
  refine joinP_of fun J1 hJ1 => ?_
  refine cond_of (fun _ => hK w1 hB1) (fun hn => cond_of (fun _ => hK w1 hB1) (fun hm => hJ1 _ _ ?_))
  have hn : bs.length ≤ 4096 := by have := of_decide_eq_false hn; omega
  have hm : mo.length ≤ 4096 := by have := of_decide_eq_false hm; omega
  clear hJ1
  refine Pack_spec (hb.ext hB1) (by omega) fun p body w2 hp hb0 hb1 hB2 => ?_
  have hbd : isBody fixed body bs := ⟨hb0, hb1⟩
  have hble := body_le hbd
  have hs2 := hB2.size
  have hB02 : Below w.heap.size w w2 := hB1.trans (hB2.mono hs1)
  have hpl : (packL body bs).length = body.length + 6 := by
    rw [packL, List.length_append, List.length_append, be4_length]
    show 2 + body.length + 4 = _
    omega
  have hpn := hp.rd.n
  rw [hpn, hpl]
  refine cond_f (decide_eq_false (by omega)) ?_
  refine nw_blk fun w3 hb3 hB3 hs3 => ?_
  refine apB (b := w2.heap.size) (own_empty (E := E_uint8) hb3 (Nat.le_refl _)) (hp.ext hB3).rd (by omega) (by simp; omega) fun r4 w4 ho4 hc4 hq4 => ?_
  have hB24 : Below w2.heap.size w2 w4 := hB3.trans (hc4.below (by omega) fun i hi e => by injection e with e; have e : w2.heap.size = i := e; omega)
  rw [List.nil_append] at ho4
  refine apB ho4 (hmo.ext (hB02.trans (hB24.mono (by omega)))) (by have := hB24.size; omega) (by omega) fun r5 w5 ho5 hc5 hq5 => ?_
  have hB25 : Below w2.heap.size w2 w5 := hB24.trans (hc5.below (by have := hB24.size; omega) fun i hi e => by have := (ho4.lt i e).1; omega)
  have hs25 := hB25.size
  refine Unpack_whole (most := bs.length) (body := body) (s := be4 (adlN bs)) (more := mo) ho5.rd (fun k hk => (ho5.lt k hk).2) hbd rfl (Nat.le_refl _) (by omega) (by omega) (by omega) (fun _ o w6 ho6 hB6 => ?_) (fun h => absurd (big_be4 (adlN_lt _)) h)
  have hB26 : Below w2.heap.size w2 w6 := hB25.trans (hB6.mono hs25)
  have hs26 := hB26.size
  refine nw_blk fun w7 hb7 hB7 hs7 => ?_
  have hB27 : Below w2.heap.size w2 w7 := hB26.trans (hB7.mono hs26)
  refine apB (b := w6.heap.size) (own_empty (E := E_uint8) hb7 (Nat.le_refl _)) (hp.ext hB27).rd (by omega) (by simp; omega) fun q w8 hq8 hc8 _ => ?_
  have hB68 : Below w6.heap.size w6 w8 := hB7.trans (hc8.below (by omega) fun i hi e => by injection e with e; have e : w6.heap.size = i := e; omega)
  have hs68 := hB68.size
  rw [List.nil_append] at hq8
  rw [and31]
  obtain ⟨v, hv⟩ : ∃ v, v = (bit % 32).toNat := ⟨_, rfl⟩
  have hv32 : v < 32 := by omega
  rw [← hv]
  have e1 : IntKind.i64.wrap ((v : Int).tdiv (8 : Int)) = ((v / 8 : Nat) : Int) := by
    rw [show (8 : Int) = ((8 : Nat) : Int) from rfl, ← Int.ofNat_tdiv, wrap64_id (by omega)]
  have e2 : (v : Int).tmod (8 : Int) = ((v % 8 : Nat) : Int) := by rw [show (8 : Int) = ((8 : Nat) : Int) from rfl, ← Int.ofNat_tmod]
  have e3 : IntKind.i64.wrap ((IntKind.i64.wrap (((body.length + 6 : Nat) : Int) - (4 : Int))) + ((v / 8 : Nat) : Int)) = ((2 + body.length + v / 8 : Nat) : Int) := by
    rw [wrap64_id (x := ((body.length + 6 : Nat) : Int) - (4 : Int)) (by omega), wrap64_id (by omega)]
    omega
  rw [e1, e2, e3, wrap_nat .u64 (x := v % 8) (by show _ < 2 ^ 64; omega)]
  refine ⟨by decide, by decide, ?_⟩
  have hpa : ([120, 1] ++ body).length = 2 + body.length := by rw [List.length_append]; rfl
  obtain ⟨x, hx⟩ : ∃ x, (be4 (adlN bs))[v / 8]? = some x := ⟨_, List.getElem?_eq_getElem (by rw [be4_length]; omega)⟩
  have hxp : (packL body bs)[2 + body.length + v / 8]? = some x := by
    rw [packL, List.getElem?_append_right (by omega), hpa, Nat.add_sub_cancel_left]
    exact hx
  have hxv : ∀ h, (packL body bs)[(((2 + body.length + v / 8 : Nat) : Int)).toNat]'h = x := fun h => (List.getElem_eq_iff h).2 hxp
  refine hq8.rd.ix (i := ((2 + body.length + v / 8 : Nat) : Int)) rfl (by omega) (by omega) fun hc => ?_
  rw [hxv] at hc
  refine ldB8 (b := x) hc ⟨by decide, by omega, ?_⟩
  have em : min (((v % 8 : Nat) : Int)).toNat IntKind.u8.bits = v % 8 := by show min (v % 8) 8 = v % 8; omega
  have hx8 := x.toNat_lt
  have hpw : 2 ^ (v % 8) ≤ 2 ^ 7 := Nat.pow_le_pow_right (by decide) (by omega)
  obtain ⟨ne1, lt1⟩ := xor_bit_ne x.toNat hx8 (v % 8) (by omega)
  rw [em, show ((1 : Int) * 2 ^ (v % 8)) = ((2 ^ (v % 8) : Nat) : Int) by simp, wrap_nat .u8 (x := 2 ^ (v % 8)) (by show _ < 2 ^ 8; omega), bits_xor .u8 (by show _ < 2 ^ 8; omega) (by show _ < 2 ^ 8; omega)]
  have hy : (UInt8.ofNat (x.toNat ^^^ 2 ^ (v % 8))).toNat = x.toNat ^^^ 2 ^ (v % 8) := by rw [UInt8.toNat_ofNat']; omega
  refine hq8.rd.ix (i := ((2 + body.length + v / 8 : Nat) : Int)) rfl (by omega) (by omega) fun _ => ?_
  refine hq8.st0 (x := x) (y := UInt8.ofNat (x.toNat ^^^ 2 ^ (v % 8))) hxp (by show [Value.int .u8 _] = _; rw [hy]) fun w9 hq9 hg9 hs9 => ?_
  rw [show 2 + body.length + v / 8 = ([120, 1] ++ body).length + v / 8 by rw [hpa], packL, set_behind] at hq9
  have hc9 : Chg (fun j => q.blk = some j) w8 w9 := Chg.of_grown hg9 fun j hj => hj
  have hB69 : Below w6.heap.size w6 w9 := hB68.trans (hc9.below hs68 fun i hi e => by have := (hq8.lt i e).1; omega)
  obtain ⟨s', hs'⟩ : ∃ s', s' = (be4 (adlN bs)).set (v / 8) (UInt8.ofNat (x.toNat ^^^ 2 ^ (v % 8))) := ⟨_, rfl⟩
  rw [← hs'] at hq9
  have hs4 : s'.length = 4 := by rw [hs', List.length_set, be4_length]
  have hne : bigN s' ≠ adlN bs := fun e => by
    rw [← big_be4 (adlN_lt bs)] at e
    have e' := big_inj hs4 (be4_length _) e
    have e'' : s'[v / 8]? = some x := by rw [e']; exact hx
    rw [hs', List.getElem?_set_self (by rw [be4_length]; omega)] at e''
    have e3 := Option.some.inj e''
    have : (UInt8.ofNat (x.toNat ^^^ 2 ^ (v % 8))).toNat = x.toNat := by rw [e3]
    rw [hy] at this
    exact ne1 this
  have hq9' : Rd E_uint8 w9 q ([120, 1] ++ body ++ s' ++ []) := by rw [List.append_nil]; exact hq9.rd
  refine Unpack_whole (most := bs.length) (body := body) (s := s') (more := []) hq9' (fun k hk => (hq9.lt k hk).2) hbd hs4 (Nat.le_refl _) (by omega) (by omega) (by simp) (fun h => absurd h hne) (fun _ w10 hB10 => ?_)
  have hs69 := hB69.size
  have hB610 : Below w6.heap.size w6 w10 := hB69.trans (hB10.mono hs69)
  have hB010 : Below w.heap.size w w10 := hB02.trans ((hB26.mono (by omega)).trans (hB610.mono (by omega)))
  refine ⟨_, _, run_bytes_strB (ho6.ext hB610).rd, ?_⟩
  refine ⟨_, _, run_bytes_len (hb.ext hB010), ?_⟩
  dsimp only
  refine cond_t (by rw [beq_self_eq_true]) (cond_t (beq_iff_eq.2 (by omega)) (cond_t rfl (cond_t rfl (cond_t rfl (hK w10 hB010)))))

theorem zfronts_law {b : Slc} {bs : List UInt8} {fixed : Bool} {cut less : Int} {K : Bool → World → Prop} (hb : Rd E_uint8 w b bs) (hK : ∀ w', Below w.heap.size w w' → K true w') : c_phosphorlaw6_ZlibFronts b fixed cut less w K := by
  refine call_phosphorlaw6_ZlibFronts _ _ _ _ ?_
  unfold sh_phosphorlaw6_ZlibFronts
  refine zknown_spec fun w1 hB1 => cond_f rfl ?_
  have hs1 := hB1.size
  rw [hb.n]
  refine joinP_of fun J1 hJ1 => ?_
  refine cond_of (fun _ => hK w1 hB1) (fun hn => cond_of (fun _ => hK w1 hB1) (fun hl0 => cond_of (fun _ => hK w1 hB1) (fun hl1 => hJ1 _ _ ?_)))
  have hn : bs.length ≤ 600 := by have := of_decide_eq_false hn; omega
  have hl0 := of_decide_eq_false hl0
  have hl1 := of_decide_eq_false hl1
  obtain ⟨ls, rfl⟩ : ∃ n : Nat, less = (n : Int) := ⟨less.toNat, by omega⟩
  clear hJ1
  refine Pack_spec (hb.ext hB1) (by omega) fun p body w2 hp hb0 hb1 hB2 => ?_
  have hbd : isBody fixed body bs := ⟨hb0, hb1⟩
  have hble := body_le hbd
  have hs2 := hB2.size
  have hB02 : Below w.heap.size w w2 := hB1.trans (hB2.mono hs1)
  have hpl : (packL body bs).length = body.length + 6 := by
    rw [packL, List.length_append, List.length_append, be4_length]
    show 2 + body.length + 4 = _
    omega
  have hpn := hp.rd.n
  rw [hpn, hpl]
  refine cond_f (beq_eq_false_iff_ne.2 (by omega)) ⟨by omega, ?_⟩
  refine joinP_of fun J2 hJ2 => ?_
  have go : ∀ q : Nat, q < body.length + 6 → J2 ((q : Int), ()) w2 := fun q hq => hJ2 _ _ (by
    clear hJ2
    dsimp only
    refine hp.rd.slK (l := 0) (m := q) rfl (.inl ⟨rfl, rfl⟩) (.inr rfl) (by omega) (by omega) fun hr => ?_
    rw [List.drop_zero] at hr
    -- the front is short
    obtain ⟨c1, a1, hch1, hst1, hz1⟩ : ∃ c1 a1, Ch bs.length (((packL body bs).take q).drop 2) cfg0 0 c1 a1 ∧ step1 bs.length (((packL body bs).take q).drop 2) a1 c1 = .short ∧ zerr ((packL body bs).take q) c1 a1 .short = 2 := by
      have hhd : headOK ((packL body bs).take q) = true := by
        rcases Nat.lt_or_ge q 2 with h | h
        · match q, h with
          | 0, _ => rfl
          | 1, _ => show zh1 120 = true; decide
        · obtain ⟨q', rfl⟩ : ∃ q', q = q' + 2 := ⟨q - 2, by omega⟩
          show (zh1 120 && zh2 120 1) = true
          decide
      have ez : ∀ c a, (tailL c a (((packL body bs).take q).drop 2)).length ≠ 4 → zerr ((packL body bs).take q) c a .short = 2 := fun c a h => by
        rw [zerr.eq_def, hhd, if_neg (by decide)]
        show zend _ c a = 2
        rw [zend, if_neg h]
      have ed : ((packL body bs).take q).drop 2 = (body ++ be4 (adlN bs)).take (q - 2) := by
        have : packL body bs = 120 :: 1 :: (body ++ be4 (adlN bs)) := by simp [packL]
        rw [this]
        match q with
        | 0 => rfl
        | 1 => rfl
        | q + 2 => rfl
      rcases Nat.lt_or_ge (q - 2) body.length with h | h
      · -- the body is cut
        have ed2 : ((packL body bs).take q).drop 2 = body.take (q - 2) := by rw [ed, List.take_append_of_le_length (by omega)]
        obtain ⟨c', p', hch, h5, hh, hpp⟩ := body_run (tail := []) hbd (Nat.le_refl _)
        rw [List.append_nil] at hch
        have htl : (body.take (q - 2)).length = q - 2 := by rw [List.length_take]; omega
        have hch2 : Ch bs.length (body.take (q - 2) ++ body.drop (q - 2)) cfg0 0 c' p' := by rw [List.take_append_drop]; exact hch
        obtain ⟨c1, a1, h1, s1, m1⟩ := hch2.front (by omega) (by omega)
        refine ⟨c1, a1, by rw [ed2]; exact h1, by rw [ed2]; exact s1, ez c1 a1 ?_⟩
        rw [tailL, if_neg m1]
        decide
      · -- the sum is cut
        have ed2 : ((packL body bs).take q).drop 2 = body ++ (be4 (adlN bs)).take (q - 2 - body.length) := by rw [ed, List.take_append, List.take_of_length_le h]
        obtain ⟨c', p', hch, h5, hh, hpp⟩ := body_run (tail := (be4 (adlN bs)).take (q - 2 - body.length)) hbd (Nat.le_refl _)
        refine ⟨c', p', by rw [ed2]; exact hch, step1_five h5, ez c' p' ?_⟩
        rw [ed2, tailL, if_pos h5, hpp, List.drop_left, List.length_take, List.length_take, be4_length]
        omega
    refine Unpack_spec (most := bs.length) (by omega) hr (fun k hk => ?_) (by rw [List.length_take]; omega) hch1 hst1 (by intro _ _ e; cases e) (fun e => by rw [hz1] at e; cases e) (fun n e _ w3 hB3 => ?_)
    · obtain ⟨a, ha, rfl⟩ := slk.1 hk
      obtain ⟨a', ha', e⟩ := cut_block ha
      rw [e]
      exact (hp.lt a'.block (slk.2 ⟨a', ha', rfl⟩)).2
    rw [hz1] at e
    subst e
    have hs3 := hB3.size
    -- a cap that is too small
    obtain ⟨c', p', hch, h5, hh, hpp⟩ := body_run (tail := be4 (adlN bs)) hbd (Nat.le_refl _)
    have hcap : ∃ c1 a1, Ch (bs.length - ls) (body ++ be4 (adlN bs)) cfg0 0 c1 a1 ∧ step1 (bs.length - ls) (body ++ be4 (adlN bs)) a1 c1 = .err 5 := by
      rcases hch.cap (small := bs.length - ls) (Nat.zero_le _) with h | h
      · exfalso
        have := h.most (Nat.zero_le _)
        rw [hh] at this
        omega
      · exact h
    obtain ⟨c1, a1, hc1, hs1'⟩ := hcap
    rw [wrap64_id (x := ((bs.length : Nat) : Int) - (ls : Int)) (by omega), show ((bs.length : Nat) : Int) - (ls : Int) = ((bs.length - ls : Nat) : Int) by omega]
    have hp3 := (hp.ext hB3).rd
    have ed : (packL body bs).drop 2 = body ++ be4 (adlN bs) := by
      have : packL body bs = 120 :: 1 :: (body ++ be4 (adlN bs)) := by simp [packL]
      rw [this]; rfl
    have hz : zerr (packL body bs) c1 a1 (.err 5) = 5 := by
      have hhd : headOK (packL body bs) = true := by show (zh1 120 && zh2 120 1) = true; decide
      rw [zerr.eq_def, hhd, if_neg (by decide)]
    refine Unpack_spec (most := bs.length - ls) (c1 := c1) (a1 := a1) (r0 := .err 5) (by omega) hp3 (fun k hk => by have := (hp.lt k hk).2; omega) (by omega) (by rw [ed]; exact hc1) (by rw [ed]; exact hs1') (by intro _ _ e; cases e) (fun e => by rw [hz] at e; cases e) (fun n e _ w4 hB4 => ?_)
    rw [hz] at e
    subst e
    refine cond_t rfl (cond_t rfl (cond_t rfl (cond_t rfl (cond_t rfl (hK w4 ?_)))))
    exact hB02.trans ((hB3.mono (by omega)).trans (hB4.mono (by omega))))
  have hpos : 0 < body.length + 6 := by omega
  have hab : (cut.tmod ((body.length + 6 : Nat) : Int)).natAbs < body.length + 6 := by
    rw [Int.natAbs_tmod, Int.natAbs_natCast]
    exact Nat.mod_lt _ hpos
  refine cond_of (fun h => ?_) (fun h => ?_)
  · have h := of_decide_eq_true h
    rw [wrap64_id (by omega)]
    obtain ⟨q, hq⟩ : ∃ q : Nat, cut.tmod ((body.length + 6 : Nat) : Int) + ((body.length + 6 : Nat) : Int) = (q : Int) := ⟨(cut.tmod ((body.length + 6 : Nat) : Int) + ((body.length + 6 : Nat) : Int)).toNat, by omega⟩
    rw [hq]
    exact go q (by omega)
  · have h := of_decide_eq_false h
    obtain ⟨q, hq⟩ : ∃ q : Nat, cut.tmod ((body.length + 6 : Nat) : Int) = (q : Int) := ⟨(cut.tmod ((body.length + 6 : Nat) : Int)).toNat, by omega⟩
    rw [hq]
    exact go q (by omega)
end
end Go.Proofs.Yteffnkpplhcomaa
