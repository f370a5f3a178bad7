/- What is put and told is not shared. -/
import Derived.Test.YteffnkpplhcomaaS11
import Derived.Test.YteffnkpplhcomaaStrB
set_option linter.unusedVariables false
namespace Go.Proofs.Yteffnkpplhcomaa
open Go.Vc Go.RowKit
set_option maxRecDepth 100000

/-- The law's end, behind the copy. -/
def ownTail (g mn m1 : Nat) (turn : Int) (w9 : World) (K : Bool → World → Prop) : Prop :=
  ldS T_api_Matrix.rep (⟨mn, 0, none⟩ : Addr) w9 fun (t64 : T_api_Matrix) =>
               c_store_Store_Put (some ⟨g, 0, none⟩) 3 0 t64 w9 fun t65 t65_1 t65_2 w10 =>
               ldSl ((⟨mn, 0, none⟩ : Addr).add 2) w10.drew fun t67 =>
               ldSl ((⟨mn, 0, none⟩ : Addr).add 2) w10.drew fun t69 =>
               ixK t69 0 1 fun t70 =>
               ldI .u8 t70 w10.drew fun t71 =>
               ixK t67 0 1 fun t74 =>
               stK t74 [(.int .u8 (bitsR .xor .u8 t71 turn))] w10.drew fun w11 =>
               c_store_Store_Get (some ⟨g, 0, none⟩) 3 w11 fun t77 t77_1 w12 =>
               nw ty_api_Matrix [(.int .i64 0), (.int .i64 0), (.slice none 0 0)] w12 fun x w13 =>
               stK x (T_api_Matrix.rep.cells t77) w13 fun w14 =>
               ldSl (x.add 2) w14 fun t81 =>
               runK1 PG (convert ty_sl_uint8 ty_string (.slice t81.a t81.n t81.c)) Kind.string w14 fun (t82 : ByteArray) w15 =>
               ldSl ((⟨m1, 0, none⟩ : Addr).add 2) w15 fun t84 =>
               runK1 PG (convert ty_sl_uint8 ty_string (.slice t84.a t84.n t84.c)) Kind.string w15 fun (t85 : ByteArray) w16 =>
               cond (!(t82.toList == t85.toList))
                 (K false w16)
                 (ldSl (x.add 2) w16 fun t88 =>
                  ixK t88 0 1 fun t89 =>
                  ldI .u8 t89 w16 fun t90 =>
                  ixK t88 0 1 fun t92 =>
                  stK t92 [(.int .u8 (IntKind.u8.wrap (t90 + (1 : Int))))] w16 fun w17 =>
                  c_store_Store_Get (some ⟨g, 0, none⟩) 3 w17 fun t95 t95_1 w18 =>
                  nw ty_api_Matrix [(.int .i64 0), (.int .i64 0), (.slice none 0 0)] w18 fun y w19 =>
                  stK y (T_api_Matrix.rep.cells t95) w19 fun w20 =>
                  ldSl (y.add 2) w20 fun t99 =>
                  runK1 PG (convert ty_sl_uint8 ty_string (.slice t99.a t99.n t99.c)) Kind.string w20 fun (t100 : ByteArray) w21 =>
                  ldSl ((⟨m1, 0, none⟩ : Addr).add 2) w21 fun t102 =>
                  runK1 PG (convert ty_sl_uint8 ty_string (.slice t102.a t102.n t102.c)) Kind.string w21 fun (t103 : ByteArray) w22 =>
                  K (t100.toList == t103.toList) w22)
section
variable {w w9 : World} {g r mn m1 : Nat} {m : T_api_Matrix} {bs : List UInt8} {turn : Int} {K : Bool → World → Prop}
theorem ownTail_spec {P' : Slc} {b0 : Nat} (hg : w.heap.size ≤ g) (hr : w.heap.size ≤ r) (hmn : w.heap.size ≤ mn) (h1 : w.heap.size ≤ m1) (hb0 : w.heap.size ≤ b0) (hB : Below w.heap.size w w9) (hS : StM w9 w9.heap.size g r ⟨1048576, 0, 0, 0, []⟩)
    (hbn : Blk w9 mn ty_api_Matrix (T_api_Matrix.rep.cells ⟨m.W, m.H, P'⟩)) (hP' : Own E_uint8 w9 b0 P' bs) (hb1 : Blk w9 m1 ty_api_Matrix (T_api_Matrix.rep.cells m)) (hP : Rd E_uint8 w9 m.P bs) (hlt : ∀ a, m.P.a = some a → a.block < w.heap.size)
    (hne : mn ≠ m1) (hok : putErr ⟨1048576, 0, 0, 0, []⟩ 3 0 m.W m.H bs.length = 0) (hpos : 0 < bs.length) (ht : 0 ≤ turn ∧ turn < 256) (hK : ∀ w', Below w.heap.size w w' → K true w') : ownTail g mn m1 turn w9 K := by
  unfold ownTail
  have hsz := hB.size
  have hgl := hS.blk.lt
  have hrl := hS.map.lt
  have hmn9 := hbn.lt
  have hm19 := hb1.lt
  refine ldS_of (x := (⟨m.W, m.H, P'⟩ : T_api_Matrix)) hbn.cells ?_
  have hPg : ∀ k, P'.blk = some k → ¬ onS g r k := fun k hk e => by
    rcases e with e | e
    · exact own_ne_b hP' hS.blk (by decide) k hk e
    · exact hS.map.ne_own hP' k hk e
  refine Put_spec (bs := bs) hS (new_ok (q := 1048576) rfl) (by omega) (Nat.le_refl _) hP'.rd (fun _ a ha => hPg _ (slk.2 ⟨a, ha, rfl⟩)) (fun w' e => absurd hok e) fun P q w10 e0 hS10 hk10 ho10 hc10 => ?_
  have hs10 := hc10.size
  have on : ∀ {k : Nat}, onS g r k → w.heap.size ≤ k := fun e => by rcases e with e | e <;> omega
  have e3 : (St.putAt (St.putPre ⟨1048576, 0, 0, 0, []⟩ 3 bs.length).1 (newId (St.putPre ⟨1048576, 0, 0, 0, []⟩ 3 bs.length).1.L 3) 0 m.W m.H P bs).L = [(3, ⟨⟨0, ⟨m.W, m.H, P⟩, 1, 1⟩, bs⟩)] := by
    have : (St.putPre ⟨1048576, 0, 0, 0, []⟩ 3 bs.length).1 = ⟨1048576, 0, 0, 0, []⟩ := rfl
    rw [this]
    rfl
  generalize St.putAt (St.putPre ⟨1048576, 0, 0, 0, []⟩ 3 bs.length).1 (newId (St.putPre ⟨1048576, 0, 0, 0, []⟩ 3 bs.length).1.L 3) 0 m.W m.H P bs = S at e3 hS10 hk10
  have hbs : bsOf S.L 3 = bs := by rw [e3]; rfl
  have hmem : ((3 : Int), (⟨⟨0, ⟨m.W, m.H, P⟩, 1, 1⟩, bs⟩ : Im)) ∈ S.L := by rw [e3]; exact List.mem_cons_self
  have hbn10 := hbn.chg hc10 fun e => by
    rcases e with e | e
    · exact hbn.ne_t hS.blk (by decide) e
    · exact hS.map.ne_blk hbn e.symm
  have hb110 := hb1.chg hc10 fun e => by
    rcases e with e | e
    · exact hb1.ne_t hS.blk (by decide) e
    · exact hS.map.ne_blk hb1 e.symm
  have hP'10 := hP'.chg hc10 hPg
  have hP10 := hP.chg hc10 fun a ha e => by have := hlt a ha; have := on e; omega
  have hB10 : Below w.heap.size w w10 := hB.trans (hc10.below (by omega) fun i hi e => by have := on e; omega)
  refine ldSl_of (x := P') (hbn10.drew.cells 2 _ rfl) (ldSl_of (x := P') (hbn10.drew.cells 2 _ rfl) ?_)
  refine hP'10.drew.rd.ix (i := 0) rfl (by decide) (by omega) fun hc => ?_
  obtain ⟨x0, hx0⟩ : ∃ x, bs[0]? = some x := ⟨_, List.getElem?_eq_getElem hpos⟩
  have hx0' : bs[((0 : Int)).toNat]'(by simpa using hpos) = x0 := by
    have := List.getElem?_eq_some_iff.1 hx0
    exact this.2
  refine ldB8 (b := x0) (by rw [← hx0']; exact hc) ?_
  refine hP'10.drew.rd.ix (i := 0) rfl (by decide) (by omega) fun _ => ?_
  obtain ⟨y0, hy0⟩ : ∃ y : UInt8, bitsR .xor .u8 (x0.toNat : Int) turn = (y.toNat : Int) := by
    obtain ⟨t, rfl⟩ : ∃ t : Nat, turn = (t : Int) := ⟨turn.toNat, by omega⟩
    rw [bits_xor .u8 (by show _ < 2 ^ 8; exact x0.toNat_lt) (by show _ < 2 ^ 8; omega)]
    have hl : x0.toNat ^^^ t < 2 ^ 8 := Nat.xor_lt_two_pow x0.toNat_lt (by omega)
    refine ⟨UInt8.ofNat (x0.toNat ^^^ t), ?_⟩
    rw [UInt8.toNat_ofNat', Nat.mod_eq_of_lt hl]
  rw [hy0]
  refine hP'10.drew.st0 (i := 0) (x := x0) (y := y0) hx0 rfl fun w11 ho11 hg11 hs11 => ?_
  have hs11 : w11.heap.size = w10.heap.size := hs11
  have hc11 : Chg (fun k => P'.blk = some k) w10 w11 := (Chg.of_ext (Below.refl _ w10).drew).trans (Chg.of_grown hg11 fun k hk => hk) fun i _ hi => hi
  have hP'l := hP'10.lt
  have hP'9 := hP'.lt
  have hS11 : StM w11 w9.heap.size g r S := hS10.keep hc11 (fun e => hPg _ e (.inl rfl)) (fun e => hPg _ e (.inr rfl)) fun p hp k hk e => by
    have h1 := ((hS10.img p hp).lt k hk).1
    have h2 := (hP'9 k e).2
    omega
  have hb111 := hb110.chg hc11 fun e => own_ne_b hP'10 hb110 (by decide) _ e rfl
  have hP11 := hP10.chg hc11 fun a ha e => by have := hlt a ha; have := hP'l _ e; omega
  have hB11 : Below w.heap.size w w11 := hB10.trans (hc11.below (by omega) fun i hi e => by have := hP'l _ e; omega)
  refine Get_spec hS11 hk10 3 fun Q w12 hQ hB12 => ?_
  rw [hbs] at hQ
  refine box_of (t := ty_api_Matrix) (vs := T_api_Matrix.rep.cells ⟨(vOf S.L 3).m.W, (vOf S.L 3).m.H, Q⟩) rfl fun w14 hb14 hB14 hs14 => ?_
  have hs12 := hB12.size
  have hQ14 := hQ.ext hB14
  refine ldSl_of (x := Q) (hb14.cells 2 _ rfl) ?_
  refine ⟨_, w14, run_bytes_strB hQ14.rd, ?_⟩
  have hb114 := (hb111.ext hB12).ext hB14
  have hP14 := (hP11.ext hB12).ext hB14
  refine ldSl_of (x := m.P) (hb114.cells 2 _ rfl) ?_
  refine ⟨_, w14, run_bytes_strB hP14, ?_⟩
  refine cond_f (by simp) ?_
  refine ldSl_of (x := Q) (hb14.cells 2 _ rfl) ?_
  refine hQ14.rd.ix (i := 0) rfl (by decide) (by omega) fun hc => ?_
  refine ldB8 (b := x0) (by rw [← hx0']; exact hc) ?_
  refine hQ14.rd.ix (i := 0) rfl (by decide) (by omega) fun _ => ?_
  rw [wrap8_u8]
  refine hQ14.st0 (i := 0) (x := x0) (y := u8 (((x0.toNat : Int) + 1) % 256)) hx0 rfl fun w17 ho17 hg17 hs17 => ?_
  have hs17 : w17.heap.size = w14.heap.size := hs17
  have hQl := hQ14.lt
  have hc17 : Chg (fun k => Q.blk = some k) w14 w17 := Chg.of_grown hg17 fun k hk => hk
  have hS14 := (hS11.ext hB12).ext hB14
  have hS17 : StM w17 w9.heap.size g r S := hS14.keep hc17 (fun e => by have := (hQl _ e).1; omega) (fun e => by have := (hQl _ e).1; omega) fun p hp k hk e => by
    have h1 := ((hS11.img p hp).lt k hk).2
    have h2 := (hQl k e).1
    omega
  have hb117 := hb114.chg hc17 fun e => by have := (hQl _ e).1; omega
  have hP17 := hP14.chg hc17 fun a ha e => by have := hlt a ha; have := (hQl _ e).1; omega
  have hB17 : Below w.heap.size w w17 := ((hB11.trans (hB12.mono (by omega))).trans (hB14.mono (by omega))).trans (hc17.below (by omega) fun i hi e => by have := (hQl _ e).1; omega)
  refine Get_spec hS17 hk10 3 fun R w18 hR hB18 => ?_
  rw [hbs] at hR
  refine box_of (t := ty_api_Matrix) (vs := T_api_Matrix.rep.cells ⟨(vOf S.L 3).m.W, (vOf S.L 3).m.H, R⟩) rfl fun w20 hb20 hB20 hs20 => ?_
  have hR20 := hR.ext hB20
  have hs18 := hB18.size
  refine ldSl_of (x := R) (hb20.cells 2 _ rfl) ?_
  refine ⟨_, w20, run_bytes_strB hR20.rd, ?_⟩
  refine ldSl_of (x := m.P) (((hb117.ext hB18).ext hB20).cells 2 _ rfl) ?_
  refine ⟨_, w20, run_bytes_strB ((hP17.ext hB18).ext hB20), ?_⟩
  simp only [beq_self_eq_true]
  exact hK w20 ((hB17.trans (hB18.mono (by omega))).trans (hB20.mono (by omega)))
end
end Go.Proofs.Yteffnkpplhcomaa
