/- The program's store: its memory, and the operations that look a number up. -/
import Derived.Test.YteffnkpplhcomaaS1
import Derived.Test.YteffnkpplhcomaaMapI
set_option linter.unusedVariables false
namespace Go.Proofs.Yteffnkpplhcomaa
open Go.Vc Go.RowKit
set_option maxRecDepth 100000

theorem own_ne_b {w : World} {T : Type} {E : El T} {b g : Nat} {s : Slc} {xs : List T} {t : TypeId} {vs : List Value} (h : Own E w b s xs) (h' : Blk w g t vs) (hne : E.t ≠ t) : ∀ k, s.blk = some k → k ≠ g := fun k hk => by
  obtain ⟨cs, hcs⟩ := h.blk_t hk
  exact hcs.ne_t h' hne
theorem own_ne_o {w : World} {T T' : Type} {E : El T} {E' : El T'} {b b' : Nat} {s s' : Slc} {xs : List T} {ys : List T'} (h : Own E w b s xs) (h' : Own E' w b' s' ys) (hne : E.t ≠ E'.t) : ∀ k, s.blk = some k → s'.blk ≠ some k := fun k hk e => by
  obtain ⟨cs, hcs⟩ := h.blk_t hk
  obtain ⟨cs', hcs'⟩ := h'.blk_t e
  exact hcs.ne_t hcs' hne rfl
theorem rd_lt {T : Type} {E : El T} {w : World} {s : Slc} {xs : List T} (h : Rd E w s xs) (hp : 0 < xs.length) : ∀ a, s.a = some a → a.block < w.heap.size := fun a ha => by
  have := h.lt hp
  simpa [Slc.at_, ha] using this
theorem rd_chg0 {T : Type} {E : El T} {Sx : Nat → Prop} {w w' : World} {s : Slc} {xs : List T} (h : Rd E w s xs) (hc : Chg Sx w w') (hg : 0 < xs.length → ∀ a, s.a = some a → ¬ Sx a.block) : Rd E w' s xs := by
  cases xs with
  | nil => exact ⟨h.n, h.nc, h.cm, h.some_, fun i x hx => by simp at hx⟩
  | cons x xs => exact h.chg hc (hg (by simp))
/-- A row of bytes that lies in a block of its kind, from a base on; whatever its capacity. -/
structure Hold (w : World) (base : Nat) (s : Slc) (xs : List UInt8) : Prop where
  rd : Rd E_uint8 w s xs
  blk : ∀ k, s.blk = some k → base ≤ k ∧ ∃ cs, Blk w k ty_uint8 cs
theorem own_hold {w : World} {base : Nat} {s : Slc} {xs : List UInt8} (h : Own E_uint8 w base s xs) : Hold w base s xs := ⟨h.rd, fun k hk => ⟨(h.lt k hk).1, h.blk_t hk⟩⟩
theorem Hold.base {w : World} {base base' : Nat} {s : Slc} {xs : List UInt8} (h : Hold w base s xs) (hb : base' ≤ base) : Hold w base' s xs := ⟨h.rd, fun k hk => ⟨Nat.le_trans hb (h.blk k hk).1, (h.blk k hk).2⟩⟩
theorem Hold.chg {Sx : Nat → Prop} {w w' : World} {base : Nat} {s : Slc} {xs : List UInt8} (h : Hold w base s xs) (hc : Chg Sx w w') (hg : ∀ k, s.blk = some k → ¬ Sx k) : Hold w' base s xs :=
  ⟨h.rd.chg hc fun a ha => hg _ (slk.2 ⟨a, ha, rfl⟩), fun k hk => by
    obtain ⟨h1, cs, h2⟩ := h.blk k hk
    exact ⟨h1, cs, h2.chg hc (hg k hk)⟩⟩
theorem Hold.ext {w w' : World} {base : Nat} {s : Slc} {xs : List UInt8} (h : Hold w base s xs) (hb : Below w.heap.size w w') : Hold w' base s xs :=
  ⟨h.rd.ext hb, fun k hk => by
    obtain ⟨h1, cs, h2⟩ := h.blk k hk
    exact ⟨h1, cs, h2.ext hb⟩⟩
theorem Hold.drew {w : World} {base : Nat} {s : Slc} {xs : List UInt8} (h : Hold w base s xs) : Hold w.drew base s xs := ⟨h.rd.drew, h.blk⟩
theorem Hold.lt {w : World} {base : Nat} {s : Slc} {xs : List UInt8} (h : Hold w base s xs) : ∀ k, s.blk = some k → base ≤ k ∧ k < w.heap.size := fun k hk => by
  obtain ⟨h1, cs, h2⟩ := h.blk k hk
  exact ⟨h1, h2.lt⟩
theorem Hold.ne_b {w : World} {base g : Nat} {s : Slc} {xs : List UInt8} {t : TypeId} {vs : List Value} (h : Hold w base s xs) (h' : Blk w g t vs) (hne : ty_uint8 ≠ t) : ∀ k, s.blk = some k → k ≠ g := fun k hk => by
  obtain ⟨_, cs, h2⟩ := h.blk k hk
  exact h2.ne_t h' hne
theorem Hold.ne_o {w : World} {base b' : Nat} {s s' : Slc} {xs : List UInt8} {T' : Type} {E' : El T'} {ys : List T'} (h : Hold w base s xs) (h' : Own E' w b' s' ys) (hne : ty_uint8 ≠ E'.t) : ∀ k, s.blk = some k → s'.blk ≠ some k := fun k hk e => by
  obtain ⟨_, cs, h2⟩ := h.blk k hk
  obtain ⟨cs', hcs'⟩ := h'.blk_t e
  exact h2.ne_t hcs' hne rfl
theorem Hold.ne_m {V : Type} {enc : V → Value} {w : World} {base r : Nat} {s : Slc} {xs : List UInt8} {L : List (Int × V)} (h : Hold w base s xs) (hM : MapM enc w r L) : ∀ k, s.blk = some k → k ≠ r := fun k hk => by
  obtain ⟨_, cs, h2⟩ := h.blk k hk
  exact fun e => hM.ne_blk h2 e.symm
abbrev nilI : T_store_image := ⟨0, ⟨0, 0, ⟨none, 0, 0⟩⟩, 0, 0⟩
/-- An image as it lies, with its bytes. -/
structure Im where
  v : T_store_image
  bs : List UInt8
def Im.enc (x : Im) : Value := .agg (T_store_image.rep.cells x.v).toArray
structure St where
  quota : Int
  res : Int
  used : Int
  clock : Int
  L : List (Int × Im)
def St.cells (S : St) (r : Nat) : List Value := [(.int .i64 S.quota), (.int .i64 S.res), (.int .i64 S.used), (.int .i64 S.clock), (.map (some r))]
/-- The store at g, with its map at r. -/
structure StM (w : World) (base g r : Nat) (S : St) : Prop where
  blk : Blk w g ty_store_Store (S.cells r)
  map : MapM Im.enc w r S.L
  img : ∀ p ∈ S.L, Hold w base p.2.v.m.P p.2.bs

theorem tmap : PG.underlying ty_map_int_store_image = some (.map ty_int ty_store_image) := by kernel_rfl
theorem tint : PG.underlying ty_int = some (.int .i64) := by kernel_rfl
theorem zimg : ∀ w, (zeroValue ty_store_image).run PG w = .ok (Im.enc ⟨nilI, []⟩) w := Try.zeroValue87

section
variable {w w' : World} {base g r : Nat} {S : St}
theorem StM.keep {Sx : Nat → Prop} (h : StM w base g r S) (hc : Chg Sx w w') (hg : ¬ Sx g) (hr : ¬ Sx r) (hi : ∀ p ∈ S.L, ∀ k, p.2.v.m.P.blk = some k → ¬ Sx k) : StM w' base g r S :=
  ⟨h.blk.chg hc hg, h.map.chg hc hr, fun p hp => (h.img p hp).chg hc (hi p hp)⟩
theorem StM.ext (h : StM w base g r S) (hb : Below w.heap.size w w') : StM w' base g r S := ⟨h.blk.ext hb, h.map.ext hb, fun p hp => (h.img p hp).ext hb⟩
theorem StM.drew (h : StM w base g r S) : StM w.drew base g r S := ⟨h.blk, h.map.keep rfl, fun p hp => (h.img p hp).drew⟩
theorem StM.ne (h : StM w base g r S) : r ≠ g := h.map.ne_blk h.blk
theorem StM.img_ne (h : StM w base g r S) {p : Int × Im} (hp : p ∈ S.L) {k : Nat} (hk : p.2.v.m.P.blk = some k) : k ≠ g ∧ k ≠ r :=
  ⟨(h.img p hp).ne_b h.blk (by decide) k hk, (h.img p hp).ne_m h.map k hk⟩
/-- Another block of the heap's changes: the store stays. -/
theorem StM.other (h : StM w base g r S) {k0 : Nat} {t : TypeId} {vs : List Value} (hb : Blk w k0 t vs) (ht : t ≠ ty_uint8) (hk : k0 ≠ g) (hc : Chg (fun k => k = k0) w w') : StM w' base g r S :=
  h.keep hc (fun e => hk e.symm) (fun e => h.map.ne_blk hb e) fun p hp k hk e => (h.img p hp).ne_b hb (fun e => ht e.symm) k hk e
theorem lookup2 {L : List (Int × Im)} (h : MapM Im.enc w r L) (id : Int) {K : T_store_image → Bool → World → Prop} (hK : K (((lookL L id).map Im.v).getD nilI) (lookL L id).isSome w) :
    runK2 PG (Instr.lookup ty_map_int_store_image (.map (some r)) (.int .i64 id) true) (Kind.struct T_store_image.rep) Kind.bool w K := by
  refine ⟨_, _, w, ?_, hK⟩
  rw [h.lookup_ok tmap tint zimg id]
  cases lookL L id <;> rfl
theorem lookup1 {L : List (Int × Im)} (h : MapM Im.enc w r L) (id : Int) {K : T_store_image → World → Prop} (hK : K (((lookL L id).map Im.v).getD nilI) w) :
    runK1 PG (Instr.lookup ty_map_int_store_image (.map (some r)) (.int .i64 id) false) (Kind.struct T_store_image.rep) w K := by
  refine ⟨_, w, ?_, hK⟩
  rw [h.lookup tmap tint zimg id]
  cases lookL L id <;> rfl
theorem onPtr_some' {a : Addr} {K : Addr → Prop} (h : K a) : onPtr (some a) K := h
theorem Used_spec (h : StM w base g r S) {K : Int → World → Prop} (hK : K S.used w) : c_store_Store_Used (some ⟨g, 0, none⟩) w K := by
  refine call_store_Store_Used _ ?_
  unfold sh_store_Store_Used
  exact onPtr_some' (ldI_of (x := S.used) (h.blk.cells 2 _ rfl) hK)
theorem Reserved_spec (h : StM w base g r S) {K : Int → World → Prop} (hK : K S.res w) : c_store_Store_Reserved (some ⟨g, 0, none⟩) w K := by
  refine call_store_Store_Reserved _ ?_
  unfold sh_store_Store_Reserved
  exact onPtr_some' (ldI_of (x := S.res) (h.blk.cells 1 _ rfl) hK)
/-- What is kept ahead in a new image's box. -/
theorem box_img {v : T_store_image} {K : Addr → World → Prop}
    (hK : ∀ w', Blk w' w.heap.size ty_store_image (T_store_image.rep.cells v) → Below w.heap.size w w' → w'.heap.size = w.heap.size + 1 → K ⟨w.heap.size, 0, none⟩ w') :
    nw ty_store_image [(.int .i64 0), (.int .i64 0), (.int .i64 0), (.slice none 0 0), (.int .i64 0), (.int .i64 0)] w fun a w1 => stK a (T_store_image.rep.cells v) w1 fun w2 => K a w2 :=
  box_of rfl hK
theorem is_spec (h : StM w base g r S) (id : Int) {K : Bool → World → Prop} (hK : ∀ w', Below w.heap.size w w' → K (lookL S.L id).isSome w') : c_store_Store_is (some ⟨g, 0, none⟩) id w K := by
  refine call_store_Store_is _ _ ?_
  unfold sh_store_Store_is
  refine onPtr_some' (ldM_of (x := some r) (h.blk.cells 4 _ rfl) (lookup2 h.map id ?_))
  exact box_img fun w' _ hB _ => hK w' hB
theorem Stamp_spec (h : StM w base g r S) (id : Int) {K : Int → Bool → World → Prop} (hK : ∀ w', Below w.heap.size w w' → K (((lookL S.L id).map Im.v).getD nilI).stamp (lookL S.L id).isSome w') : c_store_Store_Stamp (some ⟨g, 0, none⟩) id w K := by
  refine call_store_Store_Stamp _ _ ?_
  unfold sh_store_Store_Stamp
  refine onPtr_some' (ldM_of (x := some r) (h.blk.cells 4 _ rfl) (lookup2 h.map id ?_))
  refine box_img fun w' hb hB _ => ?_
  exact ldI_of (x := (((lookL S.L id).map Im.v).getD nilI).stamp) (hb.cells 4 _ rfl) (hK w' hB)
theorem See_spec (h : StM w base g r S) (id : Int) {K : T_api_Matrix → Bool → World → Prop} (hK : ∀ w', Below w.heap.size w w' → K (((lookL S.L id).map Im.v).getD nilI).m (lookL S.L id).isSome w') : c_store_Store_See (some ⟨g, 0, none⟩) id w K := by
  refine call_store_Store_See _ _ ?_
  unfold sh_store_Store_See
  generalize hv : ((lookL S.L id).map Im.v).getD nilI = v at hK
  refine nw_blk fun w1 hb1 hB1 hs1 => ?_
  have h1 := h.ext hB1
  refine onPtr_some' (ldM_of (x := some r) (h1.blk.cells 4 _ rfl) (lookup2 h1.map id ?_))
  rw [hv]
  refine box_img fun w2 hb2 hB2 hs2 => ?_
  refine ldS_of (x := v.m) (hb2.sub 1 _ rfl) ?_
  have hb1' := hb1.ext hB2
  refine stK_blk hb1' (by simp [T_api_Matrix.rep]) fun w3 hb3 hg3 hs3 => ?_
  have hb3 : Blk w3 w.heap.size ty_api_Matrix (T_api_Matrix.rep.cells v.m) := hb3
  refine ldS_of (x := v.m) hb3.cells (hK w3 ?_)
  have hc : Chg (fun k => k = w.heap.size) w w3 := (Chg.of_ext (hB1.trans (hB2.mono (by omega)))).trans (Chg.gg hg3) fun i _ hi => hi
  exact hc.ext fun i hi e => by omega
end
end Go.Proofs.Yteffnkpplhcomaa
