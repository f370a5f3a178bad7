/- The formula within a round of a range over a function. Program-generic. base64's Encode: the body of its range over slices.Chunk. slices.Chunk over bytes, three at a time: its closure's contract. base64's Encode. The program's loader walked: End to its end. What every law of the loader runs first; the law LoadCuts. The law LoadCuts. The law LoadRooms. -/
import Derived.Test.YtmagnpcgpinmcaaGreatVc
import Derived.RangeFuncCalls
import Derived.OrdersIn
import Derived.TacticsIn
import Derived.Test.YtmagnpcgpinmcaaGreatP3
import Derived.RangeFuncBox
import Derived.RangeFuncLeaves
import Derived.RangeFuncFrom
import Derived.RangeFuncWrites
import Derived.Shelf.Abstract
import Derived.WalkKit
import Derived.OwnWalkIn
import Derived.TacticsInMore
import Derived.LoopNIn
import Derived.LoopIn
import Derived.BigFrameIn
import Derived.BigRegionIn
import Derived.BigGuardIn
import Derived.BigGuardPartIn
import Derived.Test.YtmagnpcgpinmcaaGreatP1
import Derived.Scope
set_option linter.unusedVariables false
set_option linter.unusedVariables false
namespace Go.Vc
def noDefer (ops : List Oper) : Bool := ops.all fun o => match o.op with | .defer _ => false | _ => true
theorem noDefer_spec {ops : List Oper} (h : noDefer ops = true) {o : Oper} (ho : o ∈ ops) : ∀ c, o.op ≠ .defer c := by
  intro c e
  have := List.all_eq_true.1 h o ho
  rw [e] at this
  cases this
/-- Code that does the same in a round as elsewhere. -/
def inOk : Code → Bool
  | .region _ ops _ => noDefer ops.toList
  | .seq x y => inOk x && inOk y
  | .loop c => inOk c
  | .cond _ x y => inOk x && inOk y
  | .block _ x => inOk x
  | .scope _ => false
  | _ => true
section
variable {l n : Nat} {P : Program}
theorem opIn {o : Oper} {a : Act} {w : World} {K : Act → World → Prop} {Q : Exit → Act → World → Prop} (hd : ∀ c, o.op ≠ .defer c) (h : o.wp P a w K Q) : o.wpIn (Fence.wide.inRound l) n P a w K Q := by
  refine ⟨fun _ _ => trivial, ?_⟩
  rw [show o.semAt (Fence.wide.inRound l).round a.eval = execOp a.eval o from Oper.semAt_some l _ _ hd]
  unfold Oper.wp at h
  generalize (execOp a.eval o).run P w = r at h ⊢
  unfold Oper.upon at h
  unfold Oper.uponIn
  split at h
  · exact h
  · exact h
  · exact h
  · exact ⟨fun h => by simp [Fence.wide] at h, CallsIn.inRound l (callsIn_wide.2 h)⟩
  · refine ⟨fun h => by simp [Fence.wide] at h, ?_⟩
    intro c cs _
    obtain ⟨v, w', r, s⟩ := h c cs
    exact ⟨v, w', r, stepsIn_wide.2 s⟩
  · exact h
  · exact h.elim
theorem listIn {ops : Array Oper} {Q : Exit → Act → World → Prop} (hQ : ¬ LetsOut Q) : ∀ (os : List Oper), (∀ o ∈ os, ∀ c, o.op ≠ .defer c) → ∀ (a : Act) (w : World), wpList P ops Q os a w → wpListIn (Fence.wide.inRound l) n P ops Q os a w
  | [], _, a, w, h => h
  | o :: os, hd, a, w, h => by
    unfold wpList at h
    unfold wpListIn
    split at h
    · rename_i hw
      rw [if_pos hw]
      rcases h with h | ⟨_, h⟩
      · exact opIn (hd o (by simp)) (Oper.wp_mono (fun a' w' h => listIn hQ os (fun o ho => hd o (by simp [ho])) a' w' h) h)
      · exact absurd h hQ
    · rename_i hw
      rw [if_neg hw]
      exact ⟨fun _ _ => trivial, listIn hQ os (fun o ho => hd o (by simp [ho])) _ _ h⟩
theorem anyIn {md : Region.Mode} {ops : Array Oper} {Q : Exit → Act → World → Prop} (hQ : ¬ LetsOut Q) (hd : ∀ o ∈ ops.toList, ∀ c, o.op ≠ .defer c) : ∀ (k : Nat) (listed : Array Bool) (a : Act) (w : World), wpAny P md ops Q k listed a w → wpAnyIn (Fence.wide.inRound l) n P md ops Q k listed a w
  | 0, listed, a, w, h => h
  | k + 1, listed, a, w, h => by
    refine ⟨h.1, fun i hi => ?_⟩
    have h2 := h.2 i hi
    unfold wpOp at h2
    unfold wpOpIn
    cases ho : ops[i]? with
    | none =>
      rw [ho] at h2
      exact anyIn hQ hd k _ _ _ h2
    | some o =>
      rw [ho] at h2
      dsimp only at h2 ⊢
      have hm : o ∈ ops.toList := by
        rw [← Array.getElem?_toList] at ho
        exact List.mem_of_getElem? ho
      split at h2
      · rename_i hw
        rw [if_pos hw]
        rcases h2 with h2 | ⟨_, h2⟩
        · exact opIn (hd o hm) (Oper.wp_mono (fun a' w' h => anyIn hQ hd k _ a' w' h) h2)
        · exact absurd h2 hQ
      · rename_i hw
        rw [if_neg hw]
        exact ⟨fun _ _ => trivial, anyIn hQ hd k _ _ _ h2⟩
theorem wpIn_loop_lfp {F : Fence} {c : Code} {Q : Exit → Act → World → Prop} {a : Act} {w : World}
    (h : ∀ R : Act → World → Prop, (∀ a w, c.wpIn F n P (Exit.then R Q) a w → R a w) → R a w) : (Code.loop c).wpIn F n P Q a w := by
  intro b k cs hro hb hr
  have := h (fun a w => ∃ e a' w', Q e a' w' ∧ ArrivesIn (Machine.fenced P F) P (lone (b.atR a (.code c :: .inLoop c :: k)) cs w) b k cs e a' w') (by
    intro a w hc
    obtain ⟨e, a₁, w₁, hq, harr⟩ := hc b (.inLoop c :: k) cs hro hb hr
    cases e with
    | normal =>
      obtain ⟨e₂, a₂, w₂, hq₂, harr₂⟩ := hq
      exact ⟨e₂, a₂, w₂, hq₂, .of_steps (StepsIn.trans harr (.one (fenced_calm hb hr rfl) stepR_inLoop)) harr₂⟩
    | exit id => exact ⟨_, a₁, w₁, hq, .pass (x := .inLoop c) rfl (fun _ _ => .inl (by simp)) harr⟩
    | goto l => exact ⟨_, a₁, w₁, hq, .pass (x := .inLoop c) rfl (fun _ _ => .inl (by simp)) harr⟩
    | ret => exact ⟨_, a₁, w₁, hq, .pass (x := .inLoop c) rfl (fun _ _ => .inl (by simp)) harr⟩
    | panic ch => exact ⟨_, a₁, w₁, hq, .pass (x := .inLoop c) rfl (fun _ _ => .inl (by simp)) harr⟩
    | outgrown => exact ⟨_, a₁, w₁, hq, .pass (x := .inLoop c) rfl (fun _ _ => .inl (by simp)) harr⟩)
  obtain ⟨e, a', w', hq, harr⟩ := this
  exact ⟨e, a', w', hq, .of_steps (.one (fenced_calm hb hr rfl) stepR_loop) harr⟩
end
theorem lift_closed {W : List Nat} {a0 : Act} {Q : X → Fr → World → Prop} : ¬ LetsOut (lift W a0 Q) := fun ⟨_, _, h⟩ => h
theorem vc_soundIn {C : Cx} (hp : ∀ g, C.plain g = true → plainFn C.P g = true) (hm : C.P.follows .mixedOrders = true) {l n : Nat} :
    ∀ (c : Code), inOk c = true → ∀ (ann : List Ann) (Q : X → Fr → World → Prop) (fr : Fr) (a : Act) (w : World), Agree fr a → vc C c ann Q fr w → c.wpIn (Fence.wide.inRound l) n C.P (lift (writes c) a Q) a w := by
  intro c
  induction c with
  | skip => intro _ ann Q fr a w ha h; exact wpIn_skip ⟨fr, ha, .refl _ _, h⟩
  | region id ops draw =>
    intro hok ann Q fr a w ha h
    have hdf : ∀ o ∈ ops.toList, ∀ c, o.op ≠ .defer c := fun o ho => noDefer_spec (by exact hok) ho
    cases draw with
    | false =>
      obtain ⟨h1, h⟩ := gate_elim h
      refine wpIn_region_list ?_
      have e : ops = ops.toList.toArray := by simp
      rw [e]
      exact listIn lift_closed ops.toList hdf _ _ (vcOps_sound hp (by rw [← e]; exact noSel_spec h1) (W := dsts ops.toList) (a0 := a) (fun a w h => h) ops.toList (fun o ho => ⟨ho, fun d hd => dsts_mem ho hd⟩) fr a w ha (.refl _ _) h)
    | true =>
      obtain ⟨h1, h⟩ := gate_elim h
      rw [Bool.and_eq_true] at h1
      refine wpIn_region_any hm ?_
      have e : ops = ops.toList.toArray := by simp
      have hn : Region.noSelect ops.toList.toArray = true := by rw [← e]; exact noSel_spec h1.1
      have hd : Dn ops.toList (List.replicate ops.toList.length false) := by
        intro j o ho hl
        rw [List.getD_eq_getElem?_getD] at hl
        by_cases hj : j < ops.toList.length
        · rw [List.getElem?_replicate_of_lt hj] at hl; simp at hl
        · rw [List.getElem?_eq_none (by simpa using hj)] at hl; simp at hl
      have := anyIn (l := l) (n := n) lift_closed (by simpa using hdf) _ _ _ _ (wpO_any _ _ _ _ (vcD_sound hp hn h1.2 (W := dsts ops.toList) (a0 := a) (Q := lift (dsts ops.toList) a Q) (fun a w h => h) (fun c a w h => h) (fun o ho d hd => dsts_mem ho hd)
        ops.toList.length (List.replicate ops.toList.length false) fr a w.drew [] ha (.refl _ _) hd h))
      rw [← e] at this
      simpa [writes] using this
  | seq x y ihx ihy =>
    intro hok ann Q fr a w ha h
    rw [inOk, Bool.and_eq_true] at hok
    unfold vc at h
    refine wpIn_seq ?_
    split at h
    · rename_i r
      refine wpIn_mono (ihx hok.1 r _ fr a w ha h) ?_
      intro e a1 w1 hq
      cases e with
      | normal =>
        obtain ⟨fr1, ha1, hk1, hq⟩ := hq
        refine wpIn_mono (ihy hok.2 _ Q fr1 a1 w1 ha1 hq) ?_
        intro e a2 w2 hq2
        cases e with
        | normal => exact Post.after (hk1.mono fun i hi => by simp [writes, hi]) (hq2.mono (fun i hi => by simp [writes, hi]) fun _ _ h => h)
        | exit id => exact Post.after (hk1.mono fun i hi => by simp [writes, hi]) (hq2.mono (fun i hi => by simp [writes, hi]) fun _ _ h => h)
        | ret => exact Post.after (hk1.mono fun i hi => by simp [writes, hi]) (hq2.mono (fun i hi => by simp [writes, hi]) fun _ _ h => h)
        | goto l => exact hq2
        | panic c => exact hq2
        | outgrown => exact hq2
      | exit id => exact Post.mono hq (fun i hi => by simp [writes, hi]) fun _ _ h => h
      | ret => exact Post.mono hq (fun i hi => by simp [writes, hi]) fun _ _ h => h
      | goto l => exact hq
      | panic c => exact hq
      | outgrown => exact hq
    · rename_i ks W r
      obtain ⟨hsub, h⟩ := gate_elim h
      have h := h _ fun _ _ h => h
      refine wpIn_mono (ihx hok.1 r _ fr a w ha h) ?_
      intro e a1 w1 hq
      cases e with
      | normal =>
        obtain ⟨fr1, ha1, hk1, hq⟩ := hq
        unfold leaf at hq
        simp only at hq
        split at hq
        · rename_i s hs
          have hag : Agree (head ks W fr s) a1 := getKs_put ha1 (forget_agree ha (hk1.mono (subL_mem hsub)) ha1.nod) hs
          refine wpIn_mono (ihy hok.2 _ Q _ a1 w1 hag hq) ?_
          intro e a2 w2 hq2
          cases e with
          | normal => exact Post.after (hk1.mono fun i hi => by simp [writes, hi]) (hq2.mono (fun i hi => by simp [writes, hi]) fun _ _ h => h)
          | exit id => exact Post.after (hk1.mono fun i hi => by simp [writes, hi]) (hq2.mono (fun i hi => by simp [writes, hi]) fun _ _ h => h)
          | ret => exact Post.after (hk1.mono fun i hi => by simp [writes, hi]) (hq2.mono (fun i hi => by simp [writes, hi]) fun _ _ h => h)
          | goto l => exact hq2
          | panic c => exact hq2
          | outgrown => exact hq2
        · exact hq.elim
      | exit id => exact Post.mono hq (fun i hi => by simp [writes, hi]) fun _ _ h => h
      | ret => exact Post.mono hq (fun i hi => by simp [writes, hi]) fun _ _ h => h
      | goto l => exact hq
      | panic c => exact hq
      | outgrown => exact hq
    · exact h.elim
  | cond c x y ihx ihy =>
    intro hok ann Q fr a w ha h
    rw [inOk, Bool.and_eq_true] at hok
    unfold vc at h
    split at h
    · rename_i b hb
      have hc := ha.ev hb
      cases b with
      | true =>
        refine wpIn_cond_true hc (wpIn_mono (ihx hok.1 _ Q fr a w ha h) ?_)
        intro e a1 w1 hq
        cases e with
        | normal => exact Post.mono hq (fun i hi => by simp [writes, hi]) fun _ _ h => h
        | exit id => exact Post.mono hq (fun i hi => by simp [writes, hi]) fun _ _ h => h
        | ret => exact Post.mono hq (fun i hi => by simp [writes, hi]) fun _ _ h => h
        | goto l => exact hq
        | panic c => exact hq
        | outgrown => exact hq
      | false =>
        refine wpIn_cond_false hc (wpIn_mono (ihy hok.2 _ Q fr a w ha h) ?_)
        intro e a1 w1 hq
        cases e with
        | normal => exact Post.mono hq (fun i hi => by simp [writes, hi]) fun _ _ h => h
        | exit id => exact Post.mono hq (fun i hi => by simp [writes, hi]) fun _ _ h => h
        | ret => exact Post.mono hq (fun i hi => by simp [writes, hi]) fun _ _ h => h
        | goto l => exact hq
        | panic c => exact hq
        | outgrown => exact hq
    · exact h.elim
  | block id x ih =>
    intro hok ann Q fr a w ha h
    unfold vc at h
    refine wpIn_block (wpIn_mono (ih hok ann _ fr a w ha h) ?_)
    intro e a1 w1 hq
    cases e with
    | normal => exact hq
    | exit i =>
      by_cases hi : i = id
      · subst hi
        simp only [Exit.inBlock, if_true]
        have hq : Post (writes x) a (fun fr w => cond (Nat.beq i i) (Q .normal fr w) (Q (.exit i) fr w)) a1 w1 := hq
        refine Post.mono hq (fun i hi => hi) fun fr w h => ?_
        have h : cond (Nat.beq i i) (Q .normal fr w) (Q (.exit i) fr w) := h
        rw [Nat.beq_refl] at h
        exact h
      · simp only [Exit.inBlock, hi, if_false]
        have hq : Post (writes x) a (fun fr w => cond (Nat.beq i id) (Q .normal fr w) (Q (.exit i) fr w)) a1 w1 := hq
        refine Post.mono hq (fun i hi => hi) fun fr w h => ?_
        have h : cond (Nat.beq i id) (Q .normal fr w) (Q (.exit i) fr w) := h
        have hb : Nat.beq i id = false := by
          cases hb : Nat.beq i id with
          | false => rfl
          | true => exact absurd (Nat.eq_of_beq_eq_true hb) hi
        rw [hb] at h
        exact h
    | ret => exact hq
    | goto l => exact hq
    | panic c => exact hq
    | outgrown => exact hq
  | loop c ih =>
    intro hok ann Q fr a w ha h
    unfold vc at h
    split at h
    · rename_i ks W r
      split at h
      · rename_i s0 hs0
        obtain ⟨hsub, h⟩ := gate_elim h
        refine wpIn_loop_lfp fun R hR => ?_
        have key := h (fun s w => ∀ a', Agree (head ks W fr s) a' → Keep (writes c) a a' → R a' w) (by
          intro s w1 hb a1 ha1 hk1
          refine hR a1 w1 (wpIn_mono (ih hok r _ _ a1 w1 ha1 hb) ?_)
          intro e a2 w2 hq
          cases e with
          | normal =>
            obtain ⟨fr2, ha2, hk2, hq⟩ := hq
            unfold leaf at hq
            simp only at hq
            split at hq
            · rename_i s2 hs2
              have hk : Keep (writes c) a a2 := hk1.trans hk2
              exact hq a2 (getKs_put ha2 (forget_agree ha (hk.mono (subL_mem hsub)) ha2.nod) hs2) hk
            · exact hq.elim
          | exit id => exact Post.after hk1 hq
          | ret => exact Post.after hk1 hq
          | goto l => exact hq
          | panic c => exact hq
          | outgrown => exact hq)
        exact key a (getKs_put ha (forget_agree ha (.refl _ _) ha.nod) hs0) (.refl _ _)
      · exact h.elim
    · exact h.elim
  | scope x ih => intro hok; cases hok
  | exit id => intro _ ann Q fr a w ha h; exact wpIn_exit ⟨fr, ha, .refl _ _, h⟩
  | ret => intro _ ann Q fr a w ha h; exact wpIn_ret ⟨fr, ha, .refl _ _, h⟩
  | label l => intro _ ann Q fr a w ha h; exact wpIn_label ⟨fr, ha, .refl _ _, h⟩
  | _ => intro _ ann Q fr a w ha h; exact h.elim
end Go.Vc

set_option linter.unusedVariables false
namespace Go.Proofs.YtmagnpcgpinmcaaGreat
open Go.Vc Go.RowKit
set_option maxRecDepth 400000
/-- The body of the first range over a function in this code. -/
def rfBody : Code → Option Code
  | .seq x y => match rfBody x with | some b => some b | none => rfBody y
  | .block _ x => rfBody x
  | .loop x => rfBody x
  | .scope x => rfBody x
  | .cond _ x y => match rfBody x with | some b => some b | none => rfBody y
  | .rangeFunc _ _ _ b => some b
  | _ => none
def sh_encBody (p : Addr) (x : Slc) (w : World) (K : World → Prop) : Prop :=
  loopP (σ := Int × Int × Unit) (fun I1 s w1 =>
    cond (decide (s.2.1 < (3 : Int)))
      (0 ≤ (8 : Int) ∧
       cond (decide (s.2.1 < ((x.n : Nat) : Int)))
         (ixK x s.2.1 1 fun t23 =>
          ldI .u8 t23 w1 fun t24 =>
          I1 ((bitsR .or .u32 (IntKind.u32.wrap (s.1 * 2 ^ (min (8 : Int).toNat IntKind.u32.bits))) (IntKind.u32.wrap t24)), (IntKind.i64.wrap (s.2.1 + (1 : Int))), ()) w1)
         (I1 ((IntKind.u32.wrap (s.1 * 2 ^ (min (8 : Int).toNat IntKind.u32.bits))), (IntKind.i64.wrap (s.2.1 + (1 : Int))), ()) w1))
      (loopP (σ := Int × Unit) (fun I2 s_1 w2 =>
         cond (decide (s_1.1 < (4 : Int)))
           (cond (decide (s_1.1 > ((x.n : Nat) : Int)))
              (ldSl p w2 fun t35 =>
               nw ty_uint8 [(.int .u8 61)] w2 fun t36 w3 =>
               apK PG #[ty_sl_uint8, ty_sl_uint8] ty_sl_uint8 t35 (⟨(some t36), 1, 1⟩ : Slc) w3 fun t37 w4 =>
               stK p [(.slice t37.a t37.n t37.c)] w4 fun w5 =>
               I2 ((IntKind.i64.wrap (s_1.1 + (1 : Int))), ()) w5)
              (ldSl p w2.drew fun t38 =>
               0 ≤ (IntKind.i64.wrap ((18 : Int) - (IntKind.i64.wrap ((6 : Int) * s_1.1)))) ∧
               ixS (⟨#[65, 66, 67, 68, 69, 70, 71, 72, 73, 74, 75, 76, 77, 78, 79, 80, 81, 82, 83, 84, 85, 86, 87, 88, 89, 90, 97, 98, 99, 100, 101, 102, 103, 104, 105, 106, 107, 108, 109, 110, 111, 112, 113, 114, 115, 116, 117, 118, 119, 120, 121, 122, 48, 49, 50, 51, 52, 53, 54, 55, 56, 57, 43, 47]⟩ : ByteArray) (bitsR .and .u32 (s.1.fdiv (2 ^ (min (IntKind.i64.wrap ((18 : Int) - (IntKind.i64.wrap ((6 : Int) * s_1.1)))).toNat IntKind.u32.bits))) (63 : Int)) fun t45 =>
               nw ty_uint8 [(.int .u8 t45)] w2.drew fun t46 w6 =>
               World.cell? w6 p = some (.slice t38.a t38.n t38.c) ∧
               apK PG #[ty_sl_uint8, ty_sl_uint8] ty_sl_uint8 t38 (⟨(some t46), 1, 1⟩ : Slc) w6 fun t47 w7 =>
               stK p [(.slice t47.a t47.n t47.c)] w7 fun w8 =>
               I2 ((IntKind.i64.wrap (s_1.1 + (1 : Int))), ()) w8))
           (K w2)) (0, ()) w1)) (0, 0, ()) w
def an_encBody : List Ann := [.none, .none, .none, .join [(5, (Kind.int .u32)), (11, (Kind.int .i64))] [5, 6, 11, 12, 13, 14, 15, 16, 17, 18, 19, 20, 21, 22, 23, 24, 25, 26, 27], .none, .none, .none, .none, .none, .none, .none, .join [(28, (Kind.int .i64))] [7, 28, 29, 30, 31, 32, 33, 34, 35, 36, 37, 38, 39, 40, 41, 42, 43, 44, 45, 46, 47, 48], .none, .none, .none, .none, .none, .none, .none]
def fr_encBody (p : Addr) (x : Slc) : Fr := [none, none, none, some (.pointer (some p)), some (.slice x.a x.n x.c), none, none, none, none, none, none, none, none, none, none, none, none, none, none, none, none, none, none, none, none, none, none, none, none, none, none, none, none, none, none, none, none, none, none, none, none, none, none, none, none, none, none, none, none, none]
/-- The formula's end: the code comes to its end. -/
def onN (K : World → Prop) : X → Fr → World → Prop
  | .normal, _, w => K w
  | _, _, _ => False
def agL : Fr → List Value → Prop
  | [], [] => True
  | o :: fr, v :: l => (∀ u, o = some u → v = u) ∧ agL fr l
  | _, _ => False
theorem agL_at : ∀ {fr : Fr} {l : List Value}, agL fr l → ∀ (i : Nat) (v : Value), fr[i]? = some (some v) → l[i]? = some v
  | [], [], _, i, v, h => by simp at h
  | o :: fr, u :: l, h, 0, v, hv => by
    simp only [List.getElem?_cons_zero, Option.some.injEq] at hv ⊢
    exact h.1 v hv
  | o :: fr, u :: l, h, i + 1, v, hv => by
    rw [List.getElem?_cons_succ] at hv ⊢
    exact agL_at h.2 i v hv
  | [], _ :: _, h, _, _, _ => h.elim
  | _ :: _, [], h, _, _, _ => h.elim
theorem vc_encBody (p : Addr) (x : Slc) (w : World) (K : World → Prop) : vc C ((rfBody (Tryz.f44.body.getD .skip)).getD .skip) an_encBody (onN K) (fr_encBody p x) w = sh_encBody p x w K := by kernel_rfl
/-- The number of the first k bytes of three. -/
def numT (x : List UInt8) : Nat → Nat
  | 0 => 0
  | k + 1 => numT x k * 256 + (x.getD k 0).toNat
theorem numT_lt (x : List UInt8) : ∀ k, numT x k < 256 ^ k
  | 0 => by show 0 < 1; omega
  | k + 1 => by
    have h := numT_lt x k
    have hb := (x.getD k 0).toNat_lt
    show numT x k * 256 + _ < 256 ^ k * 256
    omega
theorem numT_three (x : List UInt8) : numT x 3 = num3 x := by
  show ((0 * 256 + (x.getD 0 0).toNat) * 256 + (x.getD 1 0).toNat) * 256 + (x.getD 2 0).toNat = _
  unfold num3
  omega
theorem enc3_take {x : List UInt8} {k : Nat} (h : k < 4) : (enc3 x).take (k + 1) = (enc3 x).take k ++ [enc1 x k] := by
  rw [List.take_add_one]
  congr 1
  unfold enc3
  rw [List.getElem?_map, List.getElem?_range h]
  rfl
section
variable {w : World}
theorem ix_alpha {v : Nat} (h : v < 64) {K : Int → Prop} (hK : K (((sgn6 v).toNat : Nat) : Int)) : ixS (⟨#[65, 66, 67, 68, 69, 70, 71, 72, 73, 74, 75, 76, 77, 78, 79, 80, 81, 82, 83, 84, 85, 86, 87, 88, 89, 90, 97, 98, 99, 100, 101, 102, 103, 104, 105, 106, 107, 108, 109, 110, 111, 112, 113, 114, 115, 116, 117, 118, 119, 120, 121, 122, 48, 49, 50, 51, 52, 53, 54, 55, 56, 57, 43, 47]⟩ : ByteArray) (v : Int) K := by
  refine ⟨⟨by omega, ?_⟩, ?_⟩
  · show (v : Int) < ((64 : Nat) : Int)
    omega
  · rw [Int.toNat_natCast, Array.getD_eq_getD_getElem?, ← Array.getElem?_toList]
    exact hK
theorem encBody_spec {M bo : Nat} {x s : Slc} {cs xs : List UInt8} {K : World → Prop} (hbox : Blk w bo ty_sl_uint8 [.slice s.a s.n s.c]) (hown : Go.Vc.Own E_uint8 w M s xs) (hM : M ≤ w.heap.size) (hbo : bo < M) (hx : Rd E_uint8 w x cs) (hxl : ∀ k, x.blk = some k → k < M ∧ k ≠ bo) (hc1 : 1 ≤ cs.length) (hc3 : cs.length ≤ 3) (hl : xs.length ≤ 100000000)
    (hK : ∀ s' w', Blk w' bo ty_sl_uint8 [.slice s'.a s'.n s'.c] → Go.Vc.Own E_uint8 w' M s' (xs ++ enc3 cs) → Chg (fun k => k = bo ∨ s.blk = some k) w w' → K w') : sh_encBody ⟨bo, 0, none⟩ x w K := by
  unfold sh_encBody
  refine loopP_rule (fun st w1 => w1 = w ∧ ∃ k : Nat, k ≤ 3 ∧ st.1 = ((numT cs k : Nat) : Int) ∧ st.2.1 = (k : Int)) (fun st => 3 - st.2.1.toNat) ⟨rfl, 0, by omega, rfl, rfl⟩ ?_
  rintro ⟨v0, i0, u⟩ w1 ⟨rfl, k, hk, hv, hi⟩ I hI
  dsimp only at hv hi ⊢
  subst hv hi
  rw [hx.n]
  refine cond_of (fun e => ?_) fun e => ?_
  · have e := of_decide_eq_true e
    have hlt := numT_lt cs k
    have h2 : 256 ^ k ≤ 256 ^ 2 := Nat.pow_le_pow_right (by omega) (by omega)
    have esh : IntKind.u32.wrap (((numT cs k : Nat) : Int) * 2 ^ (min (8 : Int).toNat IntKind.u32.bits)) = ((numT cs k * 256 : Nat) : Int) := by
      rw [show min (8 : Int).toNat IntKind.u32.bits = 8 by decide, show ((numT cs k : Nat) : Int) * 2 ^ 8 = ((numT cs k * 256 : Nat) : Int) by simp]
      exact wrap_nat .u32 (by show _ < 2 ^ 32; omega)
    rw [esh, wrap64_id (by omega), show (k : Int) + 1 = ((k + 1 : Nat) : Int) by simp]
    refine ⟨by omega, cond_of (fun e2 => ?_) fun e2 => ?_⟩
    · have e2 := of_decide_eq_true e2
      have hkl : k < cs.length := by omega
      refine hx.ix (i := (k : Int)) rfl (by omega) (by omega) fun hcell => ?_
      rw [Int.toNat_natCast]
      refine ldI_of (x := ((cs[k].toNat : Nat) : Int)) (by simpa using hcell 0 _ rfl) ?_
      have hb := cs[k].toNat_lt
      rw [wrap_nat .u32 (by show _ < 2 ^ 32; omega), bits_or .u32 (by show _ < 2 ^ 32; omega) (by show _ < 2 ^ 32; omega)]
      have eor : (numT cs k * 256) ||| cs[k].toNat = numT cs (k + 1) := by
        have := Nat.two_pow_add_eq_or_of_lt (i := 8) (b := cs[k].toNat) (by omega) (numT cs k)
        rw [Nat.mul_comm]
        rw [show (256 : Nat) = 2 ^ 8 from rfl, ← this]
        show _ = numT cs k * 256 + (cs.getD k 0).toNat
        rw [List.getD_eq_getElem?_getD, List.getElem?_eq_getElem hkl, Nat.mul_comm]
        rfl
      rw [eor]
      exact hI _ _ ⟨rfl, k + 1, by omega, rfl, rfl⟩ (by dsimp only; omega)
    · have e2 := of_decide_eq_false e2
      have ez : numT cs k * 256 = numT cs (k + 1) := by
        show _ = numT cs k * 256 + (cs.getD k 0).toNat
        rw [List.getD_eq_getElem?_getD, List.getElem?_eq_none (by omega)]
        rfl
      rw [ez]
      exact hI _ _ ⟨rfl, k + 1, by omega, rfl, rfl⟩ (by dsimp only; omega)
  · have e := of_decide_eq_false e
    obtain rfl : k = 3 := by omega
    rw [numT_three]
    have h24 : num3 cs < 2 ^ 24 := by rw [← numT_three]; exact numT_lt cs 3
    refine loopP_rule (fun st w2 => ∃ (k : Nat) (s' : Slc), k ≤ 4 ∧ st.1 = (k : Int) ∧ Blk w2 bo ty_sl_uint8 [.slice s'.a s'.n s'.c] ∧ Go.Vc.Own E_uint8 w2 M s' (xs ++ (enc3 cs).take k) ∧ Chg (fun k => k = bo ∨ s.blk = some k) w1 w2 ∧ (∀ k, s'.blk = some k → s.blk = some k ∨ w1.heap.size ≤ k)) (fun st => 4 - st.1.toNat)
      ⟨0, s, by omega, rfl, hbox, by simpa using hown, Chg.refl _ _, fun k hk => .inl hk⟩ ?_
    rintro ⟨i0, u⟩ w2 ⟨k, s', hk, hi, hb2, ho2, hc2, hs2⟩ I hI
    dsimp only at hi ⊢
    subst hi
    have hsz2 := hc2.size
    have hlen : (xs ++ (enc3 cs).take k).length ≤ 100000004 := by rw [List.length_append, List.length_take, enc3_len]; omega
    have hne : ∀ k, s'.blk = some k → k ≠ bo := fun k hk => by have := (ho2.lt k hk).1; omega
    refine cond_of (fun e => ?_) fun e => ?_
    · have e := of_decide_eq_true e
      have hk4 : k < 4 := by omega
      rw [wrap64_id (x := (k : Int) + 1) (by omega), show (k : Int) + 1 = ((k + 1 : Nat) : Int) by simp]
      -- one byte more
      have go : ∀ {w3 : World} {b : UInt8}, b = enc1 cs k → Below w2.heap.size w2 w3 → ∀ r w5, Go.Vc.Own E_uint8 w5 M r ((xs ++ (enc3 cs).take k) ++ [b]) → Chg (fun k => s'.blk = some k) w3 w5 → (r.blk = s'.blk ∨ ∃ k, r.blk = some k ∧ w3.heap.size ≤ k) → stK (⟨bo, 0, none⟩ : Addr) [(.slice r.a r.n r.c)] w5 fun w6 => I (((k + 1 : Nat) : Int), ()) w6 := by
        intro w3 b hbv hB3 r w5 hr5 hch hrb
        have hs3 := hB3.size
        have hb5 : Blk w5 bo ty_sl_uint8 [.slice s'.a s'.n s'.c] := (hb2.ext hB3).chg hch fun e => hne _ e rfl
        have hrne : ∀ k, r.blk = some k → k ≠ bo := fun k hk => by have := (hr5.lt k hk).1; omega
        refine stK_blk hb5 (by simp) fun w6 hb6 hg6 hs6 => ?_
        refine hI _ _ ⟨k + 1, r, by omega, rfl, hb6, ?_, ?_, ?_⟩ (by dsimp only; omega)
        · rw [enc3_take hk4, ← List.append_assoc, ← hbv]
          exact hr5.chg (Chg.gg hg6) fun k hk e => hrne k hk e
        · refine hc2.trans (Chg.trans (Chg.trans (Chg.of_ext (S := fun k => k = bo ∨ s'.blk = some k) hB3) (hch.mono fun i hi h => .inr h) fun i hi h => h) ((Chg.gg hg6).mono fun i hi h => .inl h) fun i hi h => h) fun i hi h => ?_
          rcases h with h | h
          · exact .inl h
          · rcases hs2 i h with h2 | h2
            · exact .inr h2
            · omega
        · intro k hk
          rcases hrb with h | ⟨k', h, h'⟩
          · exact hs2 k (by rw [← h]; exact hk)
          · rw [h] at hk
            cases hk
            exact .inr (by omega)
      refine cond_of (fun e2 => ?_) fun e2 => ?_
      · have e2 := of_decide_eq_true e2
        refine ldSl_of (x := s') (hb2.cell 0 rfl) ?_
        refine apB1 (c := 61) rfl ho2 (by omega) (by omega) fun r w5 hr5 hch hrb => ?_
        exact go (by unfold enc1; rw [if_pos (by omega)]) (Below.refl _ _) r w5 hr5 hch hrb
      · have e2 := of_decide_eq_false e2
        have hBd := below_drew w2
        refine ldSl_of (x := s') ((hb2.ext hBd).cell 0 rfl) ?_
        rw [wrap64_id (x := (6 : Int) * (k : Int)) (by omega), wrap64_id (by omega)]
        have e18 : ((18 : Int) - (6 : Int) * (k : Int)) = ((18 - 6 * k : Nat) : Int) := by omega
        rw [e18, Int.toNat_natCast, show min (18 - 6 * k) IntKind.u32.bits = 18 - 6 * k by show min _ 32 = _; omega, fdiv_nat]
        have hdv : num3 cs / 2 ^ (18 - 6 * k) < 2 ^ 32 := Nat.lt_of_le_of_lt (Nat.div_le_self _ _) (by omega)
        rw [show (63 : Int) = ((63 : Nat) : Int) from rfl, bits_and .u32 hdv (by show 63 < 2 ^ 32; omega), show (63 : Nat) = 2 ^ 6 - 1 from rfl, Nat.and_two_pow_sub_one_eq_mod]
        refine ⟨by omega, ix_alpha (Nat.mod_lt _ (by decide)) ?_⟩
        refine nw_blk fun w6 hb6 hB6 hs6 => ?_
        refine ⟨((hb2.ext hBd).ext hB6).cell 0 rfl, ?_⟩
        have hB26 := below_t hBd hB6
        have hr6 : Rd E_uint8 w6 ⟨some ⟨w2.drew.heap.size, 0, none⟩, 1, 1⟩ [enc1 cs k] := rd_one (E := E_uint8) hb6 (by
          unfold enc1
          rw [if_neg (by omega)]
          rfl)
        refine apB (ho2.ext hB26) hr6 (by have := hB26.size; omega) (by simp only [List.length_singleton]; omega) fun r w5 hr5 hch hrb => ?_
        refine go rfl hB26 r w5 hr5 hch ?_
        rcases hrb with h | h
        · exact .inl h
        · exact .inr ⟨_, h, Nat.le_refl _⟩
    · have e := of_decide_eq_false e
      obtain rfl : k = 4 := by omega
      rw [List.take_of_length_le (by rw [enc3_len]; exact Nat.le_refl _)] at ho2
      exact hK s' w2 hb2 ho2 hc2
end
end Go.Proofs.YtmagnpcgpinmcaaGreat

set_option linter.unusedVariables false
namespace Go.Proofs.YtmagnpcgpinmcaaGreat
open Go.RowKit Go.Shelf Go.Vc
attribute [local go_sem] Oper.semAt_some
def upto {α : Type} (f : Nat → α) (k : Nat) : List α := (List.range k).map f
theorem upto_succ {α : Type} (f : Nat → α) (k : Nat) : upto f (k + 1) = upto f k ++ [f k] := by simp [upto, List.range_succ]
theorem upto_length {α : Type} (f : Nat → α) (k : Nat) : (upto f k).length = k := by simp [upto]
/-- The k-th chunk of a row of so many bytes. -/
def ckf (b off len k : Nat) : Slc := ⟨some ⟨b, off + 3 * k, none⟩, min 3 (len - 3 * k), min 3 (len - 3 * k)⟩
def ckN (len : Nat) : Nat := (len + 2) / 3
def encS (x : Slc) : Array Value := #[.slice x.a x.n x.c]
/-- These two blocks are as they were. -/
structure Kp2 (Bs b : Nat) (A B : World) : Prop where
  h1 : B.heap[Bs]? = A.heap[Bs]?
  h2 : B.heap[b]? = A.heap[b]?
theorem Kp2.refl (Bs b : Nat) (A : World) : Kp2 Bs b A A := ⟨rfl, rfl⟩
theorem Kp2.trans {Bs b : Nat} {A B C : World} (h : Kp2 Bs b A B) (k : Kp2 Bs b B C) : Kp2 Bs b A C := ⟨k.h1.trans h.h1, k.h2.trans h.h2⟩
theorem Kp2.c1 {Bs b : Nat} {A B : World} (h : Kp2 Bs b A B) : B.cell? ⟨Bs, 0, none⟩ = A.cell? ⟨Bs, 0, none⟩ := World.cell?_of_block h.h1
theorem Kp2.c2 {Bs b : Nat} {A B : World} (h : Kp2 Bs b A B) : B.cell? ⟨b, 0, none⟩ = A.cell? ⟨b, 0, none⟩ := World.cell?_of_block h.h2
theorem Kp2.below {Bs b : Nat} {A B : World} (h : Below A.heap.size A B) (h1 : Bs < A.heap.size) (h2 : b < A.heap.size) : Kp2 Bs b A B := ⟨h.block _ h1, h.block _ h2⟩
theorem Kp2.drew (Bs b : Nat) (A : World) : Kp2 Bs b A A.drew := ⟨rfl, rfl⟩
theorem upto_split {α : Type} (f : Nat → α) {k n : Nat} (h : k < n) : ∃ t, upto f n = upto f k ++ f k :: t := by
  refine ⟨(upto f n).drop (k + 1), ?_⟩
  have h1 : upto f k = (upto f n).take k := by
    unfold upto
    rw [← List.map_take, List.take_range, Nat.min_eq_left (by omega)]
  have h2 : (upto f n)[k]? = some (f k) := by
    unfold upto
    rw [List.getElem?_map, List.getElem?_range h]
    rfl
  have hk : k < (upto f n).length := by rw [upto_length]; exact h
  have h3 : f k = (upto f n)[k] := by
    rw [List.getElem?_eq_getElem hk] at h2
    exact (Option.some.inj h2).symm
  rw [h1, h3, List.getElem_cons_drop, List.take_append_drop]
/-- Whatever a drawn order leaves standing, the closure hands on, for all it gives. -/
def DrewSeq {α : Type} (F : Fence) (n : Nat) (P : Program) (gf : Nat) (lb : Array Value) (encs : α → Array Value) (Kp : World → World → Prop) (xs : List α) (w0 : World) : Prop :=
  ∀ (l : Nat) (J : List α → World → Prop) (W : World), Below w0.heap.size w0 W → (∀ pre A, J pre A → J pre A.drew) →
    (∀ pre x W1, J pre W1 → (∃ t, xs = pre ++ x :: t) → YieldAt F (n - 1) P l (encs x) W1 fun e W' => e = .returned (.bool true) ∧ J (pre ++ [x]) W' ∧ Kp W1 W') →
    J [] W → CallsIn F n P gf (#[.func (.yield l) #[] #[]] ++ lb) W fun e W' => (∃ v, e = .returned v) ∧ J xs W'
/-- A range over such a closure, whose body never leaves. -/
theorem range_drew {F : Fence} {n : Nat} {P : Program} {α : Type} {g : Operand} {ps : Array Tmp} {assign body : Code} {Q : Exit → Act → World → Prop} {a : Act} {w : World}
    (hro : F.round = none) (h1 : 1 ≤ n) {gf : Nat} {lb : Array Value} (hg : a.eval g = .func (.func gf) #[] lb) (hFg : F.fn gf) (eg : ∀ args w, (callFunc gf args).run P w = .ok (.enter gf args) w)
    {encs : α → Array Value} {Kp : World → World → Prop} {xs : List α} (hseq : DrewSeq F (n - 1) P gf lb encs Kp xs w)
    (hKt : ∀ {A B C : World}, Kp A B → Kp B C → Kp A C) (hKb : ∀ (W : World) (l : Nat) (o : Obj), w.heap.size ≤ l → Kp W (W.putObj l o)) (hps : ∀ x, (encs x).size = ps.size)
    (I : List α → World → Prop) (hI : OwnFrom w.heap.size I) (hId : ∀ pre A, I pre A → I pre A.drew) (h0 : I [] w) (a₁ : α → Act)
    (hassign : ∀ (l : Nat) (x : α) (W : World) (K : Act → World → Prop), K (a₁ x) W →
      assign.wpIn (F.inRound l) (n - 1 - 1) P (Exit.then K (fun _ _ _ => False)) { tmps := (ps.zip (encs x)).foldl (fun t (p, v) => t.setIfInBounds p v) a.tmps, defers := [] } W)
    (hbody : ∀ (l : Nat) (pre : List α) (x : α) (W : World), I pre W → (∃ t, xs = pre ++ x :: t) → body.wpIn (F.inRound l) (n - 1 - 1) P (fun e _ W' => e = .normal ∧ KeepsOthers W W' ∧ Kp W W' ∧ I (pre ++ [x]) W') (a₁ x) W)
    (hdone : ∀ (D : Nat) (W : World), w.heap.size ≤ D → I xs W → W.heap[D]? = some (.deferred (some [])) → Q .normal { a with defers := { target := .collected D, args := #[] } :: a.defers } W) :
    (Code.rangeFunc g ps assign body).wpIn F n P Q a w := by
  refine wpIn_rangeFunc fun fn hfn => ?_
  rw [hro]
  obtain ⟨rec, hrec⟩ : ∃ rec : LoopState → Option Code → Loop, rec = fun st pe => { state := st, pending := pe, fn, tmps := a.tmps, params := ps, assign, body, defers := w.heap.size } := ⟨_, rfl⟩
  obtain ⟨W1, hW1⟩ : ∃ W1, (w.alloc (.deferred (some []))).alloc (.loop (rec .ready none)) = W1 := ⟨_, rfl⟩
  obtain ⟨L, hL⟩ : ∃ L, w.heap.size = L := ⟨_, rfl⟩
  have hL1 : W1.heap[L + 1]? = some (.loop (rec .ready none)) := by
    rw [← hW1, ← hL]
    have := World.alloc_heap_new (w.alloc (.deferred (some []))) (.loop (rec .ready none))
    rwa [World.size_alloc] at this
  have hK1 : W1.heap[L]? = some (.deferred (some [])) := by
    rw [← hW1, ← hL]
    exact (Below.heap_alloc _ _ _ (by simp)).trans (World.alloc_heap_new w _)
  have hI1 : I [] W1 := by rw [← hW1]; exact hI.alloc _ (hI.alloc _ h0)
  have hb1 : Below w.heap.size w W1 := by
    rw [← hW1]
    exact ((Below.refl _ w).alloc (Nat.le_refl _) _).alloc (by simp) _
  have hcall : CallsIn F (n - 1) P gf (#[.func (.yield (L + 1)) #[] #[]] ++ lb) W1 fun e W' => (∃ v, e = .returned v) ∧ I xs W' ∧ W'.heap[L + 1]? = some (.loop (rec .ready none)) ∧ W'.heap[L]? = some (.deferred (some [])) := by
    refine hseq (L + 1) (fun pre W => I pre W ∧ W.heap[L + 1]? = some (.loop (rec .ready none)) ∧ W.heap[L]? = some (.deferred (some []))) W1 hb1 ?_ ?_ ⟨hI1, hL1, hK1⟩
    · rintro pre A ⟨hi, hl, hk⟩
      exact ⟨hId _ _ hi, hl, hk⟩
    · rintro pre x W ⟨hi, hl, hk⟩ hx
      have hlt : L + 1 < W.heap.size := (Array.getElem?_eq_some_iff.1 hl).1
      have hy := run_yield (P := P) (args := encs x) hl (by rw [hrec]; exact hps x)
      rw [hrec] at hy
      refine ⟨fn, _, assign, body, hy, roundIn_of_wpIn hfn (hassign _ x W _ ⟨_, run_beginRound hl (by rw [hrec]), ?_⟩)⟩
      obtain ⟨W2, hW2⟩ : ∃ W2, W.putObj (L + 1) (.loop { rec .ready none with state := .busy }) = W2 := ⟨_, rfl⟩
      have hl2 : W2.heap[L + 1]? = some (.loop { rec .ready none with state := .busy }) := by rw [← hW2]; exact World.putObj_heap_same hlt
      have hk2 : W2.heap[L]? = some (.deferred (some [])) := by rw [← hW2]; exact (World.putObj_heap_other (by omega)).trans hk
      have hw2 : Kp W W2 := by rw [← hW2]; exact hKb _ _ _ (by omega)
      have hi2 : I pre W2 := by rw [← hW2]; exact hI.putObj _ hi (by omega) hl rfl
      rw [hW2]
      refine wpIn_mono (hbody _ pre x W2 hi2 hx) ?_
      rintro e a3 W3 ⟨rfl, hk3, hkp3, hi3⟩
      have hl3 := hk3.same _ _ hl2 rfl
      have hr := run_endRound (P := P) none hl3
      rw [hrec] at hr hl3
      refine ⟨_, _, hr, rfl, ⟨hI.putObj _ hi3 (by omega) hl3 rfl, ?_, ?_⟩, hKt (hKt hw2 hkp3) (hKb _ _ _ (by omega))⟩
      · rw [hrec]
        exact World.putObj_heap_same (Array.getElem?_eq_some_iff.1 hl3).1
      · exact (World.putObj_heap_other (by omega)).trans (hk3.same _ _ hk2 rfl)
  refine ⟨L + 1, [{ target := .collected L, args := #[] }], W1, { target := .fn (.func gf) lb, args := #[.func (.yield (L + 1)) #[] #[]] }, W1, gf, #[.func (.yield (L + 1)) #[] #[]] ++ lb, W1, ?_, ?_, ?_, ?_, fun _ => h1, ?_⟩
  · rw [← hW1, hrec, ← hL]; exact run_enterLoop_outer _ _ _ _ _
  · simp only [resolve, hg]
    simp [go_sem]
  · intro f' hf'; simp [Target.leads] at hf'; subst hf'; exact hFg
  · simp [invoke, go_sem, eg]
  · refine hcall.mono ?_
    rintro e W2 ⟨⟨v, rfl⟩, hi, hl, hk⟩
    have he := run_endLoop (P := P) hl (by rw [hrec]; simp)
    rw [hrec] at he
    exact ⟨none, _, he, hdone _ _ (by omega) (hI.putObj _ hi (by omega) hl rfl) ((World.putObj_heap_other (by omega)).trans hk)⟩
set_option maxRecDepth 100000 in
set_option maxHeartbeats 2000000 in
theorem chunk1_in (F : Fence) (n : Nat) (hfn : F.fn 143) (hro : F.round = none) (hn : 1 ≤ n) (l Bs Bn b off len cap : Nat) (hreach : len ≤ 1000000) (hcap : len ≤ cap) (J : List Slc → World → Prop) (hJd : ∀ pre A, J pre A → J pre A.drew)
    (hY : ∀ pre x W, J pre W → (∃ t, upto (ckf b off len) (ckN len) = pre ++ x :: t) → YieldAt F (n - 1) Tryz.prog l (encS x) W fun e W' => e = .returned (.bool true) ∧ J (pre ++ [x]) W' ∧ Kp2 Bs Bn W W')
    (W : World) (hBs : W.cell? ⟨Bs, 0, none⟩ = some (.slice (some ⟨b, off, none⟩) len cap)) (hBn : W.cell? ⟨Bn, 0, none⟩ = some (.int .i64 3)) (h0 : J [] W) :
    CallsIn F n Tryz.prog 143 #[.func (.yield l) #[] #[], .pointer (some ⟨Bs, 0, none⟩), .pointer (some ⟨Bn, 0, none⟩)] W fun e W' => (∃ v, e = .returned v) ∧ J (upto (ckf b off len) (ckN len)) W' := by
  refine callsIn_of_wp Tryz.func143 rfl hfn ?_ hro
  simp only [Tryz.ntmps143, List.size_toArray, List.length_cons, List.length_nil, Nat.reduceAdd, Nat.reduceSub, Array.replicate_succ, Array.replicate_zero, List.push_toArray, List.append_toArray, List.nil_append, List.cons_append]
  gi_wp2
  gi_loopw [4] (fun i wr => ∃ k : Nat, k ≤ ckN len ∧ i = .int .i64 ((3 * k : Nat) : Int) ∧ J (upto (ckf b off len) k) wr ∧ Kp2 Bs Bn W wr)
    (fun i _ => (len + 3 - (intOf i).toNat))
  case atStart => exact ⟨0, Nat.zero_le _, by simp, h0, Kp2.refl _ _ _⟩
  case round =>
    obtain ⟨k, hk, rfl, hJs, hnx⟩ := hrel
    have hbx : wr.cell? ⟨Bs, 0, none⟩ = some (.slice (some ⟨b, off, none⟩) len cap) := hnx.c1.trans hBs
    have hbn : wr.cell? ⟨Bn, 0, none⟩ = some (.int .i64 3) := hnx.c2.trans hBn
    by_cases hlt : 3 * k < len
    · obtain ⟨fn, tmps, assign, body, hy, hR⟩ := hY _ (ckf b off len k) wr.drew (hJd _ _ hJs) (upto_split _ (by unfold ckN; omega))
      gi_wp2
      have hbx2 : wr.drew.cell? ⟨Bs, 0, none⟩ = some (.slice (some ⟨b, off, none⟩) len cap) := hbx
      have hbn2 : wr.drew.cell? ⟨Bn, 0, none⟩ = some (.int .i64 3) := hbn
      obtain ⟨e, he⟩ : ∃ e, e = min 3 (len - 3 * k) := ⟨_, rfl⟩
      have hif : (if ((len - 3 * k : Nat) : Int) < 3 then ((len - 3 * k : Nat) : Int) else 3) = (e : Int) := by
        split <;> omega
      have hmn : min (3 : Int) ((len - 3 * k : Nat) : Int) = (e : Int) := by omega
      have he1 : 1 ≤ e ∧ e ≤ 3 ∧ 3 * k + e ≤ len := by omega
      have hck : ckf b off len k = ⟨some ⟨b, off + 3 * k, none⟩, e, e⟩ := by unfold ckf; rw [← he]
      rw [hck] at hy hR
      simp only [encS] at hy
      have hcont : ∀ W', J (upto (ckf b off len) k ++ [ckf b off len k]) W' → J (upto (ckf b off len) (k + 1)) W' := fun W' h => by rw [upto_succ]; exact h
      have hk1 : k + 1 ≤ ckN len := by unfold ckN; omega
      rw [← hck] at hR
      clear hck
      gi_region
      all_goals
        first | rw [← he] | rw [hmn] | rw [hif]
        clear he hif hmn
        gi_wp2
        refine hR.mono ?_
        rintro ee W3 ⟨rfl, hJ3, hk3⟩
        · have hb3 : W3.cell? ⟨Bn, 0, none⟩ = some (.int .i64 3) := hk3.c2.trans hbn2
          gi_wp2
          go_roundw
          case rel => exact ⟨k + 1, hk1, by congr 1, hcont _ hJ3, hnx.trans ((Kp2.drew _ _ _).trans hk3)⟩
          case measure => simp [intOf]; omega
    · obtain rfl : k = ckN len := by unfold ckN at hk ⊢; omega
      gi_wp2
      go_end0
      exact ⟨⟨_, rfl⟩, hJs⟩
theorem chunk1_nil_in (F : Fence) (n : Nat) (hfn : F.fn 143) (hro : F.round = none) (l Bs Bn : Nat) (J : List Slc → World → Prop) (W : World) (hBs : W.cell? ⟨Bs, 0, none⟩ = some (.slice none 0 0)) (h0 : J [] W) :
    CallsIn F n Tryz.prog 143 #[.func (.yield l) #[] #[], .pointer (some ⟨Bs, 0, none⟩), .pointer (some ⟨Bn, 0, none⟩)] W fun e W' => (∃ v, e = .returned v) ∧ J [] W' := by
  refine callsIn_of_wp Tryz.func143 rfl hfn ?_ hro
  simp only [Tryz.ntmps143, List.size_toArray, List.length_cons, List.length_nil, Nat.reduceAdd, Nat.reduceSub, Array.replicate_succ, Array.replicate_zero, List.push_toArray, List.append_toArray, List.nil_append, List.cons_append]
  gi_wp2
  gi_loopw [4] (fun i wr => i = .int .i64 0 ∧ wr = W) (fun _ _ => 0)
  case atStart => exact ⟨rfl, rfl⟩
  case round =>
    obtain ⟨rfl, rfl⟩ := hrel
    gi_wp2
    go_end0
    exact ⟨⟨_, rfl⟩, h0⟩
/-- The bytes of a slice, three at a time. -/
def cks (s : Slc) : List Slc := match s.a with
  | none => []
  | some a => upto (ckf a.block a.off s.n) (ckN s.n)
theorem chunk_seq (F : Fence) (n : Nat) (hfn : F.fn 143) (hro : F.round = none) (hn : 1 ≤ n) (Bs Bn : Nat) (s : Slc) (hreach : s.n ≤ 1000000) (hs : (s.a = none ∧ s.n = 0 ∧ s.c = 0) ∨ (∃ a, s.a = some a ∧ a.spot = none ∧ s.n ≤ s.c)) (w : World) (hBs : Bs < w.heap.size) (hBn : Bn < w.heap.size)
    (hc : w.cell? ⟨Bs, 0, none⟩ = some (.slice s.a s.n s.c)) (hcn : w.cell? ⟨Bn, 0, none⟩ = some (.int .i64 3)) :
    DrewSeq F n Tryz.prog 143 #[.pointer (some ⟨Bs, 0, none⟩), .pointer (some ⟨Bn, 0, none⟩)] encS (Kp2 Bs Bn) (cks s) w := fun l J W hW hJd hY h0 => by
  have hk := Kp2.below hW hBs hBn
  have hc' := hk.c1.trans hc
  have hn' := hk.c2.trans hcn
  rcases hs with ⟨h1, h2, h3⟩ | ⟨a, h1, h2, h3⟩
  · rw [h1, h2, h3] at hc'
    have e : cks s = [] := by unfold cks; rw [h1]
    rw [e]
    exact chunk1_nil_in F n hfn hro l Bs Bn J W hc' h0
  · obtain ⟨b, off, sub⟩ := a
    cases h2
    rw [h1] at hc'
    have e : cks s = upto (ckf b off s.n) (ckN s.n) := by unfold cks; rw [h1]
    rw [e] at hY ⊢
    exact chunk1_in F n hfn hro hn l Bs Bn b off s.n s.c hreach h3 J hJd hY W hc' hn' h0
end Go.Proofs.YtmagnpcgpinmcaaGreat

set_option linter.unusedVariables false
namespace Go.Proofs.YtmagnpcgpinmcaaGreat
open Go.Vc Go.RowKit Go.Shelf
set_option maxRecDepth 100000
attribute [local go_sem] Oper.semAt_some
theorem upto_at {α : Type} {f : Nat → α} {n : Nat} {pre t : List α} {x : α} (h : upto f n = pre ++ x :: t) : x = f pre.length ∧ pre.length < n := by
  have hl := congrArg List.length h
  rw [upto_length, List.length_append, List.length_cons] at hl
  have h2 : (upto f n)[pre.length]? = some x := by rw [h]; simp
  unfold upto at h2
  rw [List.getElem?_map, List.getElem?_range (by omega)] at h2
  exact ⟨(Option.some.inj h2).symm, by omega⟩
theorem encB_app : ∀ (n : Nat) (A : List UInt8), A.length = 3 * n → ∀ B, encB (A ++ B) = encB A ++ encB B
  | 0, A, h, B => by
    obtain rfl : A = [] := List.length_eq_zero_iff.1 (by omega)
    rfl
  | n + 1, a :: b :: c :: r, h, B => by
    have hr : r.length = 3 * n := by simp only [List.length_cons] at h; omega
    show encB (a :: b :: c :: (r ++ B)) = _
    rw [encB, encB, encB_app n r hr B, List.append_assoc]
  | n + 1, [a, b], h, B => by simp only [List.length_cons, List.length_nil] at h; omega
  | n + 1, [a], h, B => by simp only [List.length_cons, List.length_nil] at h; omega
  | n + 1, [], h, B => by simp only [List.length_nil] at h; omega
theorem encB_small : ∀ x : List UInt8, 1 ≤ x.length → x.length ≤ 3 → encB x = enc3 x
  | [], h, _ => by simp at h
  | [a], _, _ => rfl
  | [a, b], _, _ => rfl
  | [a, b, c], _, _ => by rw [encB]; simp [encB]
  | a :: b :: c :: d :: r, _, h => by simp at h
theorem encB_step {bs : List UInt8} {k : Nat} (h : 3 * k < bs.length) : encB (bs.take (3 * (k + 1))) = encB (bs.take (3 * k)) ++ enc3 ((bs.drop (3 * k)).take 3) := by
  have hl : (bs.take (3 * k)).length = 3 * k := by rw [List.length_take]; omega
  rw [show 3 * (k + 1) = 3 * k + 3 by omega, List.take_add, encB_app k _ hl, encB_small ((bs.drop (3 * k)).take 3) (by rw [List.length_take, List.length_drop]; omega) (by rw [List.length_take]; omega)]
/-- What has been written behind so many chunks. -/
def EncI (w : World) (bs : List UInt8) (bo M : Nat) (pre : List Slc) (W : World) : Prop :=
  ∃ s : Slc, Blk W bo ty_sl_uint8 [.slice s.a s.n s.c] ∧ Go.Vc.Own E_uint8 W M s (encB (bs.take (3 * pre.length))) ∧ Below bo w W ∧ M ≤ W.heap.size
theorem own_box {T : Type} {E : El T} {W : World} {M : Nat} {s : Slc} {xs : List T} (h : Go.Vc.Own E W M s xs) {W' : World} {row : Option Nat} (hg : W.grownBy W' row) (hr : ∀ r, row = some r → M ≤ r ∧ ∃ o : Obj, W.heap[r]? = some o ∧ o.isCells = false) : Go.Vc.Own E W' M s xs := by
  refine h.kept hg ?_
  cases hs : s.blk with
  | none => exact .inl rfl
  | some k =>
    refine .inr fun e => ?_
    obtain ⟨_, o, ho, hc⟩ := hr k e.symm
    obtain ⟨cs, hcs⟩ := h.blk_t hs
    rw [show W.heap[k]? = _ from hcs] at ho
    cases ho
    cases hc
theorem EncI_own (w : World) (bs : List UInt8) (bo M : Nat) (h1 : bo < M) : OwnFrom M (EncI w bs bo M) := by
  rintro pre W W' row ⟨s, p1, p2, p3, p4⟩ hg hr
  have hne : ∀ k, k < M → some k ≠ row := fun k hk e => by have := (hr k e.symm).1; omega
  exact ⟨s, Boxed.kept (show Boxed W bo _ _ from p1) hg (hne _ h1), own_box p2 hg hr, p3.grown hg (by omega) fun k e => by have := (hr k e).1; omega, Nat.le_trans p4 hg.size⟩
theorem EncI_drew (w : World) (bs : List UInt8) (bo M : Nat) : ∀ pre A, EncI w bs bo M pre A → EncI w bs bo M pre A.drew := by
  rintro pre A ⟨s, p1, p2, p3, p4⟩
  exact ⟨s, p1.ext (below_drew A), p2.ext (below_drew A), p3.drew, p4⟩
section
variable {w : World}
theorem Chunk_box {t : Slc} : Calls Tryz.prog 92 #[.slice t.a t.n t.c, .int .i64 3] w fun e w' => e = .returned (.func (.func 143) #[] #[.pointer (some ⟨w.heap.size, 0, none⟩), .pointer (some ⟨w.heap.size + 1, 0, none⟩)]) ∧
    (Blk w' w.heap.size ty_sl_uint8 [.slice t.a t.n t.c] ∧ Blk w' (w.heap.size + 1) ty_int [.int .i64 3]) ∧ Below w.heap.size w w' ∧ w'.heap.size = w.heap.size + 2 := by
  have h : c_slices_Chunk_byte_byte t 3 w fun v w' => v = (.func (.func 143) #[] #[.pointer (some ⟨w.heap.size, 0, none⟩), .pointer (some ⟨w.heap.size + 1, 0, none⟩)]) ∧
      (Blk w' w.heap.size ty_sl_uint8 [.slice t.a t.n t.c] ∧ Blk w' (w.heap.size + 1) ty_int [.int .i64 3]) ∧ Below w.heap.size w w' ∧ w'.heap.size = w.heap.size + 2 := by
    refine call_slices_Chunk_byte_byte _ _ ?_
    unfold sh_slices_Chunk_byte_byte
    refine nw_blk fun w1 hb1 hB1 hs1 => nw_blk fun w2 hb2 hB2 hs2 => ?_
    rw [hs1] at hb2 ⊢
    refine ldI_of (x := 3) (hb2.cell 0 rfl) (cond_f rfl ?_)
    exact ⟨rfl, ⟨hb1.ext hB2, hb2⟩, hB1.trans (hB2.mono (by omega)), by omega⟩
  refine Calls.mono h ?_
  rintro e w' ⟨r0, rfl, rfl, h2⟩
  exact ⟨rfl, h2⟩
theorem leaves44 {n : Nat} {tmps : Array Value} {R : Ending → World → Prop} {W : World} {v : Value} (h0 : tmps[2]?.getD undef = v) (hR : R (.returned v) W) :
    LeavesIn Fence.wide n Tryz.prog Tryz.f44 tmps R [] .returning W := by
  refine ⟨v, ?_, hR⟩
  simp [results, Tryz.f44, go_sem, h0]
set_option maxHeartbeats 4000000 in
theorem Encode_in {t : Slc} {bs : List UInt8} {base : Nat} (ht : Go.Vc.Own E_uint8 w base t bs) (hl : bs.length ≤ 1000000) :
    CallsIn Fence.wide 9 Tryz.prog 44 #[.slice t.a t.n t.c] w fun e w' => ∃ s : Slc, e = .returned (.slice s.a s.n s.c) ∧ Go.Vc.Own E_uint8 w' w.heap.size s (encB bs) ∧ Below w.heap.size w w' := by
  refine callsIn_of_wp_marks Tryz.func44 rfl trivial ?_ rfl
  simp only [Tryz.ntmps44, List.size_toArray, List.length_cons, List.length_nil, Nat.reduceAdd, Nat.reduceSub, Array.replicate_succ, Array.replicate_zero, List.push_toArray, List.append_toArray, List.nil_append, List.cons_append]
  have hCh := fun m (w1 : World) => (callsIn_wide (n := m)).2 (Chunk_box (w := w1) (t := t))
  gi_wp2
  refine ⟨trivial, (hCh _ _).mono ?_⟩
  rintro e w3 ⟨rfl, ⟨x1, x2⟩, hB3, hs3⟩
  gi_wp2
  obtain ⟨w1, hw1⟩ : ∃ w1, w.alloc (.cells #[.slice none 0 0] 22) = w1 := ⟨_, rfl⟩
  have hs1 : w1.heap.size = w.heap.size + 1 := by rw [← hw1]; simp
  have hB1 : Below w.heap.size w w1 := by rw [← hw1]; exact (Below.refl _ w).alloc (Nat.le_refl _) _
  have hb1 : Blk w1 w.heap.size ty_sl_uint8 [.slice none 0 0] := by rw [← hw1]; exact Blk.new w ty_sl_uint8 [.slice none 0 0]
  rw [hw1] at x1 x2 hB3 hs3
  rw [hs1] at x1 x2 hs3
  have hB13 : Below w.heap.size w w3 := hB1.trans (hB3.mono (by omega))
  have hb3 : Blk w3 w.heap.size ty_sl_uint8 [.slice none 0 0] := hb1.ext hB3
  have htl := ht.lt
  have hform : (t.a = none ∧ t.n = 0 ∧ t.c = 0) ∨ (∃ a, t.a = some a ∧ a.spot = none ∧ t.n ≤ t.c) := by
    rcases ht.form with ⟨rfl, _⟩ | ⟨g, cur, hs, _, _, h1, _⟩
    · exact .inl ⟨rfl, rfl, rfl⟩
    · rw [hs]
      exact .inr ⟨_, rfl, rfl, h1⟩
  have htn := ht.rd.n
  -- the chunks' bytes
  have hck : ∀ (pre : List Slc) (x : Slc), (∃ t', cks t = pre ++ x :: t') → 3 * pre.length < bs.length ∧ ∀ W, Below w.heap.size w W → Rd E_uint8 W x ((bs.drop (3 * pre.length)).take 3) ∧ ∀ k, x.blk = some k → k < w.heap.size := by
    rintro pre x ⟨t', hx⟩
    rcases ht.form with ⟨rfl, _⟩ | ⟨g, cur, hs, hg, hblk, h1, h2, h3, h4⟩
    · unfold cks at hx
      cases pre <;> cases hx
    · have hta : t.a = some ⟨g, 0, none⟩ := by rw [hs]
      unfold cks at hx
      rw [hta] at hx
      obtain ⟨hxe, hlt⟩ := upto_at hx
      rw [htn] at hxe hlt
      have hlt3 : 3 * pre.length < bs.length := by unfold ckN at hlt; omega
      refine ⟨hlt3, fun W hW => ?_⟩
      have hrd := (ht.rd.ext hW)
      have hlen : ((bs.drop (3 * pre.length)).take 3).length = min 3 (bs.length - 3 * pre.length) := by rw [List.length_take, List.length_drop]
      subst hxe
      refine ⟨⟨hlen.symm, Nat.le_refl _, ?_, fun _ => rfl, fun i y hy => ?_⟩, fun k hk => ?_⟩
      · show min 3 (bs.length - 3 * pre.length) ≤ maxLen
        unfold maxLen
        omega
      · have hi : i < min 3 (bs.length - 3 * pre.length) := by
          rw [← hlen]
          exact (List.getElem?_eq_some_iff.1 hy).1
        have hy2 : bs[3 * pre.length + i]? = some y := by
          rw [List.getElem?_take_of_lt (by omega), List.getElem?_drop] at hy
          exact hy
        have h5 := hrd.at_ _ _ hy2
        unfold Slc.at_ at h5 ⊢
        rw [hta] at h5
        exact cast (by
          congr 1
          show (⟨g, 0, none⟩ : Addr).add ((3 * pre.length + i) * 1) = (⟨g, 0 + 3 * pre.length, none⟩ : Addr).add (i * 1)
          rw [add_mk, add_mk]
          congr 1
          omega) h5
      · cases hk
        exact hblk.lt
  clear htn
  refine range_drew rfl (by omega) (gf := 143) (lb := #[.pointer (some ⟨w.heap.size + 1, 0, none⟩), .pointer (some ⟨w.heap.size + 1 + 1, 0, none⟩)]) rfl trivial (enters_of Tryz.func143 (by kernel_rfl) rfl)
    (chunk_seq Fence.wide 8 trivial rfl (by omega) (w.heap.size + 1) (w.heap.size + 1 + 1) t (by rw [ht.rd.n]; exact hl) hform w3 (by omega) (by omega) (x1.cell 0 rfl) (x2.cell 0 rfl)) (fun h k => h.trans k)
    (fun W l o hl => ⟨World.putObj_heap_other (by omega), World.putObj_heap_other (by omega)⟩) (fun _ => rfl)
    (EncI w bs w.heap.size (w.heap.size + 3)) (by rw [hs3]; exact EncI_own w bs _ _ (by omega)) (EncI_drew w bs _ _)
    ⟨⟨none, 0, 0⟩, hb3, Own.nil _ _ _, hB13, by omega⟩
    (fun x => { tmps := #[Value.slice t.a t.n t.c, undef, Value.slice none 0 0, Value.pointer (some { block := w.heap.size, off := 0 }), .slice x.a x.n x.c, undef, undef, undef, Value.slice t.a t.n t.c, Value.func (Fn.func 143) #[] #[Value.pointer (some { block := w.heap.size + 1, off := 0 }), Value.pointer (some { block := w.heap.size + 1 + 1, off := 0 })],
      .slice x.a x.n x.c, undef, undef, undef, undef, undef, undef, undef, undef, undef, undef, undef, undef, undef, undef, undef, undef, undef, undef, undef, undef, undef, undef, undef, undef, undef, undef, undef, undef, undef, undef, undef, undef, undef, undef, undef, undef, undef, undef, undef], defers := [] }) ?assign ?body ?done
  case assign =>
    intro l x W K hK
    simp only [encS]
    gi_wp2
    exact hK
  case body =>
    rintro l pre x W ⟨s, p1, p2, p3, p4⟩ hpx
    obtain ⟨hlt3, hxr⟩ := hck pre x hpx
    obtain ⟨hxr, hxb⟩ := hxr W p3
    have hlen : ((bs.drop (3 * pre.length)).take 3).length = min 3 (bs.length - 3 * pre.length) := by rw [List.length_take, List.length_drop]
    have hel : (encB (bs.take (3 * pre.length))).length ≤ 100000000 := by
      have h1 := encB_len _ (bs.take (3 * pre.length)) (Nat.le_refl _)
      have h2 : (bs.take (3 * pre.length)).length ≤ bs.length := by rw [List.length_take]; omega
      omega
    refine wpIn_mono (c := (rfBody (Tryz.f44.body.getD .skip)).getD .skip) (vc_soundIn C.plain_ok C.mixed _ (by kernel_rfl) an_encBody (onN fun W' => KeepsOthers W W' ∧ Kp2 (w.heap.size + 1) (w.heap.size + 1 + 1) W W' ∧ EncI w bs w.heap.size (w.heap.size + 3) (pre ++ [x]) W') (fr_encBody ⟨w.heap.size, 0, none⟩ x) _ W ?agree ?vc) ?post
    case agree =>
      refine ⟨rfl, fun i v hv => ?_, rfl⟩
      rw [← Array.getElem?_toList]
      refine agL_at ?_ i v hv
      unfold fr_encBody
      simp [agL]
    case vc =>
      rw [vc_encBody]
      refine encBody_spec p1 p2 p4 (by omega) hxr (fun k hk => by have := hxb k hk; exact ⟨by omega, by omega⟩) (by omega) (by omega) hel fun s' W' q1 q2 hc => ?_
      have hno : ∀ k, k ≠ w.heap.size → k < w.heap.size + 3 → ¬ (k = w.heap.size ∨ s.blk = some k) := by
        rintro k h1 h2 (h | h)
        · exact h1 h
        · have := (p2.lt k h).1
          omega
      refine ⟨⟨hc.size, fun k o hk ho => ?_⟩, ⟨hc.block _ (by omega) (hno _ (by omega) (by omega)), hc.block _ (by omega) (hno _ (by omega) (by omega))⟩, s', q1, ?_, ?_, Nat.le_trans p4 hc.size⟩
      · have hkl : k < W.heap.size := (Array.getElem?_eq_some_iff.1 hk).1
        refine (hc.block k hkl ?_).trans hk
        rintro (rfl | h)
        · rw [show W.heap[w.heap.size]? = _ from p1] at hk
          cases hk
          cases ho
        · obtain ⟨cs, hcs⟩ := p2.blk_t h
          rw [show W.heap[k]? = _ from hcs] at hk
          cases hk
          cases ho
      · rw [List.length_append, List.length_singleton, encB_step hlt3]
        exact q2
      · refine p3.trans (hc.below (by have := p3.size; omega) fun i hi h => ?_)
        rcases h with h | h
        · omega
        · have := (p2.lt i h).1
          omega
    case post =>
      intro e a' W' h
      cases e with
      | normal =>
        obtain ⟨_, _, _, h1, h2, h3⟩ := h
        exact ⟨rfl, h1, h2, h3⟩
      | exit id => obtain ⟨_, _, _, h⟩ := h; exact h.elim
      | ret => obtain ⟨_, _, _, h⟩ := h; exact h.elim
      | goto l => exact h.elim
      | panic c => exact h.elim
      | outgrown => exact h.elim
  case done =>
    rintro D W hD ⟨s, p1, p2, p3, p4⟩ hK
    rw [hs3] at hD
    have c1 : W.cell? ⟨w.heap.size, 0, none⟩ = some (.slice s.a s.n s.c) := p1.cell 0 rfl
    have hfull : bs.take (3 * (cks t).length) = bs := by
      refine List.take_of_length_le ?_
      rcases ht.form with ⟨rfl, rfl⟩ | ⟨g, cur, hs, _⟩
      · simp
      · unfold cks
        rw [show t.a = some ⟨g, 0, none⟩ by rw [hs]]
        dsimp only
        rw [upto_length, ht.rd.n]
        unfold ckN
        omega
    rw [hfull] at p2
    gi_wp2
    refine ⟨by simp, .inl ⟨_, _, rfl, run_takeDeferred hK, ?_⟩⟩
    have hg := grownBy_putObj' W D (.deferred none)
    refine leaves44 rfl ⟨s, rfl, (own_box p2 hg fun r e => ?_).base (by omega), p3.grown hg p3.size fun k e => by cases e; omega⟩
    cases e
    exact ⟨hD, _, hK, rfl⟩
theorem Encode_spec64 {t : Slc} {bs : List UInt8} {base : Nat} (ht : Go.Vc.Own E_uint8 w base t bs) (hl : bs.length ≤ 1000000) {K : Slc → World → Prop}
    (hK : ∀ s w', Go.Vc.Own E_uint8 w' w.heap.size s (encB bs) → Below w.heap.size w w' → K s w') : c_base64_Encode t w K := by
  refine Calls.mono (callsIn_wide.1 (Encode_in ht hl)) ?_
  rintro e w' ⟨s, rfl, ho, hB⟩
  exact ⟨s, rfl, hK s w' ho hB⟩
end
end Go.Proofs.YtmagnpcgpinmcaaGreat

set_option linter.unusedVariables false
namespace Go.Proofs.YtmagnpcgpinmcaaGreat
open Go.Vc Go.RowKit
set_option maxRecDepth 400000
theorem gotL_over (C : LdK) (s : LdS) (r : Nat × List UInt8 × B64) : (gotL C s r).over = s.over := by
  unfold gotL failL
  repeat' split
  all_goals rfl
theorem endL_over (C : LdK) (s : LdS) : (endL C s).over = s.over := by
  unfold endL
  split
  · rfl
  · exact gotL_over _ _ _
theorem b64End_len (s : B64) (hs : B64Ok s) : (b64End s).2.1.length ≤ 3 := by
  unfold b64End
  split
  · simp
  · have h1 := hs.n
    have h2 := outB_len s.w (by omega)
    dsimp only
    omega
theorem b64End_ok (s : B64) : B64Ok (b64End s).2.2 := by
  unfold b64End
  split
  · exact b64X_ok
  · exact b64N_ok
theorem endL_len (C : LdK) (s : LdS) (hs : B64Ok s.d) : (endL C s).b.length ≤ s.b.length + 3 := by
  unfold endL
  split
  · omega
  · have h1 := gotL_len C s (b64End s.d)
    have h2 := b64End_len s.d hs
    omega
section
variable {w : World} {B g gd : Nat} {C : LdK} {s : LdS} {S : Nat → Prop}
theorem lEnd_spec (h : LdA w B g gd C s S) (hBw : B ≤ w.heap.size) (hC : CfgOk C) (hsm : s.b.length ≤ 32000) {K : T_api_Matrix → Int → World → Prop}
    (hK : ∀ m S' w', LdA w' B g gd C (overL C s) S' → MatR w' w.heap.size m (resL C s) → (∀ k, m.P.blk = some k → ¬ S' k) → (∀ k, S' k → S k ∨ w.heap.size ≤ k) → Chg S w w' → K m (((resL C s).1 : Nat) : Int) w') : c_load_Loader_End (some ⟨g, 0, none⟩) w K := by
  refine call_load_Loader_End _ ?_
  unfold sh_load_Loader_End
  simp only [onPtr_some]
  refine nw_blk fun w1 h1 hB1 hs1 => ?_
  have hA1 := h.ext hB1
  obtain ⟨p0, hb0, hp0⟩ := hA1.ex
  have hgw : ∀ k, S k → k ≠ w.heap.size := fun k hk e => by have := (h.lt k hk).2; omega
  refine ldB_of (x := s.over) (hb0.cells 28 _ rfl) ?_
  unfold resL overL at hK
  refine cond_of (fun e => ?_) fun e => ?_
  · have e : s.over = true := e
    rw [if_pos e, if_pos e] at hK
    refine res_of (r := T_api_Matrix.rep) (x := ⟨0, 0, ⟨none, 0, 0⟩⟩) h1 rfl rfl fun w2 hc2 hs2 => ?_
    exact hK _ S w2 (hA1.chg hc2 fun k hk => hgw k hk) (MatR.zero _ _ _) (fun k hk => by cases hk) (fun k hk => .inl hk) ((Chg.of_ext (S := S) hB1).trans hc2 fun k hk e => by omega)
  have e : s.over = false := e
  rw [if_neg (by rw [e]; decide), if_neg (by rw [e]; decide)] at hK
  rw [add_mk]
  refine stK_blk hb0 (by simp [lCells, T_keys_Keys.rep]) fun w3 hb3 hg3 hs3 => ?_
  have hc3 : Chg (fun k => k = g) w1 w3 := Chg.gg hg3
  have hb3 : Blk w3 g ty_load_Loader (lCells gd C p0 s.b.length s.err true) := hb3
  obtain ⟨s0, hs0⟩ : ∃ s0, s0 = shutL s := ⟨_, rfl⟩
  have hd3 : DecB w3 gd s.d := Blk.chg hA1.d hc3 fun e => by subst e; exact hA1.d.ne_t hb0 (by decide) rfl
  have hA3 : LdA w3 B g gd C s0 S := by
    rw [hs0]
    refine ⟨⟨p0, hb3, ?_⟩, hd3, h.ok, h.sg, h.sd, fun k hk => ⟨(h.lt k hk).1, by have := (h.lt k hk).2; have := hB1.size; have := hc3.size; omega⟩⟩
    rcases hp0 with h | ⟨x, a1, a2, a3, a4, a5⟩
    · exact .inl h
    · exact .inr ⟨x, a1.chg hc3 fun k hk => own_ne_blk a1 hb0 (by decide) k hk, a2.chg hc3 fun k hk => own_ne_blk a2 hb0 (by decide) k hk, a3, a4, a5⟩
  have h13 : Blk w3 w.heap.size ty_api_Matrix _ := h1.chg hc3 fun e => hgw g h.sg e.symm
  have hC03 : Chg S w w3 := (Chg.of_ext (S := S) hB1).trans hc3 fun k _ hk => by subst hk; exact h.sg
  have hsz3 : w.heap.size + 1 ≤ w3.heap.size := by have := hc3.size; omega
  have hs0b : s0.b = s.b := by rw [hs0]; rfl
  have hs0e : s0.err = s.err := by rw [hs0]; rfl
  rw [← hs0] at hK
  refine joinP_of fun J1 hJ1 => ?_
  have main : ∀ S' w4, LdA w4 B g gd C (endL C s0) S' → (∀ k, S' k → S k ∨ w3.heap.size ≤ k) → Chg S w3 w4 → J1 () w4 := by
    intro S' w4 h4 hS' hc4
    refine hJ1 _ _ ?_
    have hlen : (endL C s0).b.length ≤ 32003 := by
      have := endL_len C s0 hA3.ok
      rw [hs0b] at this
      omega
    obtain ⟨E, hE⟩ : ∃ E, E = endL C s0 := ⟨_, rfl⟩
    have hEo : E.over = true := by rw [hE, endL_over, hs0]; rfl
    rw [← hE] at h4 hK hlen
    have h14 : Blk w4 w.heap.size ty_api_Matrix _ := h13.chg hc4 fun hk => hgw _ hk rfl
    have hs4 := hc4.size
    have hwS' : ∀ k, S' k → k ≠ w.heap.size := fun k hk e => by
      rcases hS' k hk with h | h
      · exact hgw k h e
      · omega
    obtain ⟨p, hb, hp⟩ := h4.ex
    refine ldSl_of (x := p) (hb.cells 25 _ rfl) ?_
    -- all bytes
    have cat : ∀ (K : Slc → World → Prop), (∀ o w5, Go.Vc.Own E_uint8 w5 w4.heap.size o E.b → Below w4.heap.size w4 w5 → K o w5) → c_slices_Concat_byte_byte p w4 K := by
      intro K hk
      rcases hp with ⟨h1, rfl⟩ | ⟨x, a1, a2, a3, a4, a5⟩
      · refine ConcatB_spec (p := ⟨none, 0, 0⟩) (ss := []) (xss := []) (Rd.nil slsE w4) ⟨rfl, fun i s xs hs => by simp at hs⟩ (by simp) (by simp) fun r w5 hr hB5 => ?_
        rw [h1] at hk
        exact hk r w5 hr hB5
      · have hrd : Rd slsE w4 p [x] := a1.rd
        refine ConcatB_spec (p := p) (ss := [x]) (xss := [E.b]) hrd ⟨rfl, fun i s xs hs hx => ?_⟩ (by simp; omega) (by simp) fun r w5 hr hB5 => ?_
        · match i, hs, hx with
          | 0, hs, hx => cases hs; cases hx; exact a2.rd
          | i + 1, hs, hx => simp at hs
        · refine hk r w5 ?_ hB5
          simpa using hr
    refine cat _ fun o w5 ho hB5 => ?_
    refine call_load_Loader_drop _ ?_
    unfold sh_load_Loader_drop
    simp only [onPtr_some]
    have hb5 := hb.ext hB5
    rw [add_mk]
    refine stK_blk hb5 (by simp [lCells, T_keys_Keys.rep]) fun w6' hb6' hg6' hs6' => ?_
    rw [add_mk]
    refine stK_blk hb6' (by simp [lCells, T_keys_Keys.rep, putL]) fun w6 hb6 hg6 hs6 => ?_
    have hc6 : Chg (fun k => k = g) w5 w6 := (Chg.gg hg6').trans (Chg.gg hg6) fun i _ hi => hi
    have hb6 : Blk w6 g ty_load_Loader (lCells gd C ⟨none, 0, 0⟩ 0 E.err E.over) := hb6
    have hd6 : DecB w6 gd E.d := Blk.chg (Blk.ext h4.d hB5) hc6 fun e => by subst e; exact (Blk.ext h4.d hB5).ne_t hb5 (by decide) rfl
    have hs5 := hB5.size
    have hs6z := hc6.size
    have hA6 : LdA w6 B g gd C { E with b := [] } S' := ⟨⟨⟨none, 0, 0⟩, hb6, .inl ⟨rfl, rfl⟩⟩, hd6, h4.ok, h4.sg, h4.sd, fun k hk => ⟨(h4.lt k hk).1, by have := (h4.lt k hk).2; omega⟩⟩
    have ho6 := ho.chg hc6 fun k hk e => by have := (ho.lt k hk).1; have := (h4.lt g h4.sg).2; omega
    have h16 : Blk w6 w.heap.size ty_api_Matrix _ := (h14.ext hB5).chg hc6 fun e => hwS' g h4.sg e.symm
    have hC6 : Chg S w w6 := by
      refine ((hC03.trans hc4 fun k _ hk => hk).trans (Chg.of_ext (S := S) hB5) fun k _ hk => hk).trans hc6 fun k _ hk => ?_
      subst hk
      exact h.sg
    have hgrow : ∀ k, S' k → S k ∨ w.heap.size ≤ k := fun k hk => by
      rcases hS' k hk with h | h
      · exact .inl h
      · right; omega
    refine ldI_of (x := (E.err : Int)) (hb6.cells 27 _ rfl) ?_
    -- the end: a matrix told
    have told : ∀ (m : T_api_Matrix) (e : Nat) (r : Nat × Nat × Nat × List UInt8) w9, MatR w9 w6.heap.size m r → Below w6.heap.size w6 w9 → (∀ S' w', LdA w' B g gd C { E with b := [] } S' → MatR w' w.heap.size m r → (∀ k, m.P.blk = some k → ¬ S' k) → (∀ k, S' k → S k ∨ w.heap.size ≤ k) → Chg S w w' → K m (e : Int) w') →
        stK ⟨w.heap.size, 0, none⟩ (T_api_Matrix.rep.cells m) w9 fun w10 => LdA w10 B g gd C { E with b := [] } S' → ldS T_api_Matrix.rep ⟨w.heap.size, 0, none⟩ w10 fun r => K r (e : Int) w10 := by
      intro m e r w9 hm hB9 hk
      refine all_of (h16.ext hB9) rfl fun w10 hb10 hc10 hs10 hA10 => ?_
      refine ldS_of (r := T_api_Matrix.rep) (x := m) hb10.cells ?_
      refine hk S' w10 hA10 ⟨hm.1, hm.2.1, (hm.2.2.chg hc10 fun k hk e => by have := (hm.2.2.lt k hk).1; omega).base (by omega)⟩ (fun k hk hS => by have h1 := (hm.2.2.lt k hk).1; have h2 := (hA6.lt k hS).2; omega) hgrow ((hC6.trans (Chg.of_ext (S := S) hB9) fun k _ hk => hk).trans hc10 fun k hk e => by omega)
    have keepA : ∀ {w9 w10}, Below w6.heap.size w6 w9 → Chg (fun k => k = w.heap.size) w9 w10 → LdA w10 B g gd C { E with b := [] } S' := fun hB9 hc10 => (hA6.ext hB9).chg hc10 fun k hk => hwS' k hk
    refine cond_of (fun e2 => ?_) fun e2 => ?_
    · have e2 : E.err ≠ 0 := fun h => by rw [h] at e2; cases e2
      rw [if_pos e2] at hK
      have hBd := below_drew w6
      refine ldI_of (x := (E.err : Int)) ((hb6.ext hBd).cells 27 _ rfl) ?_
      refine all_of (h16.ext hBd) rfl fun w7 hb7 hc7 hs7 => ?_
      have hA7 := keepA hBd hc7
      obtain ⟨p7, hb7', _⟩ := hA7.ex
      refine ⟨hb7'.cells 27 _ rfl, ldS_of (r := T_api_Matrix.rep) (x := ⟨0, 0, ⟨none, 0, 0⟩⟩) hb7.cells ?_⟩
      exact hK _ S' w7 hA7 (MatR.zero _ _ _) (fun k hk => by cases hk) hgrow ((hC6.trans (Chg.of_ext (S := S) hBd) fun k _ hk => hk).trans hc7 fun k hk e => by omega)
    have e2 : E.err = 0 := by
      rcases Nat.eq_zero_or_pos E.err with h | h
      · exact h
      · rw [bneI_t (by omega)] at e2; cases e2
    rw [if_neg (by omega)] at hK
    refine joinP_of fun J2 hJ2 => ?_
    unfold lastL at hK
    have img : ∀ (b : Slc) (bs : List UInt8) w8, Go.Vc.Own E_uint8 w8 w4.heap.size b bs → bs.length ≤ 1000000 → Below w6.heap.size w6 w8 → (∀ m S' w', LdA w' B g gd C { E with b := [] } S' → MatR w' w.heap.size m (madeL C bs) → (∀ k, m.P.blk = some k → ¬ S' k) → (∀ k, S' k → S k ∨ w.heap.size ≤ k) → Chg S w w' → K m (((madeL C bs).1 : Nat) : Int) w') → J2 (b, ()) w8 := by
      intro b bs w8 hbo hbl hB8 hk
      refine hJ2 _ _ ?_
      refine limage_spec (hb6.ext hB8) hC hbo.rd (fun k hk => (hbo.lt k hk).2) hbl fun m w9 hm hB9 => ?_
      have hB69 := below_t hB8 hB9
      have := told m (madeL C bs).1 (madeL C bs) w9 ⟨hm.1, hm.2.1, hm.2.2.base hB8.size⟩ hB69 (fun S' w' => hk m S' w')
      refine all_of (h16.ext hB69) rfl fun w10 hb10 hc10 hs10 => ?_
      refine ldS_of (r := T_api_Matrix.rep) (x := m) hb10.cells ?_
      have hm' := hm.2.2.base (base' := w6.heap.size) hB8.size
      exact hk m S' w10 (keepA hB69 hc10) ⟨hm.1, hm.2.1, (hm'.chg hc10 fun k hk e => by have := (hm'.lt k hk).1; omega).base (by omega)⟩ (fun k hk hS => by have h1 := (hm'.lt k hk).1; have h2 := (hA6.lt k hS).2; omega) hgrow ((hC6.trans (Chg.of_ext (S := S) hB69) fun k _ hk => hk).trans hc10 fun k hk e => by omega)
    refine ldI_of (x := C.k.Zip) (hb6.cells 3 _ rfl) (cond_of (fun ez => ?_) fun ez => ?_)
    · have ez : C.k.Zip = 122 := eq_of_beq ez
      rw [if_pos ez] at hK
      refine lunpack_spec hb6 hC ho6.rd (fun k hk => (ho6.lt k hk).2) (by omega) (fun er hne her hor t w8 hB8 => ?_) (fun hz hu t w8 ht htl hB8 => ?_)
      · refine cond_t (bneI_t (by omega)) ?_
        refine all_of (h16.ext hB8) rfl fun w9 hb9 hc9 hs9 => ?_
        refine ldS_of (r := T_api_Matrix.rep) (x := ⟨0, 0, ⟨none, 0, 0⟩⟩) hb9.cells ?_
        have hval : (if unErr (roomL C) E.b ≠ 0 then (unErr (roomL C) E.b, 0, 0, []) else if unUsed (roomL C) E.b < E.b.length then (3, 0, 0, []) else madeL C (unOut (roomL C) E.b)) = (er, 0, 0, []) := by
          by_cases hz : unErr (roomL C) E.b ≠ 0
          · rw [if_pos hz] at her ⊢
            rw [her]
          · rw [if_neg hz] at her ⊢
            rw [if_pos (by rcases hor with h | h; exact absurd h hz; exact h), her]
        rw [hval] at hK
        exact hK _ S' w9 (keepA hB8 hc9) (MatR.zero _ _ _) (fun k hk => by cases hk) hgrow ((hC6.trans (Chg.of_ext (S := S) hB8) fun k _ hk => hk).trans hc9 fun k hk e => by omega)
      · refine cond_f rfl ?_
        rw [if_neg (by omega), if_neg hu] at hK
        have hroom : roomL C ≤ 400000 := by
          have hmost := hC.most
          unfold roomL
          split
          · omega
          · rename_i hf
            obtain ⟨W, H, per, _, _, _, _, _, _, hper, hneed, hmo⟩ := hC.sides hf
            have : per * W * H ≤ 4 * (W * H) := by rw [Nat.mul_assoc]; exact Nat.mul_le_mul_right _ (by omega)
            omega
        exact img t _ w8 (ht.base (by omega)) (by omega) hB8 hK
    · have ez : C.k.Zip ≠ 122 := by simpa using ez
      rw [if_neg ez] at hK
      exact img o E.b w6 ho6 (by omega) (Below.refl _ _) hK
  refine ldI_of (x := (s.err : Int)) (hb3.cells 27 _ rfl) (cond_of (fun e2 => ?_) fun e2 => ?_)
  · have e2 : s.err = 0 := by have := eq_of_beq e2; omega
    have hee : endL C s0 = gotL C s0 (b64End s0.d) := by unfold endL; rw [if_neg (by omega)]
    refine ldP_of (x := some ⟨gd, 0, none⟩) (hb3.cells 0 _ rfl) ?_
    refine dEnd_spec hA3.d hA3.ok fun t w4 ht htb hd hc => ?_
    have hbl := b64End_len s0.d hA3.ok
    refine lgot_spec hA3 (by omega) ht htb hd (b64End_ok s0.d) hc (by rw [hs0b]; omega) (K := fun w5 => J1 () w5) fun S' w5 h5 hS' hc5 => ?_
    rw [← hee] at h5
    exact main S' w5 h5 hS' hc5
  · have e2 : s.err ≠ 0 := fun h => by rw [h] at e2; cases e2
    have hee : endL C s0 = s0 := by unfold endL; rw [if_pos (by omega)]
    refine main S w3 (by rw [hee]; exact hA3) (fun k hk => .inl hk) (Chg.refl _ _)
end
end Go.Proofs.YtmagnpcgpinmcaaGreat

set_option linter.unusedVariables false
namespace Go.Proofs.YtmagnpcgpinmcaaGreat
open Go.Vc Go.RowKit
set_option maxRecDepth 400000
def firstK : T_keys_Keys := ⟨116, 100, 0, 97, 0, 32, 0, 0, 0, 0, 0, 0, 0, 0, 0, 0, 0, 0, 0, 0, 0, 0⟩
def key1 : T_keys_Keys := ⟨116, 100, 0, 97, 0, 24, 1, 1, 0, 0, 0, 0, 0, 0, 0, 0, 0, 0, 0, 0, 0, 0⟩
def cfg1 : LdK := ⟨key1, 4, 3⟩
def ldAQ : LdS := ⟨⟨[0, 16], 0, false, false⟩, [], 0, false⟩
def ldID : LdS := ⟨b64N, [1, 2, 3], 0, false⟩
theorem known_aq : addL cfg1 ld0 [65, 81] = ldAQ := by rfl
theorem known_id : addL cfg1 ldAQ [73, 68] = ldID := by rfl
theorem known_res : resL cfg1 ldID = (0, 1, 1, [1, 2, 3, 255]) := by
  have e : endL cfg1 (shutL ldID) = shutL ldID := by rfl
  unfold resL
  rw [if_neg (by decide), e, if_neg (by decide)]
  unfold lastL
  rw [if_neg (by decide)]
  unfold madeL
  rw [if_neg (by decide), if_neg (by decide), if_neg (by decide)]
  rfl
section
variable {w : World}
theorem First_spec {K : T_keys_Keys → World → Prop} (hK : ∀ w', Below w.heap.size w w' → K firstK w') : c_keys_First w K := by
  refine call_keys_First ?_
  unfold sh_keys_First
  refine nw_blk fun w1 h1 hB1 hs1 => ?_
  exact res_of (r := T_keys_Keys.rep) (x := firstK) h1 rfl rfl fun w2 hc2 hs2 => hK w2 (below_one hB1 hc2 (Nat.le_refl _))
theorem known20_spec {K : Bool → World → Prop} (hK : ∀ w', Below w.heap.size w w' → K true w') : c_phosphorlaw20_known w K := by
  refine call_phosphorlaw20_known ?_
  unfold sh_phosphorlaw20_known
  refine First_spec fun w1 hB1 => nw_blk fun w2 h2 hB2 hs2 => all_of h2 rfl fun w3 h3 hc3 hs3 => ?_
  have hB3 : Below w.heap.size w w3 := below_one (below_t hB1 hB2) hc3 hB1.size
  rw [add_mk]
  refine stK_blk h3 (by simp [T_keys_Keys.rep]) fun w4 h4 hg4 hs4 => ?_
  rw [add_mk]
  refine stK_blk h4 (by simp [T_keys_Keys.rep, putL]) fun w5 h5 hg5 hs5 => ?_
  rw [add_mk]
  refine stK_blk h5 (by simp [T_keys_Keys.rep, putL]) fun w6 h6 hg6 hs6 => ?_
  have hc6 : Chg (fun k => k = w1.heap.size) w3 w6 := ((Chg.gg hg4).trans (Chg.gg hg5) fun i _ hi => hi).trans (Chg.gg hg6) fun i _ hi => hi
  have hB6 : Below w.heap.size w w6 := below_one hB3 hc6 hB1.size
  have h6 : Blk w6 w1.heap.size ty_keys_Keys (T_keys_Keys.rep.cells key1) := h6
  refine ldS_of (r := T_keys_Keys.rep) (x := key1) h6.cells ?_
  have hnp : newP key1 4 = 0 := by rfl
  refine lNew_spec (fun hne => absurd hnp hne) fun _ g gd w7 hA hB7 => ?_
  have hA : LdA w7 w6.heap.size g gd cfg1 ld0 (fun i => i = g ∨ i = gd) := hA
  have hB07 := below_t hB6 hB7
  refine joinP_of fun J1 hJ1 => ?_
  refine cond_f rfl (cond_f rfl (hJ1 _ _ ?_))
  refine lits_bytes (bs := [65, 81]) rfl rfl (by simp) fun t1 w8 ht1 htb1 hB8 hs8 => ?_
  have hA8 := hA.ext hB8
  have hs67 := hB7.size
  have hs78 := hB8.size
  refine ladd_spec hA8 (by omega) rfl ht1 (fun k hk _ hS => by
    rw [htb1] at hk
    cases hk
    have := (hA.lt _ hS).2
    omega) (by simp [ld0]) fun S9 w9 hA9 ho9 hl9 hS9 hc9 => ?_
  rw [known_aq] at hA9 ho9 ⊢
  have hs9 := hc9.size
  refine lits_bytes (bs := [73, 68]) rfl rfl (by simp) fun t2 w10 ht2 htb2 hB10 hs10 => ?_
  have hA10 := hA9.ext hB10
  have hs10' := hB10.size
  refine ladd_spec hA10 (by omega) rfl ht2 (fun k hk _ hS => by
    rw [htb2] at hk
    cases hk
    have := (hA9.lt _ hS).2
    omega) (by simp [ldAQ]) fun S11 w11 hA11 ho11 hl11 hS11 hc11 => ?_
  rw [known_id] at hA11 ho11 ⊢
  have hs11 := hc11.size
  refine lheld_spec hA11 ?_
  have hC : CfgOk cfg1 := ⟨hnp, rfl, by decide⟩
  refine lEnd_spec hA11 (by omega) hC (by simp [ldID]) fun m S12 w12 hA12 hm hmS hS12 hc12 => ?_
  rw [known_res] at hm ⊢
  have hs12 := hc12.size
  -- below w all is as it was
  have hbel : Below w.heap.size w w12 := by
    have b8 := below_t hB07 hB8
    have hsw := hB07.size
    have hw6 := hB6.size
    have b9 := b8.trans (hc9.below (by omega) fun i hi hS => by have := (hA.lt i hS).1; omega)
    have b10 := b9.trans (hB10.mono (by omega))
    have b11 := b10.trans (hc11.below (by omega) fun i hi hS => by
      rcases hS9 i hS with h | h
      · have := (hA.lt i h).1; omega
      · omega)
    exact b11.trans (hc12.below (by omega) fun i hi hS => by
      rcases hS11 i hS with h | h
      · rcases hS9 i h with h | h
        · have := (hA.lt i h).1; omega
        · omega
      · omega)
  obtain ⟨hmW, hmH, hmP⟩ := hm
  refine nw_blk fun w13 h13 hB13 hs13 => all_of h13 rfl fun w14 h14 hc14 hs14 => ?_
  have hB14 : Below w12.heap.size w12 w14 := below_one hB13 hc14 (Nat.le_refl _)
  refine cond_t rfl (cond_t rfl ?_)
  refine ldSl_of (x := m.P) (h14.cells 2 _ rfl) ⟨_, _, run_bytes_strB (hmP.rd.ext hB14), ?_⟩
  dsimp only
  rw [strB_toList, show (⟨#[1, 2, 3, 255]⟩ : ByteArray).toList = [1, 2, 3, 255] by rw [ByteArray.toList_eq]]
  exact hK w14 (below_t hbel hB14)
end
end Go.Proofs.YtmagnpcgpinmcaaGreat

set_option linter.unusedVariables false
namespace Go.Proofs.YtmagnpcgpinmcaaGreat
open Go.Vc Go.RowKit
set_option maxRecDepth 400000
section
variable {w : World}
theorem newP_cfg {k : T_keys_Keys} {room : Int} (h : newP k room = 0) (hr : room ≤ 100000) : CfgOk ⟨k, room.toNat, (needsP k).2⟩ := by
  have h0 : ¬ (room < 0 ∨ room > 1073741824) := fun hh => by unfold newP at h; rw [if_pos hh] at h; cases h
  refine ⟨?_, rfl, ?_⟩
  · show newP k ((room.toNat : Nat) : Int) = 0
    rw [show ((room.toNat : Nat) : Int) = room by omega]
    exact h
  · show room.toNat ≤ 100000
    omega
end
end Go.Proofs.YtmagnpcgpinmcaaGreat

set_option linter.unusedVariables false
namespace Go.Proofs.YtmagnpcgpinmcaaGreat
open Go.Vc Go.RowKit
set_option maxRecDepth 400000
def keyF (z : Int) (f : Int) (W H : Int) : T_keys_Keys := ⟨116, 100, z, 97, 0, f, W, H, 0, 0, 0, 0, 0, 0, 0, 0, 0, 0, 0, 0, 0, 0⟩
theorem needs_keyF {z f : Int} {W H : Nat} (hz : z = 0 ∨ z = 122) (hf : f = 24 ∨ f = 32) (h1 : 1 ≤ W ∧ W ≤ 20) (h2 : 1 ≤ H ∧ H ≤ 20) : needsP (keyF z f W H) = (0, f.toNat / 8 * W * H) := by
  unfold needsP keyF
  dsimp only
  rw [if_neg (by omega), if_neg (by omega), if_neg (by omega), if_neg (by omega)]
  rfl
theorem new_keyF {z f : Int} {W H room : Nat} (hz : z = 0 ∨ z = 122) (hf : f = 24 ∨ f = 32) (h1 : 1 ≤ W ∧ W ≤ 20) (h2 : 1 ≤ H ∧ H ≤ 20) (hr : room ≤ 10000) : newP (keyF z f W H) room = if 4 * (W * H) ≤ room then 0 else 6 := by
  unfold newP
  rw [if_neg (by omega), needs_keyF hz hf h1 h2]
  have e : 4 * (keyF z f W H).W * (keyF z f W H).H = ((4 * (W * H) : Nat) : Int) := by
    show 4 * (W : Int) * (H : Int) = _
    rw [Int.mul_assoc]
    simp
  have hF : (keyF z f W H).Format ≠ 100 := by show f ≠ 100; omega
  rw [e, if_neg (by simp)]
  by_cases h : 4 * (W * H) ≤ room
  · rw [if_pos h, if_neg (fun hh => by omega)]
  · rw [if_neg h, if_pos ⟨hF, by omega⟩]
section
variable {w : World}
theorem loadrooms_law {wx hx n : Int} {three : Bool} {K : Bool → World → Prop} (hK : ∀ w', Below w.heap.size w w' → K true w') : c_phosphorlaw20_LoadRooms wx hx three n w K := by
  refine call_phosphorlaw20_LoadRooms _ _ _ _ ?_
  unfold sh_phosphorlaw20_LoadRooms
  refine known20_spec fun w1 hB1 => cond_f rfl (joinP_of fun J1 hJ1 => ?_)
  refine cond_of (fun _ => hK w1 hB1) fun c1 => cond_of (fun _ => hK w1 hB1) fun c2 => cond_of (fun _ => hK w1 hB1) fun c3 => cond_of (fun _ => hK w1 hB1) fun c4 => cond_of (fun _ => hK w1 hB1) fun c5 => cond_of (fun _ => hK w1 hB1) fun c6 => hJ1 _ _ ?_
  have c1 := of_decide_eq_false c1
  have c2 := of_decide_eq_false c2
  have c3 := of_decide_eq_false c3
  have c4 := of_decide_eq_false c4
  have c5 := of_decide_eq_false c5
  have c6 := of_decide_eq_false c6
  clear hJ1
  obtain ⟨W, rfl⟩ : ∃ W : Nat, wx = (W : Int) := ⟨wx.toNat, by omega⟩
  obtain ⟨H, rfl⟩ : ∃ H : Nat, hx = (H : Int) := ⟨hx.toNat, by omega⟩
  obtain ⟨m, rfl⟩ : ∃ m : Nat, n = (m : Int) := ⟨n.toNat, by omega⟩
  have hW : 1 ≤ W ∧ W ≤ 20 := by omega
  have hH : 1 ≤ H ∧ H ≤ 20 := by omega
  have hWH : W * H ≤ 20 * 20 := Nat.mul_le_mul hW.2 hH.2
  have hWH1 : 1 * 1 ≤ W * H := Nat.mul_le_mul hW.1 hH.1
  have e4 : IntKind.i64.wrap ((IntKind.i64.wrap ((4 : Int) * (W : Int))) * (H : Int)) = ((4 * (W * H) : Nat) : Int) := by
    rw [wrap64_id (x := (4 : Int) * (W : Int)) (by omega), Int.mul_assoc, show (4 : Int) * ((W : Int) * (H : Int)) = ((4 * (W * H) : Nat) : Int) by simp]
    exact wrap64_id (by omega)
  have e3 : IntKind.i64.wrap ((IntKind.i64.wrap ((3 : Int) * (W : Int))) * (H : Int)) = ((3 * (W * H) : Nat) : Int) := by
    rw [wrap64_id (x := (3 : Int) * (W : Int)) (by omega), Int.mul_assoc, show (3 : Int) * ((W : Int) * (H : Int)) = ((3 * (W * H) : Nat) : Int) by simp]
    exact wrap64_id (by omega)
  rw [e4, e3, wrap64_id (x := ((4 * (W * H) : Nat) : Int) - 1) (by omega)]
  refine First_spec fun w3 hB3 => nw_blk fun w4 h4 hB4 hs4 => all_of h4 rfl fun w5 h5 hc5 hs5 => ?_
  have hB5 : Below w.heap.size w w5 := below_one (below_t (below_t hB1 hB3) hB4) hc5 (below_t hB1 hB3).size
  have hB3' := below_t hB1 hB3
  rw [add_mk]
  refine stK_blk h5 (by simp [T_keys_Keys.rep]) fun w6 h6 hg6 hs6 => ?_
  rw [add_mk]
  refine stK_blk h6 (by simp [T_keys_Keys.rep, putL]) fun w7 h7 hg7 hs7 => ?_
  have hB7 : Below w.heap.size w w7 := below_one hB5 ((Chg.gg hg6).trans (Chg.gg hg7) fun i _ hi => hi) hB3'.size
  have h7 : Blk w7 w3.heap.size ty_keys_Keys (T_keys_Keys.rep.cells (keyF 0 32 W H)) := h7
  refine joinP_of fun J2 hJ2 => ?_
  have key : ∀ (f : Int) (need : Nat) (w8 : World), (f = 24 ∧ need = 3 * (W * H) ∨ f = 32 ∧ need = 4 * (W * H)) → Blk w8 w3.heap.size ty_keys_Keys (T_keys_Keys.rep.cells (keyF 0 f W H)) → Below w.heap.size w w8 → J2 ((need : Int), ()) w8 := by
    intro f need w8 hfn h8 hB8
    refine hJ2 _ _ ?_
    dsimp only
    have hf : f = 24 ∨ f = 32 := by rcases hfn with h | h; exact .inl h.1; exact .inr h.1
    refine ldS_of (r := T_keys_Keys.rep) (x := keyF 0 f W H) h8.cells ?_
    have hn1 : newP (keyF 0 f W H) ((4 * (W * H) : Nat) : Int) = 0 := by rw [new_keyF (.inl rfl) hf hW hH (by omega), if_pos (Nat.le_refl _)]
    have hn2 : newP (keyF 0 f W H) (((4 * (W * H) : Nat) : Int) - 1) = 6 := by
      rw [show ((4 * (W * H) : Nat) : Int) - 1 = ((4 * (W * H) - 1 : Nat) : Int) by omega, new_keyF (.inl rfl) hf hW hH (by omega), if_neg (by omega)]
    refine lNew_spec (fun hne => absurd hn1 hne) fun _ g gd w9 hA9 hB9 => ?_
    have hB09 := below_t hB8 hB9
    refine ldS_of (r := T_keys_Keys.rep) (x := keyF 0 f W H) (h8.ext hB9).cells ?_
    refine lNew_spec (fun _ w10 hB10 => ?_) fun h0 => absurd (h0.symm.trans hn2) (by decide)
    have hB010 := below_t hB09 hB10
    have hA10 := hA9.ext hB10
    rw [hn2]
    refine joinP_of fun J3 hJ3 => cond_f rfl (cond_f rfl (cond_f rfl (cond_f rfl (hJ3 _ _ ?_))))
    clear hJ3
    obtain ⟨C, hCe⟩ : ∃ C : LdK, C = ⟨keyF 0 f W H, ((4 * (W * H) : Nat) : Int).toNat, (needsP (keyF 0 f W H)).2⟩ := ⟨_, rfl⟩
    have hC : CfgOk C := by rw [hCe]; exact newP_cfg hn1 (by omega)
    have hneed : C.need = need := by
      rw [hCe]
      show (needsP (keyF 0 f W H)).2 = need
      rw [needs_keyF (.inl rfl) hf hW hH, Nat.mul_assoc]
      rcases hfn with ⟨rfl, rfl⟩ | ⟨rfl, rfl⟩ <;> rfl
    have hmost : C.most = 4 * (W * H) := by rw [hCe]; rfl
    have hkz : C.k.Zip = 0 := by rw [hCe]; rfl
    have hkf : C.k.Format = f := by rw [hCe]; rfl
    have hkW : C.k.W = (W : Int) := by rw [hCe]; rfl
    have hkH : C.k.H = (H : Int) := by rw [hCe]; rfl
    rw [← hCe] at hA10
    have s8 := hB8.size
    have s9 := hB9.size
    have s10 := hB10.size
    refine mkSl_of sT_sl_uint8 (x0 := (0 : UInt8)) rfl (n := m) rfl rfl (by rw [by_sl_uint8]; omega) (by unfold maxLen; omega) fun w12 ho12 hB12 => ?_
    have s12 := hB12.size
    have hA12 := hA10.ext hB12
    obtain ⟨bs, hbs⟩ : ∃ bs : List UInt8, bs = List.replicate m 0 := ⟨_, rfl⟩
    have hbl : bs.length = m := by rw [hbs, List.length_replicate]
    rw [← hbs] at ho12
    refine Encode_spec64 ho12 (by omega) fun t w13 ht13 hB13 => ?_
    have s13 := hB13.size
    have hA13 := hA12.ext hB13
    have hel := encB_len _ bs (Nat.le_refl _)
    have hB013 := below_t (below_t hB010 hB12) hB13
    refine ladd_spec hA13 (by omega) rfl ht13.rd (fun i hi _ hS => by have := (ht13.lt i hi).1; have := (hA12.lt i hS).2; omega) (by simp only [ld0, List.length_nil]; omega) fun S14 w14 hA14 ho14 hl14 hS14 hc14 => ?_
    have s14 := hc14.size
    refine lEnd_spec hA14 (by omega) hC (by rw [show ld0.b.length = 0 from rfl] at hl14; omega) fun x S15 w15 hA15 hx hxS hS15 hc15 => ?_
    have s15 := hc15.size
    have hB015 : Below w.heap.size w w15 := by
      have b14 := hB013.trans (hc14.below (by omega) fun i hi hS => by have := (hA13.lt i hS).1; omega)
      exact b14.trans (hc15.below (by omega) fun i hi hS => by
        rcases hS14 i hS with h | h
        · have := (hA13.lt i h).1; omega
        · omega)
    refine nw_blk fun w16 h16 hB16 hs16 => all_of h16 rfl fun w17 h17 hc17 hs17 => ?_
    have hB017 : Below w.heap.size w w17 := below_one (below_t hB015 hB16) hc17 (by omega)
    have h0T : takeE C 0 = 0 := by unfold takeE; rw [if_neg (by omega), if_neg (by omega)]
    have hTe : ∀ j, takeE C j = if j > 4 * (W * H) then 6 else if j > need then 5 else 0 := by
      intro j
      unfold takeE
      rw [hmost, hneed, hkz, hkf]
      by_cases h1 : j > 4 * (W * H)
      · rw [if_pos h1, if_pos h1]
      · rw [if_neg h1, if_neg h1]
        by_cases h2 : j > need
        · rw [if_pos ⟨rfl, by omega, h2⟩, if_pos h2]
        · rw [if_neg (fun hh => h2 hh.2.2), if_neg h2]
    have hnd : need ≤ 4 * (W * H) := by rcases hfn with ⟨_, rfl⟩ | ⟨_, rfl⟩ <;> omega
    refine cond_of (fun e => ?_) fun e => ?_
    · -- too many
      have e := of_decide_eq_true e
      have hT : takeE C bs.length ≠ 0 := by
        rw [hTe, hbl]
        split
        · decide
        · rw [if_pos (by omega)]; decide
      obtain ⟨hne, j, hj, hje⟩ := addL_encE hT h0T
      rw [hTe] at hje
      have hres : resL C (addL C ld0 (encB bs)) = ((addL C ld0 (encB bs)).err, 0, 0, []) := resL_err hne ho14
      obtain ⟨er, her⟩ : ∃ er, er = (addL C ld0 (encB bs)).err := ⟨_, rfl⟩
      rw [← her] at hne hje hres ⊢
      rw [hres] at hx ⊢
      obtain ⟨hxW, hxH, hxP⟩ := hx
      have hxn : x.P.n = 0 := hxP.rd.n
      have h56 : er = 6 ∧ m > 4 * (W * H) ∨ er = 5 := by
        split at hje
        · exact .inl ⟨hje, by omega⟩
        · split at hje
          · exact .inr hje
          · exact absurd hje hne
      refine joinP_of fun J4 hJ4 => ?_
      refine joinP_of fun J5 hJ5 => ?_
      have hP : w17.cell? ((⟨w15.heap.size, 0, none⟩ : Addr).add 2) = some (.slice x.P.a x.P.n x.P.c) := h17.cells 2 _ rfl
      rcases h56 with ⟨rfl, hm⟩ | rfl
      · refine cond_t (decide_eq_true (by omega)) (hJ5 _ _ (cond_t rfl ?_))
        refine ldSl_of (x := x.P) hP (cond_t (by rw [hxn]; rfl) ?_)
        exact hK w17 hB017
      · have h5 : J4 () w17 := hJ4 _ _ (cond_t rfl (cond_t rfl (ldSl_of (x := x.P) hP (by rw [hxn]; exact hK w17 hB017))))
        refine cond_of (fun _ => hJ5 _ _ (cond_f rfl h5)) fun _ => hJ5 _ _ (cond_f rfl h5)
    · have e := of_decide_eq_false e
      have hT : takeE C bs.length = 0 := by
        rw [hTe, hbl, if_neg (by omega), if_neg (by omega)]
      have hadd := addL_enc0 hT
      have hres := resL_enc hT
      have her : (addL C ld0 (encB bs)).err = 0 := by rw [hadd]; rfl
      rw [hres] at hx ⊢
      rw [her]
      have hlast : lastL C bs = if m < need then (2, 0, 0, []) else (0, W, H, fromP (if f = 24 then 3 else 4) (W * H) bs) := by
        unfold lastL
        rw [hkz, if_neg (by decide)]
        unfold madeL
        rw [hkf, if_neg (by omega), hneed, hbl, hkW, hkH]
        by_cases h : m < need
        · rw [if_pos h, if_pos h]
        · rw [if_neg h, if_neg h, if_neg (by omega)]
          rfl
      rw [hlast] at hx ⊢
      refine cond_of (fun e2 => ?_) fun e2 => ?_
      · have e2 := of_decide_eq_true e2
        rw [if_pos (by omega)] at hx ⊢
        obtain ⟨hxW, hxH, hxP⟩ := hx
        have hxn : x.P.n = 0 := hxP.rd.n
        refine cond_t rfl (cond_t rfl (ldSl_of (x := x.P) (h17.cells 2 _ rfl) ?_))
        rw [hxn]
        exact hK w17 hB017
      · have e2 := of_decide_eq_false e2
        rw [if_neg (by omega)] at hx ⊢
        obtain ⟨hxW, hxH, hxP⟩ := hx
        refine cond_t rfl (cond_t rfl (ldI_of (x := x.W) (h17.cells 0 _ rfl) (cond_t (by rw [hxW]; exact beq_self_eq_true _) (ldI_of (x := x.H) (h17.cells 1 _ rfl) ?_))))
        rw [hxH, beq_self_eq_true]
        exact hK w17 hB017
  refine cond_of (fun _ => ?_) fun _ => ?_
  · rw [add_mk]
    refine stK_blk h7 (by simp [T_keys_Keys.rep]) fun w20 h20 hg20 hs20 => ?_
    exact key 24 _ w20 (.inl ⟨rfl, rfl⟩) h20 (below_one hB7 (Chg.gg hg20) hB3'.size)
  · exact key 32 _ w7 (.inr ⟨rfl, rfl⟩) h7 hB7
end
end Go.Proofs.YtmagnpcgpinmcaaGreat
