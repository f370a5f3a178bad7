/- The program's store: room, Reserve. -/
import Derived.Test.YteffnkpplhcomaaS6
set_option linter.unusedVariables false
namespace Go.Proofs.Yteffnkpplhcomaa
open Go.Vc Go.RowKit
set_option maxRecDepth 100000

section
variable {w : World} {base g r n : Nat} {S : St}
theorem apI1 {w : World} {b : Nat} {s : Slc} {xs : List Int} {v : Int} {K : Slc → World → Prop} (hown : Own E_int w b s xs) (hb : b ≤ w.heap.size) (hl : xs.length ≤ 1000000)
    (hK : ∀ r w', Own E_int w' b r (xs ++ [v]) → Chg (fun k => s.blk = some k) w w' → (r.blk = s.blk ∨ ∃ k, r.blk = some k ∧ w.heap.size ≤ k) → K r w') :
    nw ty_int [(.int .i64 v)] w fun t w1 => apK PG #[ty_sl_int, ty_sl_int] ty_sl_int s (⟨(some t), 1, 1⟩ : Slc) w1 K := by
  refine nw_blk fun w1 hb1 hB1 hs1 => ?_
  have hr : Rd E_int w1 ⟨some ⟨w.heap.size, 0, none⟩, 1, 1⟩ [v] := rd_one (E := E_int) hb1 rfl
  refine apK_own sT_sl_int (hown.ext hB1) hr (by omega) (by rw [by_sl_int]; simp; omega) (by simp [maxLen]; omega) fun q w2 ho hg hq => hK q w2 ho ((Chg.of_ext (S := fun k => s.blk = some k) hB1).trans (Chg.of_grown hg fun k hk => hk) fun i _ hi => hi) ?_
  rcases hq with e | e
  · exact .inl e
  · exact .inr ⟨_, e, by omega⟩
theorem srt_look {L : List (Int × Im)} (hs : Srt L) {p : Int × Im} (hp : p ∈ L) : vOf L p.1 = p.2.v := by
  unfold vOf
  rw [(lookL_some hs).2 hp]
  rfl
theorem room_spec {m : Nat} {n : Int} (h : StM w base g r S) (hk : StOk m S) (hm : m ≤ 1000) (hn : 0 ≤ n) (hq : n ≤ S.quota) {K : Slc → World → Prop}
    (hK : ∀ q w', StM w' base g r (S.room n).1 → Own E_int w' w.heap.size q (S.room n).2 → Chg (onS g r) w w' → K q w') : c_store_Store_room (some ⟨g, 0, none⟩) n w K := by
  refine call_store_Store_room _ _ ?_
  unfold sh_store_Store_room
  refine nw_blk fun w1 hb1 hB1 hs1 => ?_
  have hglt := h.blk.lt
  have hrlt := h.map.lt
  refine loopP_rule_w (Inv := fun k (s : Slc × Unit) w2 => ∃ S1 G, k = S1.L.length ∧ StM w2 base g r S1 ∧ StOk m S1 ∧ S1.quota = S.quota ∧ S1.roomF n S1.L.length G = S.room n ∧ G.length + S1.L.length ≤ m ∧ Own E_int w2 w.heap.size s.1 G ∧ Blk w2 w.heap.size ty_p_store_Store [(.pointer (some ⟨g, 0, none⟩))] ∧ Chg (fun i => onS g r i ∨ i = w.heap.size) w w2 ∧ w.heap.size < w2.heap.size) S.L.length
    ⟨S, [], rfl, h.ext hB1, hk, rfl, rfl, by have := hk.len; simpa using this, Own.nil _ _ _, hb1, Chg.of_ext hB1, by omega⟩ ?_
  rintro k ⟨gone, ⟨⟩⟩ w2 ⟨S1, G, rfl, hS, hk1, hqq, hroom, hGl, hO, hb2, hc2, hlt2⟩ I hI
  have hq1 := hk1.q1
  have hq0 := hk1.q0
  have hO : Own E_int w2 w.heap.size gone G := hO
  have hchg : ∀ {w3 : World}, Chg (fun i => onS g r i ∨ i = w.heap.size) w w3 → Chg (onS g r) w w3 := fun hc => hc.mono fun i hi e => e.resolve_right (by omega)
  refine joinP_of fun J hJ => ?_
  have e1 : World.cell? w2.drew ⟨w.heap.size, 0, none⟩ = some (.pointer (some ⟨g, 0, none⟩)) := hb2.drew.cell 0 rfl
  refine ldP_of (x := some ⟨g, 0, none⟩) e1 (onPtr_some' (ldI_of (x := S1.used) (hS.drew.blk.cells 2 _ rfl) ?_))
  refine ldP_of (x := some ⟨g, 0, none⟩) e1 (onPtr_some' (ldI_of (x := S1.quota) (hS.drew.blk.cells 0 _ rfl) ?_))
  rw [wrap64_id (by omega)]
  have hBd := (Below.refl w2.heap.size w2).drew
  have stop : ¬ (S1.used > S1.quota - n ∧ 0 < S1.L.length) → K gone w2.drew := fun hno => by
    have hend : S1.roomF n S1.L.length G = (S1, G) := by
      cases hL : S1.L.length with
      | zero => rfl
      | succ f =>
        unfold St.roomF
        rw [if_neg hno]
    rw [hend] at hroom
    refine hK gone w2.drew ?_ ?_ (hchg (hc2.trans (Chg.of_ext hBd) fun i _ hi => hi))
    · rw [← hroom]; exact hS.drew
    · rw [← hroom]; exact hO.drew
  refine cond_of (fun hgt => ?_) fun hgt => ?_
  · have hgt := of_decide_eq_true hgt
    refine ldP_of (x := some ⟨g, 0, none⟩) e1 (onPtr_some' (ldM_of (x := some r) (hS.drew.blk.cells 4 _ rfl) ?_))
    refine ⟨(S1.L.length : Int), w2.drew, hS.drew.map.len tmap ty_int, ?_⟩
    refine cond_of (fun hpos => ?_) fun hpos => ?_
    · have hpos := of_decide_eq_true hpos
      refine hJ _ _ ?_
      refine ldP_of (x := some ⟨g, 0, none⟩) e1 (onPtr_some' (ldM_of (x := some r) (hS.drew.blk.cells 4 _ rfl) (Keys_spec ?_)))
      have hBa : Below w2.heap.size w2 (w2.drew.alloc (.cells #[.map (some r)] 81)) := hBd.alloc (Nat.le_refl _) _
      have hba : Blk (w2.drew.alloc (.cells #[.map (some r)] 81)) w2.heap.size 81 [.map (some r)] := Blk.new w2.drew 81 [.map (some r)]
      have hsa : (w2.drew.alloc (.cells #[.map (some r)] 81)).heap.size = w2.heap.size + 1 := by show (w2.heap.push _).size = _; simp
      have hl := hk1.len
      refine Collect_spec (L := S1.L) (hS.map.ext hBa) (by omega) (hba.cell 0 rfl) fun q w4 ss hss ho4 hB4 => ?_
      have hB24 : Below w2.heap.size w2 w4 := hBa.trans (hB4.mono (by omega))
      have hS4 := hS.ext hB24
      have hssl : ss.length = S1.L.length := by rw [hss.length_eq, List.length_map]
      refine Min_spec hS4 (hb2.ext hB24) ho4.rd (by omega) (by omega) fun mn w5 hmn hmin hB5 => ?_
      have hS5 := hS4.ext hB5
      have hB25 := hB24.trans (hB5.mono hB24.size)
      have hb5 := hb2.ext hB25
      have heq : eldest S1.L = mn := by
        obtain ⟨p, hp, rfl⟩ := List.mem_map.1 (hss.mem_iff.1 hmn)
        refine eldest_one hk1 hp fun p' hp' => ?_
        have := hmin p'.1 (hss.mem_iff.2 (List.mem_map.2 ⟨p', hp', rfl⟩))
        unfold stOf at this
        rwa [srt_look hk1.srt hp, srt_look hk1.srt hp'] at this
      refine ldP_of (x := some ⟨g, 0, none⟩) (hb5.cell 0 rfl) ?_
      refine Drop_spec hS5 hk1 mn fun w6 hS6 hc6 => ?_
      have hO5 := hO.ext hB25
      have hO6 := hO5.chg hc6 fun k hk e => by
        rcases e with e | e
        · exact own_ne_b hO5 hS5.blk (by decide) k hk e
        · exact hS5.map.ne_own hO5 k hk e
      have hs5 := hB25.size
      have hs6 := hc6.size
      have hb6 := hb5.chg hc6 fun e => by rcases e with e | e <;> omega
      refine apI1 hO6 (by omega) (by omega) fun q7 w7 ho7 hc7 _ => ?_
      have hS7 : StM w7 base g r (S1.drop mn) := hS6.keep hc7 (fun e => own_ne_b hO6 hS6.blk (by decide) g e rfl) (fun e => hS6.map.ne_own hO6 r e rfl) fun p hp k hk e => (hS6.img p hp).ne_o hO6 (by decide) k hk e
      have hb7 := hb6.chg hc7 fun e => own_ne_b hO6 hb6 (by decide) _ e rfl
      obtain ⟨x, hx⟩ := eldest_mem (L := S1.L) (by intro e; rw [e] at hpos; simp at hpos)
      rw [heq] at hx
      have hdl := del_length hx
      have hc27 : Chg (fun i => onS g r i ∨ i = w.heap.size) w w7 := by
        refine ((hc2.trans (Chg.of_ext hB25) fun i _ hi => hi).trans hc6 fun i _ hi => .inl hi).trans hc7 fun i hi e => ?_
        have := (hO6.lt i e).1
        omega
      refine hI _ _ _ ⟨S1.drop mn, G ++ [mn], rfl, hS7, drop_ok hk1 mn, hqq, ?_, ?_, ho7, hb7, hc27, by have := hc7.size; omega⟩ hdl
      · rw [← hroom]
        cases hL : S1.L.length with
        | zero => omega
        | succ f =>
          have : S1.roomF n (f + 1) G = (S1.drop (eldest S1.L)).roomF n f (G ++ [eldest S1.L]) := by
            show (if S1.used > S1.quota - n ∧ 0 < S1.L.length then St.roomF n f (S1.drop (eldest S1.L)) (G ++ [eldest S1.L]) else (S1, G)) = _
            rw [if_pos ⟨hgt, by omega⟩]
          rw [this, heq, roomF_ge n (f := f) (by show (delL S1.L mn).length ≤ f; omega)]
      · have : (S1.drop mn).L.length < S1.L.length := hdl
        simp
        omega
    · have hpos := of_decide_eq_false hpos
      exact stop fun hc => hpos (by omega)
  · have hgt := of_decide_eq_false hgt
    exact stop fun hc => hgt hc.1
def St.reserve (S : St) (n : Int) : St × List Int × Int :=
  if n < 0 then (S, [], 1) else if n > S.quota then (S, [], 6) else ((({ S with res := n } : St).room n).1, (({ S with res := n } : St).room n).2, 0)
theorem res_ok {m : Nat} (h : StOk m S) (n : Int) : StOk m { S with res := n } := ⟨h.q0, h.q1, h.used, h.fits, h.len, h.clk0, h.clk, h.srt, h.keys, h.stamps, h.borns, h.st1, h.bo1⟩
theorem reserve_ok {m : Nat} (h : StOk m S) (n : Int) : StOk m (S.reserve n).1 := by
  unfold St.reserve
  split
  · exact h
  · split
    · exact h
    · exact roomF_ok n _ (res_ok h n)
theorem Reserve_spec {m : Nat} {n : Int} (h : StM w base g r S) (hk : StOk m S) (hm : m ≤ 1000) {K : Slc → Int → World → Prop}
    (hK : ∀ q w', StM w' base g r (S.reserve n).1 → Own E_int w' w.heap.size q (S.reserve n).2.1 → Chg (onS g r) w w' → K q (S.reserve n).2.2 w') : c_store_Store_Reserve (some ⟨g, 0, none⟩) n w K := by
  refine call_store_Store_Reserve _ _ ?_
  unfold sh_store_Store_Reserve
  unfold St.reserve at hK
  refine cond_of (fun e => ?_) fun e => ?_
  · have e := of_decide_eq_true e
    rw [if_pos e] at hK
    exact hK _ w h (Own.nil _ _ _) (Chg.refl _ _)
  · have e := of_decide_eq_false e
    rw [if_neg e] at hK
    refine onPtr_some' (ldI_of (x := S.quota) (h.blk.cells 0 _ rfl) ?_)
    refine cond_of (fun e2 => ?_) fun e2 => ?_
    · have e2 := of_decide_eq_true e2
      rw [if_pos e2] at hK
      exact hK _ w h (Own.nil _ _ _) (Chg.refl _ _)
    · have e2 := of_decide_eq_false e2
      rw [if_neg e2] at hK
      refine onPtr_some' ?_
      rw [add_mk]
      refine stK_blk h.blk (by simp [St.cells]) fun w1 hb1 hg1 hs1 => ?_
      have hc : Chg (onS g r) w w1 := (Chg.gg hg1).mono fun i _ hi => .inl hi
      have h1 : StM w1 base g r { S with res := n } := ⟨hb1, h.map.chg (Chg.gg hg1) h.ne, fun p hp => (h.img p hp).chg hc (h.own_blk p hp)⟩
      refine room_spec h1 (res_ok hk n) hm (by omega) (by show n ≤ S.quota; omega) fun q w2 hS2 ho2 hc2 => ?_
      exact hK q w2 hS2 (ho2.base (by omega)) (hc.trans hc2 fun i _ hi => hi)
end
end Go.Proofs.Yteffnkpplhcomaa
