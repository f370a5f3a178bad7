/- StoreEldest: two stores side by side; who goes, in order. -/
import Derived.Test.YteffnkpplhcomaaS11
import Derived.Test.YteffnkpplhcomaaOpen2
set_option linter.unusedVariables false
namespace Go.Proofs.Yteffnkpplhcomaa
open Go.Vc Go.RowKit
set_option maxRecDepth 100000

/-- Those that went, in order: room was wanted ahead of each, and each was the eldest. -/
def GoneL (q n : Int) : Int → List (Int × Im) → List Int → Prop
  | _, _, [] => True
  | u, L, k :: G => u > q - n ∧ 0 < L.length ∧ k = eldest L ∧ GoneL q n (u - (szOf L k : Int)) (delL L k) G
theorem roomF_gone (n : Int) : ∀ (f : Nat) (S : St) (G : List Int), ∃ G', (S.roomF n f G).2 = G ++ G' ∧ GoneL S.quota n S.used S.L G'
  | 0, S, G => ⟨[], by simp [St.roomF], trivial⟩
  | f + 1, S, G => by
    unfold St.roomF
    split
    · rename_i h
      obtain ⟨G', h1, h2⟩ := roomF_gone n f (S.drop (eldest S.L)) (G ++ [eldest S.L])
      exact ⟨eldest S.L :: G', by rw [h1]; simp, h.1, h.2, rfl, h2⟩
    · exact ⟨[], by simp, trivial⟩
theorem room_gone (S : St) (n : Int) : GoneL S.quota n S.used S.L (S.room n).2 := by
  obtain ⟨G', h1, h2⟩ := roomF_gone n S.L.length S []
  unfold St.room
  rw [h1]
  simpa using h2
section
variable {w w' : World} {base base' g r g' r' : Nat} {S S' : St}
theorem StM.two (h : StM w base g r S) (h' : StM w base' g' r' S') (hg : g ≠ g') (hr : r ≠ r') (hc : Chg (onS g r) w w') : StM w' base' g' r' S' := by
  refine h'.keep hc (fun e => ?_) (fun e => ?_) fun p hp k hk e => ?_
  · rcases e with e | e
    · exact hg e.symm
    · exact h.map.ne_blk h'.blk e.symm
  · rcases e with e | e
    · exact h'.map.ne_blk h.blk e
    · exact hr e.symm
  · rcases e with e | e
    · exact (h'.img p hp).ne_b h.blk (by decide) k hk e
    · exact (h'.img p hp).ne_m h.map k hk e
/-- The check of those that went, against the twin. -/
def eldLoop (quota : Int) (g' : Nat) (gone : Slc) (need : Int) (w8 : World) (E : World → Prop) (F : World → Prop) : Prop :=
  loopP (σ := Int × Unit) (fun I6 s_5 w9 =>
                       cond (decide (s_5.1 < ((gone.n : Nat) : Int)))
                         (c_store_Store_Used (some ⟨g', 0, none⟩) w9 fun t161 w10 =>
                          cond (decide (t161 ≤ (IntKind.i64.wrap (quota - need))))
                            (F w10)
                            (ixK gone s_5.1 1 fun t170 =>
                             ldI .i64 t170 w10 fun t171 =>
                             c_store_Store_Stamp (some ⟨g', 0, none⟩) t171 w10 fun t172 t172_1 w11 =>
                             c_store_Store_Ids (some ⟨g', 0, none⟩) w11 fun t176 w12 =>
                             loopP (σ := Int × Unit) (fun I7 s_6 w13 =>
                               cond (decide (s_6.1 < ((t176.n : Nat) : Int)))
                                 (ixK t176 s_6.1 1 fun t187 =>
                                  ldI .i64 t187 w13 fun t188 =>
                                  c_store_Store_Stamp (some ⟨g', 0, none⟩) t188 w13 fun t189 t189_1 w14 =>
                                  cond (decide (t189 < t172))
                                    (F w14)
                                    (I7 ((IntKind.i64.wrap (s_6.1 + (1 : Int))), ()) w14))
                                 (cond (!t172_1)
                                    (F w13)
                                    (ixK gone s_5.1 1 fun t201 =>
                                     ldI .i64 t201 w13 fun t202 =>
                                     c_store_Store_Drop (some ⟨g', 0, none⟩) t202 w13 fun t203 w15 =>
                                     cond (!t203)
                                       (F w15)
                                       (I6 ((IntKind.i64.wrap (s_5.1 + (1 : Int))), ()) w15)))) (0, ()) w12))
                         (E w9)) (0, ()) w8
theorem look_eq {L : List (Int × Im)} (hs : Srt L) {p : Int × Im} (hp : p ∈ L) : ((lookL L p.1).map Im.v).getD nilI = p.2.v ∧ (lookL L p.1).isSome = true := by
  rw [(lookL_some hs).2 hp]
  exact ⟨rfl, rfl⟩
theorem eldLoop_spec {n : Nat} {quota need : Int} {T : St} {gone : Slc} {G : List Int} {b : Nat} {E F : World → Prop} (hT : StM w base g r T) (hk : StOk n T) (hn : n ≤ 1000) (hq : T.quota = quota) (hG : GoneL quota need T.used T.L G) (hnd : G ≠ [] → 0 ≤ need ∧ need ≤ quota)
    (ho : Own E_int w b gone G) (hE : ∀ w', Chg (onS g r) w w' → E w') : eldLoop quota g gone need w E F := by
  unfold eldLoop
  have hgn := ho.rd.n
  rw [hgn]
  have hGl : G.length ≤ maxLen := by have h1 := ho.rd.nc; have h2 := ho.rd.cm; omega
  have hq0 := hk.q0
  have hq1 := hk.q1
  refine loopP_rule (Inv := fun (s : Int × Unit) w9 => ∃ (k : Nat) (T : St), s.1 = (k : Int) ∧ k ≤ G.length ∧ StM w9 base g r T ∧ StOk n T ∧ T.quota = quota ∧ GoneL quota need T.used T.L (G.drop k) ∧ Own E_int w9 b gone G ∧ Chg (onS g r) w w9) (μ := fun s => G.length - s.1.toNat) ⟨0, T, rfl, Nat.zero_le _, hT, hk, hq, hG, ho, Chg.refl _ _⟩ ?_
  rintro ⟨i, ⟨⟩⟩ w9 ⟨k, T, hik, hkG, hT, hk, hq, hG, ho, hc⟩ I hI
  have hik : i = (k : Int) := hik
  subst hik
  refine cond_of (fun hlt => ?_) fun _ => hE w9 hc
  have hlt : k < G.length := by have := of_decide_eq_true hlt; omega
  have hlt' : ((k : Int)).toNat < G.length := by omega
  have hnd := hnd (by intro e; rw [e] at hlt; simp at hlt)
  rw [List.drop_eq_getElem_cons hlt] at hG
  obtain ⟨hu, hpos, hel, hrest⟩ := hG
  refine Used_spec hT ?_
  rw [wrap64_id (by omega)]
  refine cond_f (decide_eq_false (by omega)) ?_
  obtain ⟨x, hx⟩ := eldest_mem (L := T.L) (by intro e; rw [e] at hpos; simp at hpos)
  rw [← hel] at hx
  have hmin : ∀ p ∈ T.L, x.v.stamp ≤ p.2.v.stamp := fun p hp => by
    cases hL : T.L with
    | nil => rw [hL] at hp; cases hp
    | cons a rr =>
      have h1 := eldP_le rr a p (by rw [← hL]; exact hp)
      have h2 : eldP a rr ∈ T.L := by rw [hL]; exact eldP_mem rr a
      have h3 : (eldP a rr).1 = G[k] := by rw [hel, hL]; rfl
      have h4 : (eldP a rr).2 = x := hk.srt.one (a := G[k]) (by rw [← h3]; exact h2) hx
      rw [← h4]
      exact h1
  have hle : ((lookL T.L G[k]).map Im.v).getD nilI = x.v ∧ (lookL T.L G[k]).isSome = true := look_eq hk.srt hx
  have hcell : ∀ {w' : World}, cellsAt w' (gone.at_ E_int.k ((k : Int)).toNat) (E_int.cells G[((k : Int)).toNat]) → w'.cell? (gone.at_ E_int.k ((k : Int)).toNat) = some (.int .i64 G[k]) := fun h => by simpa using h 0 _ rfl
  refine ho.rd.ix (i := (k : Int)) rfl (by omega) (by omega) fun hd => ?_
  refine ldI_of (x := G[k]) (hcell hd) ?_
  refine Stamp_spec hT G[k] fun w11 hB11 => ?_
  rw [hle.1, hle.2]
  have hl := hk.len
  refine Ids_spec (hT.ext hB11) hk (by omega) fun ids w12 hids hB12 => ?_
  have hs11 := hB11.size
  have hB912 : Below w9.heap.size w9 w12 := hB11.trans (hB12.mono hs11)
  have hin := hids.rd.n
  rw [List.length_map] at hin
  rw [hin]
  refine loopP_rule (Inv := fun (s : Int × Unit) w13 => ∃ j : Nat, s.1 = (j : Int) ∧ j ≤ T.L.length ∧ Below w12.heap.size w12 w13) (μ := fun s => T.L.length - s.1.toNat) ⟨0, rfl, Nat.zero_le _, Below.refl _ _⟩ ?_
  rintro ⟨i2, ⟨⟩⟩ w13 ⟨j, hij, hjL, hB13⟩ I7 hI7
  have hij : i2 = (j : Int) := hij
  subst hij
  have hB913 : Below w9.heap.size w9 w13 := hB912.trans (hB13.mono hB912.size)
  refine cond_of (fun hjl => ?_) fun _ => ?_
  · have hjl : j < T.L.length := by have := of_decide_eq_true hjl; omega
    have hjO : ((j : Int)).toNat < (T.L.map (·.1)).length := by simp; omega
    refine (hids.rd.ext hB13).ix (i := (j : Int)) rfl (by omega) (by simp; omega) fun hd => ?_
    refine ldI_of (x := (T.L[j]).1) (by simpa using hd 0 _ rfl) ?_
    refine Stamp_spec (hT.ext hB913) _ fun w14 hB14 => ?_
    rw [(look_eq hk.srt (List.getElem_mem hjl)).1]
    have := hmin _ (List.getElem_mem hjl)
    refine cond_f (decide_eq_false (by omega)) ?_
    rw [wrap64_id (by omega)]
    exact hI7 _ _ ⟨j + 1, by simp, by omega, hB13.trans (hB14.mono hB13.size)⟩ (by show T.L.length - ((j : Int) + 1).toNat < T.L.length - ((j : Int)).toNat; omega)
  · refine cond_f rfl ?_
    have ho13 := ho.ext hB913
    refine ho13.rd.ix (i := (k : Int)) rfl (by omega) (by omega) fun hd => ?_
    refine ldI_of (x := G[k]) (hcell hd) ?_
    have hT13 := hT.ext hB913
    refine Drop_spec hT13 hk G[k] fun w15 h15 hc15 => ?_
    rw [hle.2]
    refine cond_f rfl ?_
    rw [wrap64_id (by unfold maxLen at hGl; omega)]
    have ho15 := ho13.chg hc15 fun kk hkk e => by
      rcases e with e | e
      · exact own_ne_b ho13 hT13.blk (by decide) kk hkk e
      · exact hT13.map.ne_own ho13 kk hkk e
    exact hI _ _ ⟨k + 1, T.drop G[k], by simp, by omega, h15, drop_ok hk _, hq, hrest, ho15, (hc.trans (Chg.of_ext hB913) fun i _ hi => hi).trans hc15 fun i _ hi => hi⟩ (by show G.length - ((k : Int) + 1).toNat < G.length - ((k : Int)).toNat; omega)
end
end Go.Proofs.Yteffnkpplhcomaa
