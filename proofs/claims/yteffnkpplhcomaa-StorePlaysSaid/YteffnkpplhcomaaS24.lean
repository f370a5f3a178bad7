/- Two plain stores that differ in where their images' bytes lie. -/
import Derived.Test.YteffnkpplhcomaaS23
set_option linter.unusedVariables false
namespace Go.Proofs.Yteffnkpplhcomaa
open Go.Vc Go.RowKit
set_option maxRecDepth 100000

def fgI (x : Im) : Im := ⟨{ x.v with m := { x.v.m with P := ⟨none, 0, 0⟩ } }, x.bs⟩
def fgP (p : Int × Im) : Int × Im := (p.1, fgI p.2)
def fgL (L : List (Int × Im)) : List (Int × Im) := L.map fgP
def St.fg (S : St) : St := { S with L := fgL S.L }
theorem fg_look (L : List (Int × Im)) (k : Int) : lookL (fgL L) k = (lookL L k).map fgI := by
  unfold lookL fgL
  rw [List.find?_map, Option.map_map, Option.map_map]
  rfl
theorem fg_del (L : List (Int × Im)) (k : Int) : delL (fgL L) k = fgL (delL L k) := by
  unfold delL fgL
  rw [List.filter_map]
  rfl
theorem fg_put (L : List (Int × Im)) (k : Int) (x : Im) : fgL (putL' L k x) = putL' (fgL L) k (fgI x) := by
  induction L with
  | nil => rfl
  | cons p L ih =>
    show fgL (if k < p.1 then _ else if k = p.1 then _ else p :: putL' L k x) = (if k < p.1 then _ else if k = p.1 then _ else fgP p :: putL' (fgL L) k (fgI x))
    split
    · rfl
    · split
      · rfl
      · rw [← ih]; rfl
theorem fg_sz (L : List (Int × Im)) (k : Int) : szOf (fgL L) k = szOf L k := by
  unfold szOf
  rw [fg_look, Option.map_map]
  rfl
theorem fg_eldP : ∀ (L : List (Int × Im)) (p : Int × Im), eldP (fgP p) (fgL L) = fgP (eldP p L)
  | [], p => rfl
  | q :: r, p => by
    show (if q.2.v.stamp < p.2.v.stamp then eldP (fgP q) (fgL r) else eldP (fgP p) (fgL r)) = fgP (if q.2.v.stamp < p.2.v.stamp then eldP q r else eldP p r)
    split
    · exact fg_eldP r q
    · exact fg_eldP r p
theorem fg_eldest (L : List (Int × Im)) : eldest (fgL L) = eldest L := by
  cases L with
  | nil => rfl
  | cons p r =>
    have := congrArg Prod.fst (fg_eldP r p)
    exact this
theorem fg_len (L : List (Int × Im)) : (fgL L).length = L.length := List.length_map _
theorem fg_drop (S : St) (k : Int) : (S.drop k).fg = S.fg.drop k := by
  unfold St.drop St.fg
  simp only [fg_sz, fg_del]
theorem fg_roomF (n : Int) : ∀ (f : Nat) (S : St) (G : List Int), (S.roomF n f G).1.fg = (S.fg.roomF n f G).1 ∧ (S.roomF n f G).2 = (S.fg.roomF n f G).2
  | 0, S, G => ⟨rfl, rfl⟩
  | f + 1, S, G => by
    have e1 : S.fg.used = S.used := rfl
    have e2 : S.fg.quota = S.quota := rfl
    have e3 : S.fg.L.length = S.L.length := fg_len _
    have e4 : eldest S.fg.L = eldest S.L := fg_eldest _
    unfold St.roomF
    rw [e1, e2, e3, e4]
    split
    · rw [← fg_drop]
      exact fg_roomF n f _ _
    · exact ⟨rfl, rfl⟩
theorem fg_room (S : St) (n : Int) : (S.room n).1.fg = (S.fg.room n).1 ∧ (S.room n).2 = (S.fg.room n).2 := by
  unfold St.room
  rw [show S.fg.L.length = S.L.length from fg_len _]
  exact fg_roomF n _ _ _
theorem fg_use (S : St) (k : Int) : (S.use k).fg = S.fg.use k := by
  unfold St.use
  rw [show S.fg.L = fgL S.L from rfl, fg_look]
  cases lookL S.L k with
  | none => rfl
  | some x =>
    show St.fg _ = _
    unfold St.fg
    simp only [Option.map_some, fg_put]
    rfl
theorem fg_reserve (S : St) (n : Int) : (S.reserve n).1.fg = (S.fg.reserve n).1 ∧ (S.reserve n).2 = (S.fg.reserve n).2 := by
  unfold St.reserve
  rw [show S.fg.quota = S.quota from rfl]
  split
  · exact ⟨rfl, rfl⟩
  · split
    · exact ⟨rfl, rfl⟩
    · have := fg_room ({ S with res := n } : St) n
      exact ⟨this.1, by rw [this.2]; rfl⟩
theorem fg_free (L : List (Int × Im)) : ∀ (f : Nat) (k : Int), freeF (fgL L) f k = freeF L f k
  | 0, k => rfl
  | f + 1, k => by
    unfold freeF
    rw [fg_look, Option.isSome_map, fg_free L f]
theorem fg_newId (L : List (Int × Im)) (id : Int) : newId (fgL L) id = newId L id := by
  unfold newId
  rw [fg_free]
theorem fg_putPre (S : St) (id : Int) (n : Nat) : (S.putPre id n).1.fg = (S.fg.putPre id n).1 ∧ (S.putPre id n).2 = (S.fg.putPre id n).2 := by
  unfold St.putPre
  have := fg_room (if id = 0 then ({ S with res := 0 } : St) else ({ S with res := 0 } : St).drop id) n
  have e : (if id = 0 then ({ S with res := 0 } : St) else ({ S with res := 0 } : St).drop id).fg = if id = 0 then ({ S.fg with res := 0 } : St) else ({ S.fg with res := 0 } : St).drop id := by
    split
    · rfl
    · exact fg_drop _ _
  rw [e] at this
  exact this
theorem fg_putAt (S : St) (i num W H : Int) (P : Slc) (bs : List UInt8) : (S.putAt i num W H P bs).fg = S.fg.putAt i num W H ⟨none, 0, 0⟩ bs := by
  unfold St.putAt St.fg
  simp only [fg_put]
  rfl
/-- The same, but for where the bytes lie. -/
def Sim (S S' : St) : Prop := S.fg = S'.fg
section
variable {S S' : St}
theorem Sim.look (h : Sim S S') (k : Int) : (lookL S.L k).map fgI = (lookL S'.L k).map fgI := by
  rw [← fg_look, ← fg_look]
  exact congrArg (fun s => lookL (St.L s) k) h
theorem Sim.some (h : Sim S S') (k : Int) : (lookL S.L k).isSome = (lookL S'.L k).isSome := by
  have := congrArg Option.isSome (h.look k)
  simpa using this
theorem Sim.stamp (h : Sim S S') (k : Int) : (vOf S.L k).stamp = (vOf S'.L k).stamp ∧ (vOf S.L k).m.W = (vOf S'.L k).m.W ∧ (vOf S.L k).m.H = (vOf S'.L k).m.H ∧ bsOf S.L k = bsOf S'.L k := by
  have := h.look k
  unfold vOf bsOf
  cases h1 : lookL S.L k with
  | none =>
    cases h2 : lookL S'.L k with
    | none => exact ⟨rfl, rfl, rfl, rfl⟩
    | some y => rw [h1, h2] at this; cases this
  | some x =>
    cases h2 : lookL S'.L k with
    | none => rw [h1, h2] at this; cases this
    | some y =>
      rw [h1, h2] at this
      have e : fgI x = fgI y := by simpa using this
      have h1 := congrArg (fun z : Im => z.v.stamp) e
      have h2 := congrArg (fun z : Im => z.v.m.W) e
      have h3 := congrArg (fun z : Im => z.v.m.H) e
      have h4 := congrArg (fun z : Im => z.bs) e
      exact ⟨h1, h2, h3, h4⟩
theorem Sim.keys (h : Sim S S') : S.L.map (·.1) = S'.L.map (·.1) := by
  have h1 : (fgL S.L).map (·.1) = (fgL S'.L).map (·.1) := congrArg (fun s => (St.L s).map (·.1)) h
  unfold fgL at h1
  rw [List.map_map, List.map_map] at h1
  exact h1
theorem Sim.drop (h : Sim S S') (k : Int) : Sim (S.drop k) (S'.drop k) := by unfold Sim; rw [fg_drop, fg_drop, h]
theorem Sim.use (h : Sim S S') (k : Int) : Sim (S.use k) (S'.use k) := by unfold Sim; rw [fg_use, fg_use, h]
theorem Sim.reserve (h : Sim S S') (n : Int) : Sim (S.reserve n).1 (S'.reserve n).1 ∧ (S.reserve n).2 = (S'.reserve n).2 := by
  unfold Sim
  rw [(fg_reserve S n).1, (fg_reserve S' n).1, (fg_reserve S n).2, (fg_reserve S' n).2, h]
  exact ⟨rfl, rfl⟩
theorem Sim.quota (h : Sim S S') : S.quota = S'.quota ∧ S.res = S'.res ∧ S.used = S'.used := by
  have h' : S.fg = S'.fg := h
  have h1 := congrArg St.quota h'
  have h2 := congrArg St.res h'
  have h3 := congrArg St.used h'
  exact ⟨h1, h2, h3⟩
theorem Sim.putErr (h : Sim S S') (id num W H : Int) (n : Nat) : putErr S id num W H n = putErr S' id num W H n := by
  unfold Yteffnkpplhcomaa.putErr
  rw [h.quota.1]
theorem Sim.putPre (h : Sim S S') (id : Int) (n : Nat) : Sim (S.putPre id n).1 (S'.putPre id n).1 ∧ (S.putPre id n).2 = (S'.putPre id n).2 := by
  unfold Sim
  rw [(fg_putPre S id n).1, (fg_putPre S' id n).1, (fg_putPre S id n).2, (fg_putPre S' id n).2, h]
  exact ⟨rfl, rfl⟩
theorem Sim.newId (h : Sim S S') (id : Int) : newId S.L id = newId S'.L id := by
  rw [← fg_newId S.L, ← fg_newId S'.L]
  exact congrArg (fun s => Yteffnkpplhcomaa.newId (St.L s) id) h
theorem Sim.putAt (h : Sim S S') (i num W H : Int) (P P' : Slc) (bs : List UInt8) : Sim (S.putAt i num W H P bs) (S'.putAt i num W H P' bs) := by
  unfold Sim
  rw [fg_putAt, fg_putAt, h]
theorem Sim.num (h : Sim S S') {n b : Int} {ok : Bool} (hr : NumRes S'.L n b ok) : NumRes S.L n b ok := by
  have hL : fgL S.L = fgL S'.L := congrArg St.L h
  have to : ∀ {p : Int × Im}, p ∈ S.L → ∃ p' ∈ S'.L, fgP p' = fgP p := fun {p} hp => by
    have : fgP p ∈ fgL S'.L := by rw [← hL]; exact List.mem_map.2 ⟨p, hp, rfl⟩
    obtain ⟨p', hp', e⟩ := List.mem_map.1 this
    exact ⟨p', hp', e⟩
  have back : ∀ {p : Int × Im}, p ∈ S'.L → ∃ p' ∈ S.L, fgP p' = fgP p := fun {p} hp => by
    have : fgP p ∈ fgL S.L := by rw [hL]; exact List.mem_map.2 ⟨p, hp, rfl⟩
    obtain ⟨p', hp', e⟩ := List.mem_map.1 this
    exact ⟨p', hp', e⟩
  have en : ∀ {p p' : Int × Im}, fgP p' = fgP p → p'.2.v.number = p.2.v.number ∧ p'.2.v.born = p.2.v.born ∧ p'.1 = p.1 := fun e => by
    have h1 := congrArg (fun z : Int × Im => z.2.v.number) e
    have h2 := congrArg (fun z : Int × Im => z.2.v.born) e
    have h3 := congrArg (fun z : Int × Im => z.1) e
    exact ⟨h1, h2, h3⟩
  rcases hr with ⟨e1, e2, hr⟩ | ⟨e1, x, hx, hn, hxn, hm⟩
  · refine .inl ⟨e1, e2, fun p hp => ?_⟩
    obtain ⟨p', hp', e⟩ := to hp
    have := hr p' hp'
    rw [(en e).1] at this
    exact this
  · obtain ⟨⟨a, y⟩, hy, e⟩ := back hx
    have e3 := en e
    have ea : a = b := e3.2.2
    subst ea
    refine .inr ⟨e1, y, hy, hn, e3.1.trans hxn, fun p hp hpn => ?_⟩
    obtain ⟨p', hp', e'⟩ := to hp
    have e4 := en e'
    have := hm p' hp' (e4.1.trans hpn)
    have e5 : y.v.born = x.v.born := e3.2.1
    rw [e5, ← e4.2.1]
    exact this
end
end Go.Proofs.Yteffnkpplhcomaa
