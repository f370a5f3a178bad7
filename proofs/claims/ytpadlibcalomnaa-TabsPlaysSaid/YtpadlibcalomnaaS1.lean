/- The kit's contracts for maps.Keys, slices.Collect, slices.Sorted over int keys, laid at this program, and what they come to for a map that holds a sorted list. -/
import Derived.Shelf.SlIterI.Nil
import Derived.Shelf.SortM.Plain
import Derived.Shelf.SortM.SortNone
import Derived.Test.YtpadlibcalomnaaMem3
import Derived.Test.YtpadlibcalomnaaEls
import Derived.Test.YtpadlibcalomnaaSh0
import Derived.Test.YtpadlibcalomnaaMapO
set_option maxRecDepth 100000
set_option linter.unusedVariables false
namespace Go.Proofs
open Go.RowKit Go.Maps Go.Sort Go.Shelf Go.Vc
def Try.keysA_ren : Go.Shelf.Ren := ⟨fun | 7 => 25 | 10 => 30 | n => n, fun | 23 => 42 | 26 => 3 | 3 => 4 | 28 => 53 | 0 => 0 | 27 => 52 | 33 => 28 | 4 => 4 | n => n, fun | n => n⟩
theorem Try.keysA : Go.Proofs.SlLaysZI.n7 Try.prog Try.keysA_ren := {
  mixed := by kernel_rfl
  f7 := ⟨Try.f25.name, by decide, Try.func25.trans (congrArg some (by kernel_rfl))⟩
  f10 := ⟨Try.f30.name, by decide, Try.func30.trans (congrArg some (by kernel_rfl))⟩
  t0 := Try.underlying0
  a0 := Try.isAgg0
  z0 := Try.sizeOf0
  v0 := Try.zeroValue0
  t4 := Try.underlying4
  a4 := Try.isAgg4
  z4 := Try.sizeOf4
  v4 := Try.zeroValue4
  t23 := Try.underlying42
  a23 := Try.isAgg42
  z23 := Try.sizeOf42
  v23 := Try.zeroValue42
  t26 := Try.underlying3
  a26 := Try.isAgg3
  z26 := Try.sizeOf3
  v26 := Try.zeroValue3
  t27 := Try.underlying52
  a27 := Try.isAgg52
  z27 := Try.sizeOf52
  v27 := Try.zeroValue52
  t28 := Try.underlying53
  a28 := Try.isAgg53
  z28 := Try.sizeOf53
  v28 := Try.zeroValue53
  t33 := Try.underlying28
  a33 := Try.isAgg28
  z33 := Try.sizeOf28
  v33 := Try.zeroValue28 }
def Try.sortedA_ren : Go.Shelf.Ren := ⟨fun | 6 => 24 | 8 => 28 | 9 => 29 | 11 => 31 | 13 => 33 | 12 => 32 | 23 => 43 | 24 => 44 | 14 => 34 | 15 => 35 | 16 => 36 | 17 => 37 | 18 => 38 | 19 => 39 | 20 => 40 | 21 => 41 | 22 => 42 | 25 => 45 | 26 => 46 | 27 => 47 | 28 => 48 | 29 => 49 | 30 => 50 | 31 => 51 | n => n, fun | 26 => 3 | 28 => 53 | 24 => 22 | 0 => 0 | 3 => 3 | 37 => 60 | 48 => 70 | 50 => 72 | 4 => 4 | 40 => 63 | 39 => 62 | 45 => 67 | 5 => 5 | 9 => 9 | 51 => 73 | 55 => 77 | 57 => 79 | 58 => 80 | 33 => 28 | n => n, fun | n => n⟩
theorem Try.sortedA : Go.Proofs.SlLaysZI.n6 Try.prog Try.sortedA_ren := {
  mixed := by kernel_rfl
  f6 := ⟨Try.f24.name, by decide, Try.func24.trans (congrArg some (by kernel_rfl))⟩
  f8 := ⟨Try.f28.name, by decide, Try.func28.trans (congrArg some (by kernel_rfl))⟩
  f11 := ⟨Try.f31.name, by decide, Try.func31.trans (congrArg some (by kernel_rfl))⟩
  t0 := Try.underlying0
  a0 := Try.isAgg0
  z0 := Try.sizeOf0
  v0 := Try.zeroValue0
  t24 := Try.underlying22
  a24 := Try.isAgg22
  z24 := Try.sizeOf22
  v24 := Try.zeroValue22
  t26 := Try.underlying3
  a26 := Try.isAgg3
  z26 := Try.sizeOf3
  v26 := Try.zeroValue3
  t28 := Try.underlying53
  a28 := Try.isAgg53
  z28 := Try.sizeOf53
  v28 := Try.zeroValue53
  i26 := by kernel_rfl }
def Try.sortA_ren : Go.Shelf.Ren := ⟨fun | 5 => 29 | 8 => 33 | 7 => 32 | 19 => 43 | 20 => 44 | 10 => 34 | 11 => 35 | 12 => 36 | 13 => 37 | 14 => 38 | 15 => 39 | 16 => 40 | 17 => 41 | 18 => 42 | 30 => 45 | 31 => 46 | 32 => 47 | 33 => 48 | 34 => 49 | 35 => 50 | 40 => 51 | n => n, fun | 23 => 22 | 25 => 3 | 3 => 3 | 32 => 60 | 22 => 22 | 0 => 0 | 44 => 70 | 46 => 72 | 4 => 4 | 36 => 63 | 35 => 62 | 41 => 67 | 5 => 5 | 9 => 9 | 53 => 73 | 57 => 77 | 63 => 79 | 64 => 80 | n => n, fun | n => n⟩
theorem Try.sortA : Go.Proofs.SlLaysM.n5 Try.prog Try.sortA_ren := {
  mixed := by kernel_rfl
  f5 := ⟨Try.f29.name, by decide, Try.func29.trans (congrArg some (by kernel_rfl))⟩
  f7 := ⟨Try.f32.name, by decide, Try.func32.trans (congrArg some (by kernel_rfl))⟩
  f8 := Try.func33.trans (congrArg some (by kernel_rfl))
  f10 := ⟨Try.f34.name, by decide, Try.func34.trans (congrArg some (by kernel_rfl))⟩
  f11 := ⟨Try.f35.name, by decide, Try.func35.trans (congrArg some (by kernel_rfl))⟩
  f12 := ⟨Try.f36.name, by decide, Try.func36.trans (congrArg some (by kernel_rfl))⟩
  f13 := ⟨Try.f37.name, by decide, Try.func37.trans (congrArg some (by kernel_rfl))⟩
  f14 := ⟨Try.f38.name, by decide, Try.func38.trans (congrArg some (by kernel_rfl))⟩
  f15 := ⟨Try.f39.name, by decide, Try.func39.trans (congrArg some (by kernel_rfl))⟩
  f16 := ⟨Try.f40.name, by decide, Try.func40.trans (congrArg some (by kernel_rfl))⟩
  f17 := ⟨Try.f41.name, by decide, Try.func41.trans (congrArg some (by kernel_rfl))⟩
  f18 := ⟨Try.f42.name, by decide, Try.func42.trans (congrArg some (by kernel_rfl))⟩
  f19 := Try.func43.trans (congrArg some (by kernel_rfl))
  f20 := Try.func44.trans (congrArg some (by kernel_rfl))
  f30 := ⟨Try.f45.name, by decide, Try.func45.trans (congrArg some (by kernel_rfl))⟩
  f31 := Try.func46.trans (congrArg some (by kernel_rfl))
  f32 := Try.func47.trans (congrArg some (by kernel_rfl))
  f33 := ⟨Try.f48.name, by decide, Try.func48.trans (congrArg some (by kernel_rfl))⟩
  f34 := ⟨Try.f49.name, by decide, Try.func49.trans (congrArg some (by kernel_rfl))⟩
  f35 := ⟨Try.f50.name, by decide, Try.func50.trans (congrArg some (by kernel_rfl))⟩
  f40 := ⟨Try.f51.name, by decide, Try.func51.trans (congrArg some (by kernel_rfl))⟩
  t0 := Try.underlying0
  a0 := Try.isAgg0
  z0 := Try.sizeOf0
  v0 := Try.zeroValue0
  t3 := Try.underlying3
  a3 := Try.isAgg3
  z3 := Try.sizeOf3
  v3 := Try.zeroValue3
  t4 := Try.underlying4
  a4 := Try.isAgg4
  z4 := Try.sizeOf4
  v4 := Try.zeroValue4
  t5 := Try.underlying5
  a5 := Try.isAgg5
  z5 := Try.sizeOf5
  v5 := Try.zeroValue5
  t9 := Try.underlying9
  a9 := Try.isAgg9
  z9 := Try.sizeOf9
  v9 := Try.zeroValue9
  t22 := Try.underlying22
  a22 := Try.isAgg22
  z22 := Try.sizeOf22
  v22 := Try.zeroValue22
  t23 := Try.underlying22
  a23 := Try.isAgg22
  z23 := Try.sizeOf22
  v23 := Try.zeroValue22
  t25 := Try.underlying3
  a25 := Try.isAgg3
  z25 := Try.sizeOf3
  v25 := Try.zeroValue3
  t32 := Try.underlying60
  a32 := Try.isAgg60
  z32 := Try.sizeOf60
  v32 := Try.zeroValue60
  t35 := Try.underlying62
  a35 := Try.isAgg62
  z35 := Try.sizeOf62
  v35 := Try.zeroValue62
  t36 := Try.underlying63
  a36 := Try.isAgg63
  z36 := Try.sizeOf63
  v36 := Try.zeroValue63
  t41 := Try.underlying67
  a41 := Try.isAgg67
  z41 := Try.sizeOf67
  v41 := Try.zeroValue67
  t44 := Try.underlying70
  a44 := Try.isAgg70
  z44 := Try.sizeOf70
  v44 := Try.zeroValue70
  t46 := Try.underlying72
  a46 := Try.isAgg72
  z46 := Try.sizeOf72
  v46 := Try.zeroValue72
  t53 := Try.underlying73
  a53 := Try.isAgg73
  z53 := Try.sizeOf73
  v53 := Try.zeroValue73
  t57 := Try.underlying77
  a57 := Try.isAgg77
  z57 := Try.sizeOf77
  v57 := Try.zeroValue77
  t63 := Try.underlying79
  a63 := Try.isAgg79
  z63 := Try.sizeOf79
  v63 := Try.zeroValue79
  t64 := Try.underlying80
  a64 := Try.isAgg80
  z64 := Try.sizeOf80
  v64 := Try.zeroValue80 }

theorem Try.sortsA (m : Nat) : AnyZI.SortsIn Try.prog Try.sortedA_ren Fence.wide m :=
  ⟨fun blk off cap ss W hH hblk hsz => callsIn_wide.2 (AnyM.slices_Sort_int Try.sortA blk off cap ss W hH hblk hsz),
   fun p cap W => callsIn_wide.2 (AnyM.slices_Sort_int_none Try.sortA p cap W)⟩

namespace Ytpadlibcalomnaa
section
variable {V : Type} {enc : V → Value} {w : World} {r : Nat} {L : List (Int × V)}
/-- A map as the kit reads it: the keys alone. -/
def noRead : Value → Option (DataW Unit × List MemPlace) := fun _ => some (.nil, [])
theorem rd_ent {c : Nat} {E : List (Ent V)} (hE : MapE enc w r E c) {e : Ent V} (he : e ∈ E) : WideElems.rd Try.prog 3 noRead (Ent.val enc e) = some (.int .i64 e.k, .nil) := by
  have h1 := keyOf_int_mk (P := Try.prog) (k := 3) (q := .i64) Try.underlying3 (a := e.k) (by
    have := hE.wf e he
    simp [Lit.wf, IntKind.min, IntKind.max, IntKind.signed, IntKind.bits]
    omega)
  unfold WideElems.rd
  show (keyOf Try.prog 3 (.int .i64 e.k)).bind _ = _
  rw [h1]
  rfl
theorem owns_of {c : Nat} {E : List (Ent V)} (hE : MapE enc w r E c) (hl : E.length ≤ maxLen) :
    ∃ D0 : DataW Unit, w.ownsMap Try.prog 3 noRead r E.length D0 ∧ Maps.size D0 = E.length ∧ (intKeys D0).Perm (E.map (·.k)) := by
  have hmap : (E.map (Ent.val enc)).map (WideElems.rg Try.prog 3 noRead) = E.map fun e => (Lit.int .i64 e.k, (.nil : DataW Unit)) := by
    rw [List.map_map]
    refine List.map_congr_left fun e he => ?_
    show (WideElems.rd Try.prog 3 noRead (Ent.val enc e)).getD _ = _
    rw [rd_ent hE he]
    rfl
  refine ⟨_, ⟨_, c, hE.heap, ⟨by simpa using hl, ⟨?_, ?_, ?_⟩, ?_⟩, by simp, rfl⟩, ?_, ?_⟩
  · intro x hx
    obtain ⟨e, he, rfl⟩ := List.mem_map.1 hx
    exact hE.lt e he
  · rw [List.toList_toArray, List.map_map]
    exact List.pairwise_map.2 (hE.stamps.imp fun {a b} h (e : a.b = b.b) => by rw [e] at h; exact Nat.lt_irrefl _ h)
  · rw [List.toList_toArray, List.map_map]
    exact List.pairwise_map.2 (hE.keys.imp fun {a b} h (e : Value.int .i64 a.k = .int .i64 b.k) => h (by injection e))
  · intro x hx
    obtain ⟨e, he, rfl⟩ := List.mem_map.1 hx
    exact ⟨_, rd_ent hE he⟩
  · show (List.foldr DataW.insert [] _).length = _
    rw [List.toList_toArray, hmap, (Go.WideShapes.sorted_perm _).length_eq, List.length_map]
  · show (List.map (fun p : Lit × DataW Unit => Go.intOf p.fst) (List.foldr DataW.insert [] _)).Perm _
    rw [List.toList_toArray, hmap]
    refine ((Go.WideShapes.sorted_perm _).map _).trans ?_
    rw [List.map_map]
    exact .refl _
theorem keys_give (hM : MapM enc w r L) (hl : L.length ≤ maxLen) {B : Nat} (hB : w.cell? ⟨B, 0, none⟩ = some (.map (some r))) (n : Nat) (hn : 1 ≤ n) :
    SeqGives Fence.wide n Try.prog 30 #[.pointer (some ⟨B, 0, none⟩)] encZ (fun ss => ss.Perm (L.map (·.1))) L.length w := by
  obtain ⟨E, c, hE, hp, hs⟩ := hM
  have hlen := mapE_size hp
  obtain ⟨D0, hD, hsz, hpk⟩ := owns_of hE (by omega)
  have hBl : B < w.heap.size := by
    unfold World.cell? at hB
    cases h : w.heap[B]? with
    | none => rw [h] at hB; cases hB
    | some o => exact (Array.getElem?_eq_some_iff.1 h).1
  have h := AnyZI.keys_gives (ρ := Try.keysA_ren) { Try.keysA with } Fence.wide n trivial rfl hn B r E.length D0 w hBl hB hD
  rw [hsz, hlen] at h
  have hpp : (E.map (·.k)).Perm (L.map (·.1)) := by
    have := hp.map (·.1)
    unfold pairs at this
    rwa [List.map_map] at this
  intro l J W hW hJ hY h0
  refine (h l J W hW hJ hY h0).mono ?_
  rintro e W' ⟨hv, xs, hxs, hJx⟩
  exact ⟨hv, xs, (hxs.trans hpk).trans hpp, hJx⟩
theorem Keys_spec {m : Option Nat} {w : World} {K : Value → World → Prop}
    (hK : K (.func (.func 30) #[] #[.pointer (some ⟨w.heap.size, 0, none⟩)]) (w.alloc (.cells #[.map m] 42))) : c_maps_Keys_map_int_bool_int_bool m w K := by
  have h := callsIn_wide.1 (AnyZI.keys_in Try.keysA Fence.wide 5 trivial rfl m w)
  refine Calls.mono (R := fun e w' => e = .returned (.func (.func 30) #[] #[.pointer (some ⟨w.heap.size, 0, none⟩)]) ∧ w' = w.alloc (.cells #[.map m] 42)) h ?_
  rintro e w' ⟨rfl, rfl⟩
  exact ⟨_, rfl, hK⟩
theorem srt_keys {ss : List Int} (hs : Srt L) (hp : ss.Perm (L.map (·.1))) : ss.mergeSort (fun x y => decide (x ≤ y)) = L.map (·.1) := by
  have h1 : (ss.mergeSort fun x y => decide (x ≤ y)).Pairwise fun x y => x ≤ y := by
    have := List.pairwise_mergeSort (le := fun x y : Int => decide (x ≤ y)) (fun a b c h1 h2 => by simp only [decide_eq_true_eq] at *; omega) (fun a b => by simp only [Bool.or_eq_true, decide_eq_true_eq]; omega) ss
    exact this.imp fun h => by simpa using h
  have h2 : (L.map (·.1)).Pairwise fun x y => x ≤ y := List.pairwise_map.2 (hs.imp fun h => Int.le_of_lt h)
  exact ((List.mergeSort_perm ss _).trans hp).eq_of_pairwise (fun a b _ _ h1 h2 => Int.le_antisymm h1 h2) h1 h2
theorem flat_int : ∀ xs : List Int, flat E_int xs = xs.map encZ
  | [] => rfl
  | x :: xs => by
    have ih := flat_int xs
    unfold flat at ih ⊢
    rw [List.flatMap_cons, ih, List.map_cons]
    rfl
theorem own_of_row {w : World} {base : Nat} {v : Value} {xs : List Int} (h : w.ownsRow base 3 1 v xs.length (xs.map encZ)) : ∃ q : Slc, v = .slice q.a q.n q.c ∧ Own E_int w base q xs := by
  have hf := flat_int xs
  have hv : ∃ q : Slc, v = .slice q.a q.n q.c := by
    rcases h.2 with ⟨rfl, _⟩ | ⟨g, cap, cur, rfl, _⟩
    · exact ⟨⟨none, 0, 0⟩, rfl⟩
    · exact ⟨⟨_, _, _⟩, rfl⟩
  obtain ⟨q, rfl⟩ := hv
  refine ⟨q, rfl, ?_⟩
  unfold Own
  rw [hf]
  exact h
theorem Sorted_spec {B : Nat} {K : Slc → World → Prop} (hM : MapM enc w r L) (hl : L.length ≤ 1000000) (hB : w.cell? ⟨B, 0, none⟩ = some (.map (some r)))
    (hK : ∀ q w', Own E_int w' w.heap.size q (L.map (·.1)) → Below w.heap.size w w' → K q w') : c_slices_Sorted_int (.func (.func 30) #[] #[.pointer (some ⟨B, 0, none⟩)]) w K := by
  have h := callsIn_wide.1 (AnyZI.sorted_in Try.sortedA Fence.wide 5 trivial trivial trivial trivial rfl (by omega) (Try.sortsA _) (enters_of Try.func29 (by kernel_rfl) rfl) 30 #[.pointer (some ⟨B, 0, none⟩)] trivial (enters_of Try.func30 (by kernel_rfl) rfl) _ L.length (by unfold maxLen; omega) (by omega) w (keys_give hM (by unfold maxLen; omega) hB 2 (by omega)))
  refine Calls.mono h ?_
  rintro e w' ⟨v, ss, rfl, hS, hrow, _, hb⟩
  rw [srt_keys hM.srt hS] at hrow
  rw [show ss.length = (L.map (·.1)).length from hS.length_eq] at hrow
  obtain ⟨q, rfl, hq⟩ := own_of_row hrow
  exact ⟨q, rfl, hK q w' hq hb⟩
theorem Collect_spec {B : Nat} {K : Slc → World → Prop} (hM : MapM enc w r L) (hl : L.length ≤ 1000000) (hB : w.cell? ⟨B, 0, none⟩ = some (.map (some r)))
    (hK : ∀ q w' ss, ss.Perm (L.map (·.1)) → Own E_int w' w.heap.size q ss → Below w.heap.size w w' → K q w') : c_slices_Collect_int (.func (.func 30) #[] #[.pointer (some ⟨B, 0, none⟩)]) w K := by
  have h := callsIn_wide.1 (AnyZI.collect_in (ρ := Try.sortedA_ren) { Try.sortedA with } Fence.wide 5 trivial trivial rfl (by omega) 30 #[.pointer (some ⟨B, 0, none⟩)] trivial (enters_of Try.func30 (by kernel_rfl) rfl) _ L.length (by unfold maxLen; omega) (by omega) w (keys_give hM (by unfold maxLen; omega) hB 3 (by omega)))
  refine Calls.mono h ?_
  rintro e w' ⟨v, ss, rfl, hS, hrow, _, hb⟩
  obtain ⟨q, rfl, hq⟩ := own_of_row hrow
  exact ⟨q, rfl, hK q w' ss hS hq hb⟩
end
end Ytpadlibcalomnaa
end Go.Proofs
