/- Bytes as strings, strings as bytes; the library's functions over them. -/
import Derived.Test.YtpadlibcalomnaaDoorMem4
import Derived.Test.YtpadlibcalomnaaDoorEls
import Derived.Test.YtpadlibcalomnaaDoorSh0
import Derived.Test.YtpadlibcalomnaaDoorSh1
import Derived.Test.YtpadlibcalomnaaDoorSh2
import Derived.Test.YtpadlibcalomnaaDoorLib
import Derived.Lib.ConvBytes
import Derived.Laws.BytesString
import Derived.Laws.Runes
import Derived.WalkSmall
set_option linter.unusedVariables false
namespace Go.Proofs.YtpadlibcalomnaaDoor
open Go.Vc Go.RowKit
set_option maxRecDepth 400000

def strB (bs : List UInt8) : ByteArray := ⟨bs.toArray⟩
theorem strB_toList (l : List UInt8) : (strB l).toList = l := by rw [ByteArray.toList_eq]; rfl
theorem strB_data (l : List UInt8) : (strB l).data.toList = l := rfl
theorem strB_eta (s : ByteArray) : strB s.data.toList = s := by cases s; simp [strB]
theorem strB_size (l : List UInt8) : (strB l).size = l.length := by show l.toArray.size = _; simp
theorem strB_app (a b : List UInt8) : strB a ++ strB b = strB (a ++ b) := by
  have : (strB a ++ strB b).data = (strB (a ++ b)).data := by rw [ByteArray.data_append]; simp [strB]
  calc strB a ++ strB b = ⟨(strB a ++ strB b).data⟩ := rfl
    _ = strB (a ++ b) := by rw [this]
theorem strB_inj {a b : List UInt8} (h : strB a = strB b) : a = b := by have := congrArg (fun s : ByteArray => s.data.toList) h; simpa [strB] using this
theorem run_bytes_strB {w : World} {s : Slc} {bs : List UInt8} (h : Rd E_uint8 w s bs) : (convert ty_sl_uint8 ty_string (.slice s.a s.n s.c)).run PG w = .ok (.string (strB bs)) w := by
  cases ha : s.a with
  | none =>
    have : bs = [] := by
      cases bs with
      | nil => rfl
      | cons x r => have := h.some_ (by simp); rw [ha] at this; cases this
    subst this
    exact run_convert_bytes_nil (P := PG) w ty_sl_uint8 ty_uint8 (by kernel_rfl) (by kernel_rfl) _ _ ty_string (by kernel_rfl)
  | some a =>
    have hn := h.n
    have hl : (loadCells a bs.length).run PG w = .ok ((bs.map fun b => Value.int .u8 b.toNat)).toArray w := by
      have := run_loadCells_list (P := PG) w a (bs.map fun b => Value.int .u8 b.toNat) (fun j v hj => by
        rw [List.getElem?_map] at hj
        cases hb : bs[j]? with
        | none => rw [hb] at hj; cases hj
        | some b =>
          rw [hb] at hj
          cases hj
          have := h.at_ j b hb 0 (.int .u8 b.toNat) rfl
          simp only [Slc.at_, ha, Option.getD_some, add_zero] at this
          rwa [show j * E_uint8.k = j from Nat.mul_one j] at this)
      simpa using this
    have hb := run_bytesToString w a s.n s.c (bs.map fun b => (b.toNat : Int)) (by rw [hn, hl]; simp)
    rw [run_convert_bytes_string w ty_sl_uint8 ty_string ty_uint8 _ s.n s.c (by kernel_rfl) (by kernel_rfl) (by kernel_rfl), hb, foldl_push_bytes]
    have e : (bs.map fun b => (b.toNat : Int)).map (fun n => UInt8.ofNat n.toNat) = bs := by
      rw [List.map_map]
      conv => rhs; rw [← List.map_id bs]
      refine List.map_congr_left fun b _ => ?_
      simp
    rw [e]
    simp [strB, ByteArray.empty, ByteArray.emptyWithCapacity]
    rfl
section
variable {w : World}
theorem toStr_spec {s : Slc} {bs : List UInt8} (h : Rd E_uint8 w s bs) {K : ByteArray → World → Prop} (hK : K (strB bs) w) : runK1 PG (convert ty_sl_uint8 ty_string (.slice s.a s.n s.c)) Kind.string w K := ⟨_, w, run_bytes_strB h, hK⟩
theorem toBytes_spec {bs : List UInt8} (hl : bs.length ≤ 1000000000) {K : Slc → World → Prop} (hK : ∀ q w', Rd E_uint8 w' q bs → (∀ k, q.blk = some k → w.heap.size ≤ k) → Below w.heap.size w w' → q.a.isSome = true → K q w') :
    runK1 PG (convert ty_string ty_sl_uint8 (.string (strB bs))) Kind.slice w K := by
  have hr := Lib.run_convert_string_bytes (P := PG) w ty_string ty_sl_uint8 ty_uint8 (strB bs) (u := .string) (by kernel_rfl) (by kernel_rfl) (by kernel_rfl)
  have hsz := strB_size bs
  refine ⟨⟨some ⟨w.heap.size, 0, none⟩, (strB bs).size, grownCap w (strB bs).size 0 ty_uint8⟩, _, hr, hK _ _ ⟨hsz, grownCap_ge w _ 0 ty_uint8, grownCap_le_maxLen w _ 0 ty_uint8 (by rw [hsz]; unfold maxLen; omega), fun _ => rfl, fun i x hx => ?_⟩ (fun k hk => by cases hk; exact Nat.le_refl _) ⟨rfl, rfl, rfl, by rw [Lib.bytesWorld_size]; omega, fun k hk => Lib.bytesWorld_at_old w _ _ k hk⟩ rfl⟩
  have hi : i < bs.length := (List.getElem?_eq_some_iff.1 hx).1
  intro j v hv
  match j, hv with
  | 0, hv =>
    cases hv
    have := Lib.bytesWorld_cell w ty_uint8 (strB bs) i (by rw [hsz]; exact hi)
    rw [strB_data] at this
    have e : bs.getD i 0 = x := by rw [List.getD_eq_getElem?_getD, hx]; rfl
    rw [e] at this
    show World.cell? _ (((⟨w.heap.size, 0, none⟩ : Addr).add (i * 1)).add 0) = _
    rw [add_zero, Nat.mul_one, add_mk, Nat.zero_add]
    exact this
theorem ixS_of {bs : List UInt8} {i : Int} {k : Nat} {b : UInt8} {K : Int → Prop} (hi : i = k) (hb : bs[k]? = some b) (hK : K b.toNat) : ixS (strB bs) i K := by
  subst hi
  have hk : k < bs.length := (List.getElem?_eq_some_iff.1 hb).1
  refine ⟨⟨by omega, by rw [strB_size]; omega⟩, ?_⟩
  have e : (strB bs).data.getD ((k : Int)).toNat 0 = b := by
    show bs.toArray.getD _ _ = _
    rw [Int.toNat_natCast, Array.getD_eq_getD_getElem?, List.getElem?_toArray, hb]
    rfl
  rw [e]
  exact hK
theorem extract_strB (bs : List UInt8) (l h : Nat) : (strB bs).extract l h = strB ((bs.take h).drop l) := by
  have : ((strB bs).extract l h).data = (strB ((bs.take h).drop l)).data := by
    rw [ByteArray.data_extract]
    apply Array.ext'
    simp [strB, List.drop_take]
  calc (strB bs).extract l h = ⟨((strB bs).extract l h).data⟩ := rfl
    _ = _ := by rw [this]
theorem slS_of {bs : List UInt8} {lo hi : Option Int} {l h : Nat} {K : ByteArray → Prop} (hlo : lo = none ∧ l = 0 ∨ lo = some (l : Int)) (hhi : hi = none ∧ h = bs.length ∨ hi = some (h : Int)) (h1 : l ≤ h) (h2 : h ≤ bs.length)
    (hK : K (strB ((bs.take h).drop l))) : slS (strB bs) lo hi K := by
  have key : K ((strB bs).extract l h) := by rw [extract_strB]; exact hK
  have inner : bnd lo h 0 fun l' => K ((strB bs).extract l' h) := by
    rcases hlo with ⟨rfl, rfl⟩ | rfl
    · exact bnd_none key
    · exact bnd_some (by omega) (by omega) (by simpa using key)
  unfold slS
  rcases hhi with ⟨rfl, rfl⟩ | rfl
  · refine bnd_none ?_
    rw [strB_size]
    exact inner
  · exact bnd_some (by omega) (by rw [strB_size]; omega) (by simpa using inner)
/-- The library's table of powers of ten lies as its text lays it. -/
def Tab (w : World) : Prop := Lib.TabIs PG w "internal/strconv.uint64pow10" .u64 Lib.pow10Tab
theorem tab_lt {g : Nat} {cs : Array Value} {n : String} (hg : PG.globalNamed n = some g) (h : w.var? PG n = some cs) : g < w.heap.size := by
  unfold World.var? at h
  rw [hg] at h
  dsimp only [Option.bind_some] at h
  rcases Nat.lt_or_ge g w.heap.size with hlt | hge
  · exact hlt
  · rw [Array.getElem?_eq_none hge] at h; cases h
theorem Tab.ext {w' : World} (h : Tab w) (hb : Below w.heap.size w w') : Tab w' :=
  var?_below (g := 1) hb (by kernel_rfl) (tab_lt (by kernel_rfl) h) h
theorem itoa_len {n : Int} (h0 : -9223372036854775808 ≤ n) (h1 : n ≤ 9223372036854775807) : (Lib.itoa n).length ≤ 20 := by
  have hd : ∀ (m u : Nat), 1 ≤ m → u < 10 ^ m → (Lib.decDigits u).length ≤ m := by
    intro m
    induction m with
    | zero => intro u h; omega
    | succ m ih =>
      intro u _ h
      rw [Lib.decDigits]
      split
      · simp
      · rename_i h10
        have : m ≠ 0 := fun e => by subst e; simp at h; omega
        have := ih (u / 10) (by omega) (by rw [Nat.pow_succ] at h; omega)
        rw [List.length_append, List.length_singleton]
        omega
  unfold Lib.itoa
  split
  · rw [List.length_cons]
    have := hd 19 n.natAbs (by omega) (by omega)
    omega
  · have := hd 19 n.toNat (by omega) (by omega)
    omega
theorem Itoa_spec (hT : Tab w) {n : Int} (h0 : -9223372036854775808 ≤ n) (h1 : n ≤ 9223372036854775807) {K : ByteArray → World → Prop} (hK : ∀ w', Below w.heap.size w w' → K (strB (Lib.itoa n)) w') : c_strconv_Itoa n w K := by
  refine Calls.mono (Tryd.strconv_Itoa n h0 h1 w hT) ?_
  rintro e w' ⟨rfl, k, os, rfl⟩
  refine ⟨_, rfl, hK _ ⟨rfl, rfl, rfl, by show _ ≤ ((w.drewN k).heap ++ os).size; simp [World.drewN], fun j hj => ?_⟩⟩
  show ((w.drewN k).heap ++ os)[j]? = _
  rw [Array.getElem?_append_left (by simpa [World.drewN] using hj)]
  rfl
theorem IndexByte_spec {bs : List UInt8} {c : UInt8} {i : Int} (hi : i = c.toNat) {K : Int → World → Prop} (hK : K (Lib.indexByte bs c) w) : c_strings_IndexByte (strB bs) i w K := by
  subst hi
  refine Calls.mono (Tryd.strings_IndexByte (strB bs) c.toNat w) ?_
  rintro e w' ⟨rfl, rfl⟩
  refine ⟨_, rfl, ?_⟩
  rw [strB_data, show ((c.toNat : Int)).toNat.toUInt8 = c by simp]
  exact hK
end
end Go.Proofs.YtpadlibcalomnaaDoor
