/- By program (gen.py): the typed text of the program's functions, for Vc. Types of structs; what a call of each function comes to. -/
import Derived.Test.YtpadlibcalomnaaVc
import Derived.Test.YtpadlibcalomnaaChecked
import Derived.KernelRfl
set_option maxRecDepth 100000
set_option linter.unusedVariables false
namespace Go.Proofs.Ytpadlibcalomnaa
open Go.Vc

structure T_phosphorlaw15_Act where
  Op : Int
  Col : Int
  N : Int

def T_phosphorlaw15_Act.rep : Rep where
  T := T_phosphorlaw15_Act
  cells x := [(.int .i64 x.Op), (.int .i64 x.Col), (.int .i64 x.N)]
  get l := match l with
    | [.int .i64 v1, .int .i64 v2, .int .i64 v3] => some ⟨v1, v2, v3⟩
    | _ => none
  ok l c h := by
    split at h
    · injection h with h; subst h; rfl
    · cases h

structure T_tabs_Stops where
  cols : Int
  l : Option Nat

def T_tabs_Stops.rep : Rep where
  T := T_tabs_Stops
  cells x := [(.int .i64 x.cols), (.map x.l)]
  get l := match l with
    | [.int .i64 v1, .map v2] => some ⟨v1, v2⟩
    | _ => none
  ok l c h := by
    split at h
    · injection h with h; subst h; rfl
    · cases h

structure T_phosphorref15_Stops where
  L : Slc

def T_phosphorref15_Stops.rep : Rep where
  T := T_phosphorref15_Stops
  cells x := [(.slice x.L.a x.L.n x.L.c)]
  get l := match l with
    | [.slice v1a v1n v1c] => some ⟨⟨v1a, v1n, v1c⟩⟩
    | _ => none
  ok l c h := by
    split at h
    · injection h with h; subst h; rfl
    · cases h

noncomputable abbrev PG : Program := Try.prog

abbrev ty_unit : TypeId := 0
abbrev ty_int : TypeId := 3
abbrev ty_bool : TypeId := 4
abbrev ty_sl_int : TypeId := 22
abbrev ty_phosphorlaw15_Act : TypeId := 36
abbrev ty_map_int_bool : TypeId := 42
abbrev ty_tabs_Stops : TypeId := 44
abbrev ty_sl_bool : TypeId := 48
abbrev ty_phosphorref15_Stops : TypeId := 50
abbrev fn_slices_Backward_int_int_1 : Nat := 27
abbrev fn_maps_Keys_map_int_bool_int_bool_1 : Nat := 30

def reg (t : TypeId) : Option Rep := match t with
  | 36 => some T_phosphorlaw15_Act.rep
  | 44 => some T_tabs_Stops.rep
  | 50 => some T_phosphorref15_Stops.rep
  | _ => none

def plainL : List Nat := [2, 3, 4, 5, 6, 7, 8, 9, 10, 11, 12, 13, 14, 15, 16, 17, 18, 19, 20, 21, 22, 23, 24, 25, 26, 27, 28, 29, 30, 31, 32, 33, 34, 35, 36, 37, 38, 39, 40, 41, 42, 43, 44, 45, 46, 47, 48, 49, 50, 51]

noncomputable def C : Cx := { P := Try.prog, reg := reg, plain := fun n => plainL.elem n }

theorem C.plain_ok (g : Nat) (h : C.plain g = true) : plainFn C.P g = true := by
  have h' : g ∈ plainL := by simpa [C] using h
  have : plainL.all (fun g => plainFn Try.prog g) = true := by kernel_rfl
  exact List.all_eq_true.1 this g h'

theorem C.mixed : C.P.follows .mixedOrders = true := by kernel_rfl

/-- phosphor/phosphorlaw15.TabsSteps -/
def c_phosphorlaw15_TabsSteps (cols : Int) (set : Slc) (col : Int) (n : Int) (w : World) (K : Bool → World → Prop) : Prop :=
  Calls PG 3 #[(.int .i64 cols), (.slice set.a set.n set.c), (.int .i64 col), (.int .i64 n)] w fun e w' => ∃ r0 : Bool, e = .returned (.bool r0) ∧ K r0 w'

/-- phosphor/phosphorlaw15.TabsPlays -/
def c_phosphorlaw15_TabsPlays (cols : Int) (l : Slc) (w : World) (K : Bool → World → Prop) : Prop :=
  Calls PG 4 #[(.int .i64 cols), (.slice l.a l.n l.c)] w fun e w' => ∃ r0 : Bool, e = .returned (.bool r0) ∧ K r0 w'

/-- phosphor/phosphorlaw15.known -/
def c_phosphorlaw15_known  (w : World) (K : Bool → World → Prop) : Prop :=
  Calls PG 5 #[] w fun e w' => ∃ r0 : Bool, e = .returned (.bool r0) ∧ K r0 w'

/-- phosphor/tabs.New -/
def c_tabs_New (cols : Int) (w : World) (K : Option Addr → Int → World → Prop) : Prop :=
  Calls PG 6 #[(.int .i64 cols)] w fun e w' => ∃ r0 : Option Addr, ∃ r1 : Int, e = .returned (.tuple #[(.pointer r0), (.int .i64 r1)]) ∧ K r0 r1 w'

/-- (*phosphor/tabs.Stops).Set -/
def c_tabs_Stops_Set (s : Option Addr) (col : Int) (w : World) (K : Bool → World → Prop) : Prop :=
  Calls PG 7 #[(.pointer s), (.int .i64 col)] w fun e w' => ∃ r0 : Bool, e = .returned (.bool r0) ∧ K r0 w'

/-- (*phosphor/tabs.Stops).Next -/
def c_tabs_Stops_Next (s : Option Addr) (col : Int) (n : Int) (w : World) (K : Int → World → Prop) : Prop :=
  Calls PG 8 #[(.pointer s), (.int .i64 col), (.int .i64 n)] w fun e w' => ∃ r0 : Int, e = .returned (.int .i64 r0) ∧ K r0 w'

/-- (*phosphor/tabs.Stops).Back -/
def c_tabs_Stops_Back (s : Option Addr) (col : Int) (n : Int) (w : World) (K : Int → World → Prop) : Prop :=
  Calls PG 9 #[(.pointer s), (.int .i64 col), (.int .i64 n)] w fun e w' => ∃ r0 : Int, e = .returned (.int .i64 r0) ∧ K r0 w'

/-- phosphor/phosphorref15.New -/
def c_phosphorref15_New (cols : Int) (w : World) (K : Option Addr → Int → World → Prop) : Prop :=
  Calls PG 10 #[(.int .i64 cols)] w fun e w' => ∃ r0 : Option Addr, ∃ r1 : Int, e = .returned (.tuple #[(.pointer r0), (.int .i64 r1)]) ∧ K r0 r1 w'

/-- (*phosphor/phosphorref15.Stops).Put -/
def c_phosphorref15_Stops_Put (s : Option Addr) (col : Int) (is : Bool) (w : World) (K : Bool → World → Prop) : Prop :=
  Calls PG 11 #[(.pointer s), (.int .i64 col), (.bool is)] w fun e w' => ∃ r0 : Bool, e = .returned (.bool r0) ∧ K r0 w'

/-- (*phosphor/tabs.Stops).Clear -/
def c_tabs_Stops_Clear (s : Option Addr) (col : Int) (w : World) (K : Bool → World → Prop) : Prop :=
  Calls PG 12 #[(.pointer s), (.int .i64 col)] w fun e w' => ∃ r0 : Bool, e = .returned (.bool r0) ∧ K r0 w'

/-- (*phosphor/tabs.Stops).None -/
def c_tabs_Stops_None (s : Option Addr) (w : World) (K : World → Prop) : Prop :=
  Calls PG 13 #[(.pointer s)] w fun e w' => e = .returned (.tuple #[]) ∧ K w'

/-- (*phosphor/phosphorref15.Stops).None -/
def c_phosphorref15_Stops_None (s : Option Addr) (w : World) (K : World → Prop) : Prop :=
  Calls PG 14 #[(.pointer s)] w fun e w' => e = .returned (.tuple #[]) ∧ K w'

/-- (*phosphor/tabs.Stops).Resize -/
def c_tabs_Stops_Resize (s : Option Addr) (cols : Int) (w : World) (K : Int → World → Prop) : Prop :=
  Calls PG 15 #[(.pointer s), (.int .i64 cols)] w fun e w' => ∃ r0 : Int, e = .returned (.int .i64 r0) ∧ K r0 w'

/-- (*phosphor/phosphorref15.Stops).Resize -/
def c_phosphorref15_Stops_Resize (s : Option Addr) (cols : Int) (w : World) (K : Int → World → Prop) : Prop :=
  Calls PG 16 #[(.pointer s), (.int .i64 cols)] w fun e w' => ∃ r0 : Int, e = .returned (.int .i64 r0) ∧ K r0 w'

/-- (*phosphor/tabs.Stops).All -/
def c_tabs_Stops_All (s : Option Addr) (w : World) (K : Slc → World → Prop) : Prop :=
  Calls PG 17 #[(.pointer s)] w fun e w' => ∃ r0 : Slc, e = .returned (.slice r0.a r0.n r0.c) ∧ K r0 w'

/-- (*phosphor/phosphorref15.Stops).All -/
def c_phosphorref15_Stops_All (s : Option Addr) (w : World) (K : Slc → World → Prop) : Prop :=
  Calls PG 18 #[(.pointer s)] w fun e w' => ∃ r0 : Slc, e = .returned (.slice r0.a r0.n r0.c) ∧ K r0 w'

/-- (*phosphor/phosphorref15.Stops).Next -/
def c_phosphorref15_Stops_Next (s : Option Addr) (col : Int) (n : Int) (w : World) (K : Int → World → Prop) : Prop :=
  Calls PG 19 #[(.pointer s), (.int .i64 col), (.int .i64 n)] w fun e w' => ∃ r0 : Int, e = .returned (.int .i64 r0) ∧ K r0 w'

/-- (*phosphor/phosphorref15.Stops).Back -/
def c_phosphorref15_Stops_Back (s : Option Addr) (col : Int) (n : Int) (w : World) (K : Int → World → Prop) : Prop :=
  Calls PG 20 #[(.pointer s), (.int .i64 col), (.int .i64 n)] w fun e w' => ∃ r0 : Int, e = .returned (.int .i64 r0) ∧ K r0 w'

/-- (*phosphor/tabs.Stops).is -/
def c_tabs_Stops_is (s : Option Addr) (col : Int) (w : World) (K : Bool → World → Prop) : Prop :=
  Calls PG 21 #[(.pointer s), (.int .i64 col)] w fun e w' => ∃ r0 : Bool, e = .returned (.bool r0) ∧ K r0 w'

/-- (*phosphor/tabs.Stops).near -/
def c_tabs_Stops_near (s : Option Addr) (col : Int) (w : World) (K : Int → World → Prop) : Prop :=
  Calls PG 22 #[(.pointer s), (.int .i64 col)] w fun e w' => ∃ r0 : Int, e = .returned (.int .i64 r0) ∧ K r0 w'

/-- slices.Backward[[]int,int] -/
def c_slices_Backward_int_int (s : Slc) (w : World) (K : Value → World → Prop) : Prop :=
  Calls PG 23 #[(.slice s.a s.n s.c)] w fun e w' => ∃ r0 : Value, e = .returned r0 ∧ K r0 w'

/-- slices.Sorted[int] -/
def c_slices_Sorted_int (seq : Value) (w : World) (K : Slc → World → Prop) : Prop :=
  Calls PG 24 #[seq] w fun e w' => ∃ r0 : Slc, e = .returned (.slice r0.a r0.n r0.c) ∧ K r0 w'

/-- maps.Keys[map[int]bool,int,bool] -/
def c_maps_Keys_map_int_bool_int_bool (m : Option Nat) (w : World) (K : Value → World → Prop) : Prop :=
  Calls PG 25 #[(.map m)] w fun e w' => ∃ r0 : Value, e = .returned r0 ∧ K r0 w'

/-- (*phosphor/phosphorref15.Stops).near -/
def c_phosphorref15_Stops_near (s : Option Addr) (col : Int) (w : World) (K : Int → World → Prop) : Prop :=
  Calls PG 26 #[(.pointer s), (.int .i64 col)] w fun e w' => ∃ r0 : Int, e = .returned (.int .i64 r0) ∧ K r0 w'

/-- slices.Backward[[]int,int]$1 -/
def c_slices_Backward_int_int_1 (yield : Value) (c0 : Addr) (w : World) (K : World → Prop) : Prop :=
  Calls PG 27 #[yield, (.pointer (some c0))] w fun e w' => e = .returned (.tuple #[]) ∧ K w'

/-- slices.Collect[int] -/
def c_slices_Collect_int (seq : Value) (w : World) (K : Slc → World → Prop) : Prop :=
  Calls PG 28 #[seq] w fun e w' => ∃ r0 : Slc, e = .returned (.slice r0.a r0.n r0.c) ∧ K r0 w'

/-- slices.Sort[[]int,int] -/
def c_slices_Sort_int_int (x : Slc) (w : World) (K : World → Prop) : Prop :=
  Calls PG 29 #[(.slice x.a x.n x.c)] w fun e w' => e = .returned (.tuple #[]) ∧ K w'

/-- maps.Keys[map[int]bool,int,bool]$1 -/
def c_maps_Keys_map_int_bool_int_bool_1 (yield : Value) (c0 : Addr) (w : World) (K : World → Prop) : Prop :=
  Calls PG 30 #[yield, (.pointer (some c0))] w fun e w' => e = .returned (.tuple #[]) ∧ K w'

/-- slices.AppendSeq[[]int,int] -/
def c_slices_AppendSeq_int_int (s : Slc) (seq : Value) (w : World) (K : Slc → World → Prop) : Prop :=
  Calls PG 31 #[(.slice s.a s.n s.c), seq] w fun e w' => ∃ r0 : Slc, e = .returned (.slice r0.a r0.n r0.c) ∧ K r0 w'

/-- slices.pdqsortOrdered[int] -/
def c_slices_pdqsortOrdered_int (data : Slc) (a : Int) (b : Int) (limit : Int) (w : World) (K : World → Prop) : Prop :=
  Calls PG 32 #[(.slice data.a data.n data.c), (.int .i64 a), (.int .i64 b), (.int .i64 limit)] w fun e w' => e = .returned (.tuple #[]) ∧ K w'

/-- math/bits.Len -/
def c_math_bits_Len (x : Int) (w : World) (K : Int → World → Prop) : Prop :=
  Calls PG 33 #[(.int .u64 x)] w fun e w' => ∃ r0 : Int, e = .returned (.int .i64 r0) ∧ K r0 w'

/-- slices.insertionSortOrdered[int] -/
def c_slices_insertionSortOrdered_int (data : Slc) (a : Int) (b : Int) (w : World) (K : World → Prop) : Prop :=
  Calls PG 34 #[(.slice data.a data.n data.c), (.int .i64 a), (.int .i64 b)] w fun e w' => e = .returned (.tuple #[]) ∧ K w'

/-- slices.reverseRangeOrdered[int] -/
def c_slices_reverseRangeOrdered_int (data : Slc) (a : Int) (b : Int) (w : World) (K : World → Prop) : Prop :=
  Calls PG 38 #[(.slice data.a data.n data.c), (.int .i64 a), (.int .i64 b)] w fun e w' => e = .returned (.tuple #[]) ∧ K w'

/-- cmp.Less[int] -/
def c_cmp_Less_int (x : Int) (y : Int) (w : World) (K : Bool → World → Prop) : Prop :=
  Calls PG 40 #[(.int .i64 x), (.int .i64 y)] w fun e w' => ∃ r0 : Bool, e = .returned (.bool r0) ∧ K r0 w'

/-- math/bits.Len32 -/
def c_math_bits_Len32 (x : Int) (w : World) (K : Int → World → Prop) : Prop :=
  Calls PG 43 #[(.int .u32 x)] w fun e w' => ∃ r0 : Int, e = .returned (.int .i64 r0) ∧ K r0 w'

/-- math/bits.Len64 -/
def c_math_bits_Len64 (x : Int) (w : World) (K : Int → World → Prop) : Prop :=
  Calls PG 44 #[(.int .u64 x)] w fun e w' => ∃ r0 : Int, e = .returned (.int .i64 r0) ∧ K r0 w'

/-- slices.siftDownOrdered[int] -/
def c_slices_siftDownOrdered_int (data : Slc) (lo : Int) (hi : Int) (first : Int) (w : World) (K : World → Prop) : Prop :=
  Calls PG 45 #[(.slice data.a data.n data.c), (.int .i64 lo), (.int .i64 hi), (.int .i64 first)] w fun e w' => e = .returned (.tuple #[]) ∧ K w'

/-- slices.nextPowerOfTwo -/
def c_slices_nextPowerOfTwo (length : Int) (w : World) (K : Int → World → Prop) : Prop :=
  Calls PG 46 #[(.int .i64 length)] w fun e w' => ∃ r0 : Int, e = .returned (.int .u64 r0) ∧ K r0 w'

/-- (*slices.xorshift).Next -/
def c_slices_xorshift_Next (r : Option Addr) (w : World) (K : Int → World → Prop) : Prop :=
  Calls PG 47 #[(.pointer r)] w fun e w' => ∃ r0 : Int, e = .returned (.int .u64 r0) ∧ K r0 w'

/-- slices.medianAdjacentOrdered[int] -/
def c_slices_medianAdjacentOrdered_int (data : Slc) (a : Int) (swaps : Option Addr) (w : World) (K : Int → World → Prop) : Prop :=
  Calls PG 48 #[(.slice data.a data.n data.c), (.int .i64 a), (.pointer swaps)] w fun e w' => ∃ r0 : Int, e = .returned (.int .i64 r0) ∧ K r0 w'

/-- slices.medianOrdered[int] -/
def c_slices_medianOrdered_int (data : Slc) (a : Int) (b : Int) (c : Int) (swaps : Option Addr) (w : World) (K : Int → World → Prop) : Prop :=
  Calls PG 49 #[(.slice data.a data.n data.c), (.int .i64 a), (.int .i64 b), (.int .i64 c), (.pointer swaps)] w fun e w' => ∃ r0 : Int, e = .returned (.int .i64 r0) ∧ K r0 w'

/-- cmp.isNaN[int] -/
def c_cmp_isNaN_int (x : Int) (w : World) (K : Bool → World → Prop) : Prop :=
  Calls PG 50 #[(.int .i64 x)] w fun e w' => ∃ r0 : Bool, e = .returned (.bool r0) ∧ K r0 w'

/-- slices.order2Ordered[int] -/
def c_slices_order2Ordered_int (data : Slc) (a : Int) (b : Int) (swaps : Option Addr) (w : World) (K : Int → Int → World → Prop) : Prop :=
  Calls PG 51 #[(.slice data.a data.n data.c), (.int .i64 a), (.int .i64 b), (.pointer swaps)] w fun e w' => ∃ r0 : Int, ∃ r1 : Int, e = .returned (.tuple #[(.int .i64 r0), (.int .i64 r1)]) ∧ K r0 r1 w'

end Go.Proofs.Ytpadlibcalomnaa
