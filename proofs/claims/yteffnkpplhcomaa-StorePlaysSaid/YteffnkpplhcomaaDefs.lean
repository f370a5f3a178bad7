/- By program (gen.py): the typed text of the program's functions, for Vc. Types of structs; what a call of each function comes to. -/
import Derived.Test.YteffnkpplhcomaaVc
import Derived.Test.YteffnkpplhcomaaChecked
import Derived.KernelRfl
set_option maxRecDepth 100000
set_option linter.unusedVariables false
namespace Go.Proofs.Yteffnkpplhcomaa
open Go.Vc

structure T_api_Matrix where
  W : Int
  H : Int
  P : Slc

def T_api_Matrix.rep : Rep where
  T := T_api_Matrix
  cells x := [(.int .i64 x.W), (.int .i64 x.H), (.slice x.P.a x.P.n x.P.c)]
  get l := match l with
    | [.int .i64 v1, .int .i64 v2, .slice v3a v3n v3c] => some ⟨v1, v2, ⟨v3a, v3n, v3c⟩⟩
    | _ => none
  ok l c h := by
    split at h
    · injection h with h; subst h; rfl
    · cases h

structure T_phosphorlaw21_Act where
  Op : Int
  Id : Int
  Number : Int
  M : T_api_Matrix
  N : Int

def T_phosphorlaw21_Act.rep : Rep where
  T := T_phosphorlaw21_Act
  cells x := [(.int .i64 x.Op), (.int .i64 x.Id), (.int .i64 x.Number), (.int .i64 x.M.W), (.int .i64 x.M.H), (.slice x.M.P.a x.M.P.n x.M.P.c), (.int .i64 x.N)]
  get l := match l with
    | [.int .i64 v1, .int .i64 v2, .int .i64 v3, .int .i64 v4, .int .i64 v5, .slice v6a v6n v6c, .int .i64 v7] => some ⟨v1, v2, v3, ⟨v4, v5, ⟨v6a, v6n, v6c⟩⟩, v7⟩
    | _ => none
  ok l c h := by
    split at h
    · injection h with h; subst h; rfl
    · cases h

structure T_phosphorref7_Matrix where
  W : Int
  H : Int
  P : Slc

def T_phosphorref7_Matrix.rep : Rep where
  T := T_phosphorref7_Matrix
  cells x := [(.int .i64 x.W), (.int .i64 x.H), (.slice x.P.a x.P.n x.P.c)]
  get l := match l with
    | [.int .i64 v1, .int .i64 v2, .slice v3a v3n v3c] => some ⟨v1, v2, ⟨v3a, v3n, v3c⟩⟩
    | _ => none
  ok l c h := by
    split at h
    · injection h with h; subst h; rfl
    · cases h

structure T_store_Store where
  quota : Int
  reserved : Int
  used : Int
  clock : Int
  l : Option Nat

def T_store_Store.rep : Rep where
  T := T_store_Store
  cells x := [(.int .i64 x.quota), (.int .i64 x.reserved), (.int .i64 x.used), (.int .i64 x.clock), (.map x.l)]
  get l := match l with
    | [.int .i64 v1, .int .i64 v2, .int .i64 v3, .int .i64 v4, .map v5] => some ⟨v1, v2, v3, v4, v5⟩
    | _ => none
  ok l c h := by
    split at h
    · injection h with h; subst h; rfl
    · cases h

structure T_store_image where
  number : Int
  m : T_api_Matrix
  stamp : Int
  born : Int

def T_store_image.rep : Rep where
  T := T_store_image
  cells x := [(.int .i64 x.number), (.int .i64 x.m.W), (.int .i64 x.m.H), (.slice x.m.P.a x.m.P.n x.m.P.c), (.int .i64 x.stamp), (.int .i64 x.born)]
  get l := match l with
    | [.int .i64 v1, .int .i64 v2, .int .i64 v3, .slice v4a v4n v4c, .int .i64 v5, .int .i64 v6] => some ⟨v1, ⟨v2, v3, ⟨v4a, v4n, v4c⟩⟩, v5, v6⟩
    | _ => none
  ok l c h := by
    split at h
    · injection h with h; subst h; rfl
    · cases h

structure T_phosphorref1_Writer where
  L : Slc

def T_phosphorref1_Writer.rep : Rep where
  T := T_phosphorref1_Writer
  cells x := [(.slice x.L.a x.L.n x.L.c)]
  get l := match l with
    | [.slice v1a v1n v1c] => some ⟨⟨v1a, v1n, v1c⟩⟩
    | _ => none
  ok l c h := by
    split at h
    · injection h with h; subst h; rfl
    · cases h

structure T_phosphorref21_Store where
  Quota : Int
  Res : Int
  Clock : Int
  L : Slc

def T_phosphorref21_Store.rep : Rep where
  T := T_phosphorref21_Store
  cells x := [(.int .i64 x.Quota), (.int .i64 x.Res), (.int .i64 x.Clock), (.slice x.L.a x.L.n x.L.c)]
  get l := match l with
    | [.int .i64 v1, .int .i64 v2, .int .i64 v3, .slice v4a v4n v4c] => some ⟨v1, v2, v3, ⟨v4a, v4n, v4c⟩⟩
    | _ => none
  ok l c h := by
    split at h
    · injection h with h; subst h; rfl
    · cases h

structure T_phosphorref21_Image where
  Id : Int
  Number : Int
  M : T_phosphorref7_Matrix
  Stamp : Int
  Born : Int

def T_phosphorref21_Image.rep : Rep where
  T := T_phosphorref21_Image
  cells x := [(.int .i64 x.Id), (.int .i64 x.Number), (.int .i64 x.M.W), (.int .i64 x.M.H), (.slice x.M.P.a x.M.P.n x.M.P.c), (.int .i64 x.Stamp), (.int .i64 x.Born)]
  get l := match l with
    | [.int .i64 v1, .int .i64 v2, .int .i64 v3, .int .i64 v4, .slice v5a v5n v5c, .int .i64 v6, .int .i64 v7] => some ⟨v1, v2, ⟨v3, v4, ⟨v5a, v5n, v5c⟩⟩, v6, v7⟩
    | _ => none
  ok l c h := by
    split at h
    · injection h with h; subst h; rfl
    · cases h

structure T_zlib_Decoder where
  Decoder : Option Addr
  head : Slc
  tail : Slc
  sum : Value
  over : Int
  failed : Int

def T_zlib_Decoder.rep : Rep where
  T := T_zlib_Decoder
  cells x := [(.pointer x.Decoder), (.slice x.head.a x.head.n x.head.c), (.slice x.tail.a x.tail.n x.tail.c), x.sum, (.int .i64 x.over), (.int .i64 x.failed)]
  get l := match l with
    | [.pointer v1, .slice v2a v2n v2c, .slice v3a v3n v3c, v4, .int .i64 v5, .int .i64 v6] => some ⟨v1, ⟨v2a, v2n, v2c⟩, ⟨v3a, v3n, v3c⟩, v4, v5, v6⟩
    | _ => none
  ok l c h := by
    split at h
    · injection h with h; subst h; rfl
    · cases h

structure T_16_int where
  e0 : Int
  e1 : Int
  e2 : Int
  e3 : Int
  e4 : Int
  e5 : Int
  e6 : Int
  e7 : Int
  e8 : Int
  e9 : Int
  e10 : Int
  e11 : Int
  e12 : Int
  e13 : Int
  e14 : Int
  e15 : Int

def T_16_int.rep : Rep where
  T := T_16_int
  cells x := [(.int .i64 x.e0), (.int .i64 x.e1), (.int .i64 x.e2), (.int .i64 x.e3), (.int .i64 x.e4), (.int .i64 x.e5), (.int .i64 x.e6), (.int .i64 x.e7), (.int .i64 x.e8), (.int .i64 x.e9), (.int .i64 x.e10), (.int .i64 x.e11), (.int .i64 x.e12), (.int .i64 x.e13), (.int .i64 x.e14), (.int .i64 x.e15)]
  get l := match l with
    | [.int .i64 v1, .int .i64 v2, .int .i64 v3, .int .i64 v4, .int .i64 v5, .int .i64 v6, .int .i64 v7, .int .i64 v8, .int .i64 v9, .int .i64 v10, .int .i64 v11, .int .i64 v12, .int .i64 v13, .int .i64 v14, .int .i64 v15, .int .i64 v16] => some ⟨v1, v2, v3, v4, v5, v6, v7, v8, v9, v10, v11, v12, v13, v14, v15, v16⟩
    | _ => none
  ok l c h := by
    split at h
    · injection h with h; subst h; rfl
    · cases h

structure T_huff_Table where
  count : T_16_int
  sorted : Slc
  codes : Slc
  lengths : Slc
  last : Int

def T_huff_Table.rep : Rep where
  T := T_huff_Table
  cells x := [(.int .i64 x.count.e0), (.int .i64 x.count.e1), (.int .i64 x.count.e2), (.int .i64 x.count.e3), (.int .i64 x.count.e4), (.int .i64 x.count.e5), (.int .i64 x.count.e6), (.int .i64 x.count.e7), (.int .i64 x.count.e8), (.int .i64 x.count.e9), (.int .i64 x.count.e10), (.int .i64 x.count.e11), (.int .i64 x.count.e12), (.int .i64 x.count.e13), (.int .i64 x.count.e14), (.int .i64 x.count.e15), (.slice x.sorted.a x.sorted.n x.sorted.c), (.slice x.codes.a x.codes.n x.codes.c), (.slice x.lengths.a x.lengths.n x.lengths.c), (.int .i64 x.last)]
  get l := match l with
    | [.int .i64 v1, .int .i64 v2, .int .i64 v3, .int .i64 v4, .int .i64 v5, .int .i64 v6, .int .i64 v7, .int .i64 v8, .int .i64 v9, .int .i64 v10, .int .i64 v11, .int .i64 v12, .int .i64 v13, .int .i64 v14, .int .i64 v15, .int .i64 v16, .slice v17a v17n v17c, .slice v18a v18n v18c, .slice v19a v19n v19c, .int .i64 v20] => some ⟨⟨v1, v2, v3, v4, v5, v6, v7, v8, v9, v10, v11, v12, v13, v14, v15, v16⟩, ⟨v17a, v17n, v17c⟩, ⟨v18a, v18n, v18c⟩, ⟨v19a, v19n, v19c⟩, v20⟩
    | _ => none
  ok l c h := by
    split at h
    · injection h with h; subst h; rfl
    · cases h

structure T_bits_Writer where
  b : Slc
  held : Int
  n : Int

def T_bits_Writer.rep : Rep where
  T := T_bits_Writer
  cells x := [(.slice x.b.a x.b.n x.b.c), (.int .u64 x.held), (.int .i64 x.n)]
  get l := match l with
    | [.slice v1a v1n v1c, .int .u64 v2, .int .i64 v3] => some ⟨⟨v1a, v1n, v1c⟩, v2, v3⟩
    | _ => none
  ok l c h := by
    split at h
    · injection h with h; subst h; rfl
    · cases h

structure T_phosphorref4_Table where
  L : Slc
  C : Slc

def T_phosphorref4_Table.rep : Rep where
  T := T_phosphorref4_Table
  cells x := [(.slice x.L.a x.L.n x.L.c), (.slice x.C.a x.C.n x.C.c)]
  get l := match l with
    | [.slice v1a v1n v1c, .slice v2a v2n v2c] => some ⟨⟨v1a, v1n, v1c⟩, ⟨v2a, v2n, v2c⟩⟩
    | _ => none
  ok l c h := by
    split at h
    · injection h with h; subst h; rfl
    · cases h

structure T_inflate_Decoder where
  most : Int
  state : Int
  last : Bool
  wait : Slc
  skip : Int
  left : Int
  signs : Option Addr
  dists : Option Addr
  ring : Slc
  total : Int
  told : Int
  took : Int
  given : Int
  failed : Int
  out : Slc

def T_inflate_Decoder.rep : Rep where
  T := T_inflate_Decoder
  cells x := [(.int .i64 x.most), (.int .i64 x.state), (.bool x.last), (.slice x.wait.a x.wait.n x.wait.c), (.int .i64 x.skip), (.int .i64 x.left), (.pointer x.signs), (.pointer x.dists), (.slice x.ring.a x.ring.n x.ring.c), (.int .i64 x.total), (.int .i64 x.told), (.int .i64 x.took), (.int .i64 x.given), (.int .i64 x.failed), (.slice x.out.a x.out.n x.out.c)]
  get l := match l with
    | [.int .i64 v1, .int .i64 v2, .bool v3, .slice v4a v4n v4c, .int .i64 v5, .int .i64 v6, .pointer v7, .pointer v8, .slice v9a v9n v9c, .int .i64 v10, .int .i64 v11, .int .i64 v12, .int .i64 v13, .int .i64 v14, .slice v15a v15n v15c] => some ⟨v1, v2, v3, ⟨v4a, v4n, v4c⟩, v5, v6, v7, v8, ⟨v9a, v9n, v9c⟩, v10, v11, v12, v13, v14, ⟨v15a, v15n, v15c⟩⟩
    | _ => none
  ok l c h := by
    split at h
    · injection h with h; subst h; rfl
    · cases h

structure T_sums_Adler where
  a : Int
  b : Int

def T_sums_Adler.rep : Rep where
  T := T_sums_Adler
  cells x := [(.int .u32 x.a), (.int .u32 x.b)]
  get l := match l with
    | [.int .u32 v1, .int .u32 v2] => some ⟨v1, v2⟩
    | _ => none
  ok l c h := by
    split at h
    · injection h with h; subst h; rfl
    · cases h

structure T_phosphorref1_Reader where
  B : Slc
  At : Int

def T_phosphorref1_Reader.rep : Rep where
  T := T_phosphorref1_Reader
  cells x := [(.slice x.B.a x.B.n x.B.c), (.int .i64 x.At)]
  get l := match l with
    | [.slice v1a v1n v1c, .int .i64 v2] => some ⟨⟨v1a, v1n, v1c⟩, v2⟩
    | _ => none
  ok l c h := by
    split at h
    · injection h with h; subst h; rfl
    · cases h

structure T_phosphorref5_state where
  r : Option Addr
  out : Slc
  most : Int

def T_phosphorref5_state.rep : Rep where
  T := T_phosphorref5_state
  cells x := [(.pointer x.r), (.slice x.out.a x.out.n x.out.c), (.int .i64 x.most)]
  get l := match l with
    | [.pointer v1, .slice v2a v2n v2c, .int .i64 v3] => some ⟨v1, ⟨v2a, v2n, v2c⟩, v3⟩
    | _ => none
  ok l c h := by
    split at h
    · injection h with h; subst h; rfl
    · cases h

structure T_bits_Reader where
  b : Slc
  at_ : Int

def T_bits_Reader.rep : Rep where
  T := T_bits_Reader
  cells x := [(.slice x.b.a x.b.n x.b.c), (.int .i64 x.at_)]
  get l := match l with
    | [.slice v1a v1n v1c, .int .i64 v2] => some ⟨⟨v1a, v1n, v1c⟩, v2⟩
    | _ => none
  ok l c h := by
    split at h
    · injection h with h; subst h; rfl
    · cases h

structure T_19_int where
  e0 : Int
  e1 : Int
  e2 : Int
  e3 : Int
  e4 : Int
  e5 : Int
  e6 : Int
  e7 : Int
  e8 : Int
  e9 : Int
  e10 : Int
  e11 : Int
  e12 : Int
  e13 : Int
  e14 : Int
  e15 : Int
  e16 : Int
  e17 : Int
  e18 : Int

def T_19_int.rep : Rep where
  T := T_19_int
  cells x := [(.int .i64 x.e0), (.int .i64 x.e1), (.int .i64 x.e2), (.int .i64 x.e3), (.int .i64 x.e4), (.int .i64 x.e5), (.int .i64 x.e6), (.int .i64 x.e7), (.int .i64 x.e8), (.int .i64 x.e9), (.int .i64 x.e10), (.int .i64 x.e11), (.int .i64 x.e12), (.int .i64 x.e13), (.int .i64 x.e14), (.int .i64 x.e15), (.int .i64 x.e16), (.int .i64 x.e17), (.int .i64 x.e18)]
  get l := match l with
    | [.int .i64 v1, .int .i64 v2, .int .i64 v3, .int .i64 v4, .int .i64 v5, .int .i64 v6, .int .i64 v7, .int .i64 v8, .int .i64 v9, .int .i64 v10, .int .i64 v11, .int .i64 v12, .int .i64 v13, .int .i64 v14, .int .i64 v15, .int .i64 v16, .int .i64 v17, .int .i64 v18, .int .i64 v19] => some ⟨v1, v2, v3, v4, v5, v6, v7, v8, v9, v10, v11, v12, v13, v14, v15, v16, v17, v18, v19⟩
    | _ => none
  ok l c h := by
    split at h
    · injection h with h; subst h; rfl
    · cases h

noncomputable abbrev PG : Program := Try.prog

abbrev ty_unit : TypeId := 0
abbrev ty_int : TypeId := 3
abbrev ty_uint8 : TypeId := 5
abbrev ty_string : TypeId := 9
abbrev ty_interface : TypeId := 20
abbrev ty_sl_uint8 : TypeId := 22
abbrev ty_api_Matrix : TypeId := 24
abbrev ty_p_store_Store : TypeId := 26
abbrev ty_sl_int : TypeId := 30
abbrev ty_phosphorlaw21_Act : TypeId := 50
abbrev ty_phosphorref7_Matrix : TypeId := 62
abbrev ty_map_int_store_image : TypeId := 81
abbrev ty_store_Store : TypeId := 83
abbrev ty_store_image : TypeId := 87
abbrev ty_uint32 : TypeId := 101
abbrev ty_phosphorref1_Writer : TypeId := 110
abbrev ty_sl_phosphorref21_Image : TypeId := 115
abbrev ty_phosphorref21_Store : TypeId := 117
abbrev ty_phosphorref21_Image : TypeId := 122
abbrev ty_p_sums_Adler : TypeId := 127
abbrev ty_zlib_Decoder : TypeId := 134
abbrev ty_sl_uint32 : TypeId := 147
abbrev ty_huff_Table : TypeId := 150
abbrev ty_bits_Writer : TypeId := 154
abbrev ty_phosphorref4_Table : TypeId := 156
abbrev ty_inflate_Decoder : TypeId := 159
abbrev ty_sums_Adler : TypeId := 170
abbrev ty_phosphorref1_Reader : TypeId := 175
abbrev ty_phosphorref5_state : TypeId := 177
abbrev ty_bits_Reader : TypeId := 185
abbrev ty_19_int : TypeId := 198
abbrev fn_store_Store_room_1 : Nat := 101
abbrev fn_maps_Keys_map_int_store_image_int_store_image_1 : Nat := 106

def reg (t : TypeId) : Option Rep := match t with
  | 24 => some T_api_Matrix.rep
  | 50 => some T_phosphorlaw21_Act.rep
  | 62 => some T_phosphorref7_Matrix.rep
  | 83 => some T_store_Store.rep
  | 87 => some T_store_image.rep
  | 110 => some T_phosphorref1_Writer.rep
  | 117 => some T_phosphorref21_Store.rep
  | 122 => some T_phosphorref21_Image.rep
  | 134 => some T_zlib_Decoder.rep
  | 148 => some T_16_int.rep
  | 150 => some T_huff_Table.rep
  | 154 => some T_bits_Writer.rep
  | 156 => some T_phosphorref4_Table.rep
  | 159 => some T_inflate_Decoder.rep
  | 170 => some T_sums_Adler.rep
  | 175 => some T_phosphorref1_Reader.rep
  | 177 => some T_phosphorref5_state.rep
  | 185 => some T_bits_Reader.rep
  | 198 => some T_19_int.rep
  | _ => none

def plainL : List Nat := [2, 3, 4, 5, 6, 7, 8, 9, 10, 11, 12, 13, 14, 15, 16, 17, 18, 19, 20, 21, 22, 23, 24, 25, 26, 27, 28, 29, 30, 31, 32, 33, 34, 35, 36, 37, 38, 39, 40, 41, 42, 43, 44, 45, 46, 47, 48, 49, 50, 51, 52, 53, 54, 55, 56, 57, 58, 59, 60, 61, 62, 63, 64, 65, 66, 67, 68, 69, 70, 71, 72, 73, 74, 75, 76, 77, 78, 79, 80, 81, 82, 83, 84, 85, 86, 87, 88, 89, 90, 91, 92, 93, 94, 95, 96, 97, 98, 99, 100, 101, 102, 103, 104, 105, 106, 107, 108, 109, 110, 111, 112, 113, 114, 115, 117, 118, 119, 120, 121, 122, 123, 124, 125, 126, 127, 128, 129, 130, 131, 132, 133, 134, 135, 136, 137, 138, 139, 140, 141, 142, 143, 144, 145, 146, 147, 148, 149, 150, 151, 152, 153, 154, 155, 156, 157, 158, 159, 160, 161, 162, 163, 164, 165, 166, 167, 168, 169, 170, 171, 172, 193, 194]

noncomputable def C : Cx := { P := Try.prog, reg := reg, plain := fun n => plainL.elem n }

theorem C.plain_ok (g : Nat) (h : C.plain g = true) : plainFn C.P g = true := by
  have h' : g ∈ plainL := by simpa [C] using h
  have : plainL.all (fun g => plainFn Try.prog g) = true := by kernel_rfl
  exact List.all_eq_true.1 this g h'

theorem C.mixed : C.P.follows .mixedOrders = true := by kernel_rfl

/-- phosphor/phosphorlaw21.StoreOwn -/
def c_phosphorlaw21_StoreOwn (m : T_api_Matrix) (turn : Int) (w : World) (K : Bool → World → Prop) : Prop :=
  Calls PG 3 #[(.agg #[(.int .i64 m.W), (.int .i64 m.H), (.slice m.P.a m.P.n m.P.c)]), (.int .u8 turn)] w fun e w' => ∃ r0 : Bool, e = .returned (.bool r0) ∧ K r0 w'

/-- phosphor/phosphorlaw21.StoreNumbers -/
def c_phosphorlaw21_StoreNumbers (n : Int) (ids : Slc) (drop : Int) (w : World) (K : Bool → World → Prop) : Prop :=
  Calls PG 4 #[(.int .i64 n), (.slice ids.a ids.n ids.c), (.int .i64 drop)] w fun e w' => ∃ r0 : Bool, e = .returned (.bool r0) ∧ K r0 w'

/-- phosphor/phosphorlaw5.InflateBack -/
def c_phosphorlaw5_InflateBack (b : Slc) (more : Slc) (fixed : Bool) (w : World) (K : Bool → World → Prop) : Prop :=
  Calls PG 5 #[(.slice b.a b.n b.c), (.slice more.a more.n more.c), (.bool fixed)] w fun e w' => ∃ r0 : Bool, e = .returned (.bool r0) ∧ K r0 w'

/-- phosphor/phosphorlaw5.InflateCaps -/
def c_phosphorlaw5_InflateCaps (b : Slc) (fixed : Bool) (most : Int) (w : World) (K : Bool → World → Prop) : Prop :=
  Calls PG 6 #[(.slice b.a b.n b.c), (.bool fixed), (.int .i64 most)] w fun e w' => ∃ r0 : Bool, e = .returned (.bool r0) ∧ K r0 w'

/-- phosphor/phosphorlaw5.InflateFronts -/
def c_phosphorlaw5_InflateFronts (b : Slc) (fixed : Bool) (cut : Int) (w : World) (K : Bool → World → Prop) : Prop :=
  Calls PG 7 #[(.slice b.a b.n b.c), (.bool fixed), (.int .i64 cut)] w fun e w' => ∃ r0 : Bool, e = .returned (.bool r0) ∧ K r0 w'

/-- phosphor/phosphorlaw5.InflateTwo -/
def c_phosphorlaw5_InflateTwo (a : Slc) (b : Slc) (fixed : Bool) (w : World) (K : Bool → World → Prop) : Prop :=
  Calls PG 8 #[(.slice a.a a.n a.c), (.slice b.a b.n b.c), (.bool fixed)] w fun e w' => ∃ r0 : Bool, e = .returned (.bool r0) ∧ K r0 w'

/-- phosphor/phosphorlaw21.StoreEldest -/
def c_phosphorlaw21_StoreEldest (quota : Int) (l : Slc) (w : World) (K : Bool → World → Prop) : Prop :=
  Calls PG 9 #[(.int .i64 quota), (.slice l.a l.n l.c)] w fun e w' => ∃ r0 : Bool, e = .returned (.bool r0) ∧ K r0 w'

/-- phosphor/phosphorlaw21.StorePlays -/
def c_phosphorlaw21_StorePlays (quota : Int) (l : Slc) (w : World) (K : Bool → World → Prop) : Prop :=
  Calls PG 10 #[(.int .i64 quota), (.slice l.a l.n l.c)] w fun e w' => ∃ r0 : Bool, e = .returned (.bool r0) ∧ K r0 w'

/-- phosphor/phosphorlaw6.ZlibStreams -/
def c_phosphorlaw6_ZlibStreams (b : Slc) (most : Int) (data : Slc) (fixed : Bool) (w : World) (K : Bool → World → Prop) : Prop :=
  Calls PG 11 #[(.slice b.a b.n b.c), (.int .i64 most), (.slice data.a data.n data.c), (.bool fixed)] w fun e w' => ∃ r0 : Bool, e = .returned (.bool r0) ∧ K r0 w'

/-- phosphor/phosphorlaw6.ZlibBack -/
def c_phosphorlaw6_ZlibBack (b : Slc) (more : Slc) (fixed : Bool) (bit : Int) (w : World) (K : Bool → World → Prop) : Prop :=
  Calls PG 12 #[(.slice b.a b.n b.c), (.slice more.a more.n more.c), (.bool fixed), (.int .i64 bit)] w fun e w' => ∃ r0 : Bool, e = .returned (.bool r0) ∧ K r0 w'

/-- phosphor/phosphorlaw6.ZlibFronts -/
def c_phosphorlaw6_ZlibFronts (b : Slc) (fixed : Bool) (cut : Int) (less : Int) (w : World) (K : Bool → World → Prop) : Prop :=
  Calls PG 13 #[(.slice b.a b.n b.c), (.bool fixed), (.int .i64 cut), (.int .i64 less)] w fun e w' => ∃ r0 : Bool, e = .returned (.bool r0) ∧ K r0 w'

/-- phosphor/phosphorlaw6.ZlibPieces -/
def c_phosphorlaw6_ZlibPieces (b : Slc) (most : Int) (cuts : Slc) (w : World) (K : Bool → World → Prop) : Prop :=
  Calls PG 14 #[(.slice b.a b.n b.c), (.int .i64 most), (.slice cuts.a cuts.n cuts.c)] w fun e w' => ∃ r0 : Bool, e = .returned (.bool r0) ∧ K r0 w'

/-- phosphor/phosphorlaw21.known -/
def c_phosphorlaw21_known  (w : World) (K : Bool → World → Prop) : Prop :=
  Calls PG 15 #[] w fun e w' => ∃ r0 : Bool, e = .returned (.bool r0) ∧ K r0 w'

/-- phosphor/store.New -/
def c_store_New (quota : Int) (w : World) (K : Option Addr → Int → World → Prop) : Prop :=
  Calls PG 16 #[(.int .i64 quota)] w fun e w' => ∃ r0 : Option Addr, ∃ r1 : Int, e = .returned (.tuple #[(.pointer r0), (.int .i64 r1)]) ∧ K r0 r1 w'

/-- (*phosphor/store.Store).Put -/
def c_store_Store_Put (s : Option Addr) (id : Int) (number : Int) (m : T_api_Matrix) (w : World) (K : Int → Slc → Int → World → Prop) : Prop :=
  Calls PG 17 #[(.pointer s), (.int .i64 id), (.int .i64 number), (.agg #[(.int .i64 m.W), (.int .i64 m.H), (.slice m.P.a m.P.n m.P.c)])] w fun e w' => ∃ r0 : Int, ∃ r1 : Slc, ∃ r2 : Int, e = .returned (.tuple #[(.int .i64 r0), (.slice r1.a r1.n r1.c), (.int .i64 r2)]) ∧ K r0 r1 r2 w'

/-- (*phosphor/store.Store).Get -/
def c_store_Store_Get (s : Option Addr) (id : Int) (w : World) (K : T_api_Matrix → Bool → World → Prop) : Prop :=
  Calls PG 18 #[(.pointer s), (.int .i64 id)] w fun e w' => ∃ r0 : T_api_Matrix, ∃ r1 : Bool, e = .returned (.tuple #[(.agg #[(.int .i64 r0.W), (.int .i64 r0.H), (.slice r0.P.a r0.P.n r0.P.c)]), (.bool r1)]) ∧ K r0 r1 w'

/-- (*phosphor/store.Store).Number -/
def c_store_Store_Number (s : Option Addr) (n : Int) (w : World) (K : Int → Bool → World → Prop) : Prop :=
  Calls PG 19 #[(.pointer s), (.int .i64 n)] w fun e w' => ∃ r0 : Int, ∃ r1 : Bool, e = .returned (.tuple #[(.int .i64 r0), (.bool r1)]) ∧ K r0 r1 w'

/-- (*phosphor/store.Store).Drop -/
def c_store_Store_Drop (s : Option Addr) (id : Int) (w : World) (K : Bool → World → Prop) : Prop :=
  Calls PG 20 #[(.pointer s), (.int .i64 id)] w fun e w' => ∃ r0 : Bool, e = .returned (.bool r0) ∧ K r0 w'

/-- (*phosphor/store.Store).Ids -/
def c_store_Store_Ids (s : Option Addr) (w : World) (K : Slc → World → Prop) : Prop :=
  Calls PG 21 #[(.pointer s)] w fun e w' => ∃ r0 : Slc, e = .returned (.slice r0.a r0.n r0.c) ∧ K r0 w'

/-- phosphor/phosphorlaw5.known -/
def c_phosphorlaw5_known  (w : World) (K : Bool → World → Prop) : Prop :=
  Calls PG 22 #[] w fun e w' => ∃ r0 : Bool, e = .returned (.bool r0) ∧ K r0 w'

/-- phosphor/inflate.Store -/
def c_inflate_Store (b : Slc) (w : World) (K : Slc → World → Prop) : Prop :=
  Calls PG 23 #[(.slice b.a b.n b.c)] w fun e w' => ∃ r0 : Slc, e = .returned (.slice r0.a r0.n r0.c) ∧ K r0 w'

/-- phosphor/phosphorref5.Store -/
def c_phosphorref5_Store (b : Slc) (w : World) (K : Slc → World → Prop) : Prop :=
  Calls PG 24 #[(.slice b.a b.n b.c)] w fun e w' => ∃ r0 : Slc, e = .returned (.slice r0.a r0.n r0.c) ∧ K r0 w'

/-- phosphor/inflate.Fixed -/
def c_inflate_Fixed (b : Slc) (w : World) (K : Slc → World → Prop) : Prop :=
  Calls PG 25 #[(.slice b.a b.n b.c)] w fun e w' => ∃ r0 : Slc, e = .returned (.slice r0.a r0.n r0.c) ∧ K r0 w'

/-- phosphor/phosphorref5.Fixed -/
def c_phosphorref5_Fixed (b : Slc) (w : World) (K : Slc → World → Prop) : Prop :=
  Calls PG 26 #[(.slice b.a b.n b.c)] w fun e w' => ∃ r0 : Slc, e = .returned (.slice r0.a r0.n r0.c) ∧ K r0 w'

/-- phosphor/inflate.Inflate -/
def c_inflate_Inflate (b : Slc) (most : Int) (w : World) (K : Slc → Int → Int → World → Prop) : Prop :=
  Calls PG 27 #[(.slice b.a b.n b.c), (.int .i64 most)] w fun e w' => ∃ r0 : Slc, ∃ r1 : Int, ∃ r2 : Int, e = .returned (.tuple #[(.slice r0.a r0.n r0.c), (.int .i64 r1), (.int .i64 r2)]) ∧ K r0 r1 r2 w'

/-- phosphor/phosphorlaw21.Few -/
def c_phosphorlaw21_Few (l : Slc) (w : World) (K : Bool → World → Prop) : Prop :=
  Calls PG 28 #[(.slice l.a l.n l.c)] w fun e w' => ∃ r0 : Bool, e = .returned (.bool r0) ∧ K r0 w'

/-- (*phosphor/store.Store).Twin -/
def c_store_Store_Twin (s : Option Addr) (w : World) (K : Option Addr → World → Prop) : Prop :=
  Calls PG 29 #[(.pointer s)] w fun e w' => ∃ r0 : Option Addr, e = .returned (.pointer r0) ∧ K r0 w'

/-- (*phosphor/store.Store).Reserve -/
def c_store_Store_Reserve (s : Option Addr) (n : Int) (w : World) (K : Slc → Int → World → Prop) : Prop :=
  Calls PG 30 #[(.pointer s), (.int .i64 n)] w fun e w' => ∃ r0 : Slc, ∃ r1 : Int, e = .returned (.tuple #[(.slice r0.a r0.n r0.c), (.int .i64 r1)]) ∧ K r0 r1 w'

/-- (*phosphor/store.Store).Use -/
def c_store_Store_Use (s : Option Addr) (id : Int) (w : World) (K : Bool → World → Prop) : Prop :=
  Calls PG 31 #[(.pointer s), (.int .i64 id)] w fun e w' => ∃ r0 : Bool, e = .returned (.bool r0) ∧ K r0 w'

/-- (*phosphor/store.Store).Used -/
def c_store_Store_Used (s : Option Addr) (w : World) (K : Int → World → Prop) : Prop :=
  Calls PG 32 #[(.pointer s)] w fun e w' => ∃ r0 : Int, e = .returned (.int .i64 r0) ∧ K r0 w'

/-- (*phosphor/store.Store).Reserved -/
def c_store_Store_Reserved (s : Option Addr) (w : World) (K : Int → World → Prop) : Prop :=
  Calls PG 33 #[(.pointer s)] w fun e w' => ∃ r0 : Int, e = .returned (.int .i64 r0) ∧ K r0 w'

/-- (*phosphor/store.Store).Stamp -/
def c_store_Store_Stamp (s : Option Addr) (id : Int) (w : World) (K : Int → Bool → World → Prop) : Prop :=
  Calls PG 34 #[(.pointer s), (.int .i64 id)] w fun e w' => ∃ r0 : Int, ∃ r1 : Bool, e = .returned (.tuple #[(.int .i64 r0), (.bool r1)]) ∧ K r0 r1 w'

/-- phosphor/phosphorref21.New -/
def c_phosphorref21_New (quota : Int) (w : World) (K : Option Addr → Int → World → Prop) : Prop :=
  Calls PG 35 #[(.int .i64 quota)] w fun e w' => ∃ r0 : Option Addr, ∃ r1 : Int, e = .returned (.tuple #[(.pointer r0), (.int .i64 r1)]) ∧ K r0 r1 w'

/-- (*phosphor/phosphorref21.Store).Put -/
def c_phosphorref21_Store_Put (s : Option Addr) (id : Int) (number : Int) (m : T_phosphorref7_Matrix) (w : World) (K : Int → Slc → Int → World → Prop) : Prop :=
  Calls PG 36 #[(.pointer s), (.int .i64 id), (.int .i64 number), (.agg #[(.int .i64 m.W), (.int .i64 m.H), (.slice m.P.a m.P.n m.P.c)])] w fun e w' => ∃ r0 : Int, ∃ r1 : Slc, ∃ r2 : Int, e = .returned (.tuple #[(.int .i64 r0), (.slice r1.a r1.n r1.c), (.int .i64 r2)]) ∧ K r0 r1 r2 w'

/-- phosphor/phosphorlaw7.Of -/
def c_phosphorlaw7_Of (m : T_api_Matrix) (w : World) (K : T_phosphorref7_Matrix → World → Prop) : Prop :=
  Calls PG 37 #[(.agg #[(.int .i64 m.W), (.int .i64 m.H), (.slice m.P.a m.P.n m.P.c)])] w fun e w' => ∃ r0 : T_phosphorref7_Matrix, e = .returned (.agg #[(.int .i64 r0.W), (.int .i64 r0.H), (.slice r0.P.a r0.P.n r0.P.c)]) ∧ K r0 w'

/-- phosphor/phosphorlaw21.ints -/
def c_phosphorlaw21_ints (a : Slc) (b : Slc) (w : World) (K : Bool → World → Prop) : Prop :=
  Calls PG 38 #[(.slice a.a a.n a.c), (.slice b.a b.n b.c)] w fun e w' => ∃ r0 : Bool, e = .returned (.bool r0) ∧ K r0 w'

/-- (*phosphor/phosphorref21.Store).Reserve -/
def c_phosphorref21_Store_Reserve (s : Option Addr) (n : Int) (w : World) (K : Slc → Int → World → Prop) : Prop :=
  Calls PG 39 #[(.pointer s), (.int .i64 n)] w fun e w' => ∃ r0 : Slc, ∃ r1 : Int, e = .returned (.tuple #[(.slice r0.a r0.n r0.c), (.int .i64 r1)]) ∧ K r0 r1 w'

/-- (*phosphor/phosphorref21.Store).Use -/
def c_phosphorref21_Store_Use (s : Option Addr) (id : Int) (w : World) (K : Bool → World → Prop) : Prop :=
  Calls PG 40 #[(.pointer s), (.int .i64 id)] w fun e w' => ∃ r0 : Bool, e = .returned (.bool r0) ∧ K r0 w'

/-- (*phosphor/phosphorref21.Store).Drop -/
def c_phosphorref21_Store_Drop (s : Option Addr) (id : Int) (w : World) (K : Bool → World → Prop) : Prop :=
  Calls PG 41 #[(.pointer s), (.int .i64 id)] w fun e w' => ∃ r0 : Bool, e = .returned (.bool r0) ∧ K r0 w'

/-- phosphor/phosphorlaw21.Looks -/
def c_phosphorlaw21_Looks (s : Option Addr) (r : Option Addr) (id : Int) (number : Int) (w : World) (K : Bool → World → Prop) : Prop :=
  Calls PG 42 #[(.pointer s), (.pointer r), (.int .i64 id), (.int .i64 number)] w fun e w' => ∃ r0 : Bool, e = .returned (.bool r0) ∧ K r0 w'

/-- phosphor/phosphorlaw6.known -/
def c_phosphorlaw6_known  (w : World) (K : Bool → World → Prop) : Prop :=
  Calls PG 43 #[] w fun e w' => ∃ r0 : Bool, e = .returned (.bool r0) ∧ K r0 w'

/-- phosphor/zlib.Unpack -/
def c_zlib_Unpack (b : Slc) (most : Int) (w : World) (K : Slc → Int → Int → World → Prop) : Prop :=
  Calls PG 44 #[(.slice b.a b.n b.c), (.int .i64 most)] w fun e w' => ∃ r0 : Slc, ∃ r1 : Int, ∃ r2 : Int, e = .returned (.tuple #[(.slice r0.a r0.n r0.c), (.int .i64 r1), (.int .i64 r2)]) ∧ K r0 r1 r2 w'

/-- phosphor/phosphorref6.Unpack -/
def c_phosphorref6_Unpack (b : Slc) (most : Int) (w : World) (K : Slc → Int → Int → World → Prop) : Prop :=
  Calls PG 45 #[(.slice b.a b.n b.c), (.int .i64 most)] w fun e w' => ∃ r0 : Slc, ∃ r1 : Int, ∃ r2 : Int, e = .returned (.tuple #[(.slice r0.a r0.n r0.c), (.int .i64 r1), (.int .i64 r2)]) ∧ K r0 r1 r2 w'

/-- phosphor/zlib.Pack -/
def c_zlib_Pack (b : Slc) (fixed : Bool) (w : World) (K : Slc → World → Prop) : Prop :=
  Calls PG 46 #[(.slice b.a b.n b.c), (.bool fixed)] w fun e w' => ∃ r0 : Slc, e = .returned (.slice r0.a r0.n r0.c) ∧ K r0 w'

/-- phosphor/phosphorref6.Pack -/
def c_phosphorref6_Pack (b : Slc) (fixed : Bool) (w : World) (K : Slc → World → Prop) : Prop :=
  Calls PG 47 #[(.slice b.a b.n b.c), (.bool fixed)] w fun e w' => ∃ r0 : Slc, e = .returned (.slice r0.a r0.n r0.c) ∧ K r0 w'

/-- phosphor/zlib.New -/
def c_zlib_New (most : Int) (w : World) (K : Option Addr → Int → World → Prop) : Prop :=
  Calls PG 48 #[(.int .i64 most)] w fun e w' => ∃ r0 : Option Addr, ∃ r1 : Int, e = .returned (.tuple #[(.pointer r0), (.int .i64 r1)]) ∧ K r0 r1 w'

/-- phosphor/phosphorref6.Front -/
def c_phosphorref6_Front (b : Slc) (most : Int) (w : World) (K : Slc → Int → Int → World → Prop) : Prop :=
  Calls PG 49 #[(.slice b.a b.n b.c), (.int .i64 most)] w fun e w' => ∃ r0 : Slc, ∃ r1 : Int, ∃ r2 : Int, e = .returned (.tuple #[(.slice r0.a r0.n r0.c), (.int .i64 r1), (.int .i64 r2)]) ∧ K r0 r1 r2 w'

/-- (*phosphor/zlib.Decoder).Write -/
def c_zlib_Decoder_Write (d : Option Addr) (b : Slc) (w : World) (K : Slc → Int → World → Prop) : Prop :=
  Calls PG 50 #[(.pointer d), (.slice b.a b.n b.c)] w fun e w' => ∃ r0 : Slc, ∃ r1 : Int, e = .returned (.tuple #[(.slice r0.a r0.n r0.c), (.int .i64 r1)]) ∧ K r0 r1 w'

/-- (*phosphor/zlib.Decoder).Room -/
def c_zlib_Decoder_Room (d : Option Addr) (w : World) (K : Int → World → Prop) : Prop :=
  Calls PG 51 #[(.pointer d)] w fun e w' => ∃ r0 : Int, e = .returned (.int .i64 r0) ∧ K r0 w'

/-- (*phosphor/zlib.Decoder).Done -/
def c_zlib_Decoder_Done (d : Option Addr) (w : World) (K : Bool → World → Prop) : Prop :=
  Calls PG 52 #[(.pointer d)] w fun e w' => ∃ r0 : Bool, e = .returned (.bool r0) ∧ K r0 w'

/-- phosphor/pixel.Right -/
def c_pixel_Right (m : T_api_Matrix) (w : World) (K : Bool → World → Prop) : Prop :=
  Calls PG 53 #[(.agg #[(.int .i64 m.W), (.int .i64 m.H), (.slice m.P.a m.P.n m.P.c)])] w fun e w' => ∃ r0 : Bool, e = .returned (.bool r0) ∧ K r0 w'

/-- phosphor/store.isNumber -/
def c_store_isNumber (n : Int) (w : World) (K : Bool → World → Prop) : Prop :=
  Calls PG 54 #[(.int .i64 n)] w fun e w' => ∃ r0 : Bool, e = .returned (.bool r0) ∧ K r0 w'

/-- (*phosphor/store.Store).Release -/
def c_store_Store_Release (s : Option Addr) (w : World) (K : World → Prop) : Prop :=
  Calls PG 55 #[(.pointer s)] w fun e w' => e = .returned (.tuple #[]) ∧ K w'

/-- (*phosphor/store.Store).room -/
def c_store_Store_room (s : Option Addr) (n : Int) (w : World) (K : Slc → World → Prop) : Prop :=
  Calls PG 56 #[(.pointer s), (.int .i64 n)] w fun e w' => ∃ r0 : Slc, e = .returned (.slice r0.a r0.n r0.c) ∧ K r0 w'

/-- (*phosphor/store.Store).is -/
def c_store_Store_is (s : Option Addr) (id : Int) (w : World) (K : Bool → World → Prop) : Prop :=
  Calls PG 57 #[(.pointer s), (.int .i64 id)] w fun e w' => ∃ r0 : Bool, e = .returned (.bool r0) ∧ K r0 w'

/-- slices.Clip[[]byte,byte] -/
def c_slices_Clip_byte_byte (s : Slc) (w : World) (K : Slc → World → Prop) : Prop :=
  Calls PG 58 #[(.slice s.a s.n s.c)] w fun e w' => ∃ r0 : Slc, e = .returned (.slice r0.a r0.n r0.c) ∧ K r0 w'

/-- slices.Clone[[]byte,byte] -/
def c_slices_Clone_byte_byte (s : Slc) (w : World) (K : Slc → World → Prop) : Prop :=
  Calls PG 59 #[(.slice s.a s.n s.c)] w fun e w' => ∃ r0 : Slc, e = .returned (.slice r0.a r0.n r0.c) ∧ K r0 w'

/-- (*phosphor/store.Store).See -/
def c_store_Store_See (s : Option Addr) (id : Int) (w : World) (K : T_api_Matrix → Bool → World → Prop) : Prop :=
  Calls PG 60 #[(.pointer s), (.int .i64 id)] w fun e w' => ∃ r0 : T_api_Matrix, ∃ r1 : Bool, e = .returned (.tuple #[(.agg #[(.int .i64 r0.W), (.int .i64 r0.H), (.slice r0.P.a r0.P.n r0.P.c)]), (.bool r1)]) ∧ K r0 r1 w'

/-- slices.Sorted[int] -/
def c_slices_Sorted_int (seq : Value) (w : World) (K : Slc → World → Prop) : Prop :=
  Calls PG 61 #[seq] w fun e w' => ∃ r0 : Slc, e = .returned (.slice r0.a r0.n r0.c) ∧ K r0 w'

/-- maps.Keys[map[int]phosphor/store.image,int,phosphor/store.image] -/
def c_maps_Keys_map_int_store_image_int_store_image (m : Option Nat) (w : World) (K : Value → World → Prop) : Prop :=
  Calls PG 62 #[(.map m)] w fun e w' => ∃ r0 : Value, e = .returned r0 ∧ K r0 w'

/-- phosphor/huff.Fixed -/
def c_huff_Fixed  (w : World) (K : Slc → Slc → World → Prop) : Prop :=
  Calls PG 63 #[] w fun e w' => ∃ r0 : Slc, ∃ r1 : Slc, e = .returned (.tuple #[(.slice r0.a r0.n r0.c), (.slice r1.a r1.n r1.c)]) ∧ K r0 r1 w'

/-- phosphor/huff.New -/
def c_huff_New (lengths : Slc) (w : World) (K : Option Addr → Int → World → Prop) : Prop :=
  Calls PG 64 #[(.slice lengths.a lengths.n lengths.c)] w fun e w' => ∃ r0 : Option Addr, ∃ r1 : Int, e = .returned (.tuple #[(.pointer r0), (.int .i64 r1)]) ∧ K r0 r1 w'

/-- phosphor/bits.NewWriter -/
def c_bits_NewWriter  (w : World) (K : Option Addr → World → Prop) : Prop :=
  Calls PG 65 #[] w fun e w' => ∃ r0 : Option Addr, e = .returned (.pointer r0) ∧ K r0 w'

/-- (*phosphor/bits.Writer).Bits -/
def c_bits_Writer_Bits (wx : Option Addr) (v : Int) (n : Int) (w : World) (K : World → Prop) : Prop :=
  Calls PG 66 #[(.pointer wx), (.int .u32 v), (.int .i64 n)] w fun e w' => e = .returned (.tuple #[]) ∧ K w'

/-- (*phosphor/huff.Table).Code -/
def c_huff_Table_Code (t : Option Addr) (symbol : Int) (w : World) (K : Int → Int → World → Prop) : Prop :=
  Calls PG 67 #[(.pointer t), (.int .i64 symbol)] w fun e w' => ∃ r0 : Int, ∃ r1 : Int, e = .returned (.tuple #[(.int .u32 r0), (.int .i64 r1)]) ∧ K r0 r1 w'

/-- (*phosphor/bits.Writer).Done -/
def c_bits_Writer_Done (wx : Option Addr) (w : World) (K : Slc → World → Prop) : Prop :=
  Calls PG 68 #[(.pointer wx)] w fun e w' => ∃ r0 : Slc, e = .returned (.slice r0.a r0.n r0.c) ∧ K r0 w'

/-- phosphor/phosphorref4.Fixed -/
def c_phosphorref4_Fixed  (w : World) (K : Slc → Slc → World → Prop) : Prop :=
  Calls PG 69 #[] w fun e w' => ∃ r0 : Slc, ∃ r1 : Slc, e = .returned (.tuple #[(.slice r0.a r0.n r0.c), (.slice r1.a r1.n r1.c)]) ∧ K r0 r1 w'

/-- phosphor/phosphorref4.New -/
def c_phosphorref4_New (l : Slc) (w : World) (K : Option Addr → Int → World → Prop) : Prop :=
  Calls PG 70 #[(.slice l.a l.n l.c)] w fun e w' => ∃ r0 : Option Addr, ∃ r1 : Int, e = .returned (.tuple #[(.pointer r0), (.int .i64 r1)]) ∧ K r0 r1 w'

/-- (*phosphor/phosphorref1.Writer).Bits -/
def c_phosphorref1_Writer_Bits (wx : Option Addr) (v : Int) (n : Int) (w : World) (K : World → Prop) : Prop :=
  Calls PG 71 #[(.pointer wx), (.int .u32 v), (.int .i64 n)] w fun e w' => e = .returned (.tuple #[]) ∧ K w'

/-- (*phosphor/phosphorref4.Table).Code -/
def c_phosphorref4_Table_Code (t : Option Addr) (s : Int) (w : World) (K : Int → Int → World → Prop) : Prop :=
  Calls PG 72 #[(.pointer t), (.int .i64 s)] w fun e w' => ∃ r0 : Int, ∃ r1 : Int, e = .returned (.tuple #[(.int .u32 r0), (.int .i64 r1)]) ∧ K r0 r1 w'

/-- (*phosphor/phosphorref1.Writer).Done -/
def c_phosphorref1_Writer_Done (wx : Option Addr) (w : World) (K : Slc → World → Prop) : Prop :=
  Calls PG 73 #[(.pointer wx)] w fun e w' => ∃ r0 : Slc, e = .returned (.slice r0.a r0.n r0.c) ∧ K r0 w'

/-- phosphor/inflate.New -/
def c_inflate_New (most : Int) (w : World) (K : Option Addr → Int → World → Prop) : Prop :=
  Calls PG 74 #[(.int .i64 most)] w fun e w' => ∃ r0 : Option Addr, ∃ r1 : Int, e = .returned (.tuple #[(.pointer r0), (.int .i64 r1)]) ∧ K r0 r1 w'

/-- (*phosphor/inflate.Decoder).Write -/
def c_inflate_Decoder_Write (d : Option Addr) (b : Slc) (w : World) (K : Slc → Int → World → Prop) : Prop :=
  Calls PG 75 #[(.pointer d), (.slice b.a b.n b.c)] w fun e w' => ∃ r0 : Slc, ∃ r1 : Int, e = .returned (.tuple #[(.slice r0.a r0.n r0.c), (.int .i64 r1)]) ∧ K r0 r1 w'

/-- (*phosphor/inflate.Decoder).Done -/
def c_inflate_Decoder_Done (d : Option Addr) (w : World) (K : Bool → World → Prop) : Prop :=
  Calls PG 76 #[(.pointer d)] w fun e w' => ∃ r0 : Bool, e = .returned (.bool r0) ∧ K r0 w'

/-- (*phosphor/inflate.Decoder).Used -/
def c_inflate_Decoder_Used (d : Option Addr) (w : World) (K : Int → World → Prop) : Prop :=
  Calls PG 77 #[(.pointer d)] w fun e w' => ∃ r0 : Int, e = .returned (.int .i64 r0) ∧ K r0 w'

/-- maps.Clone[map[int]phosphor/store.image,int,phosphor/store.image] -/
def c_maps_Clone_map_int_store_image_int_store_image (m : Option Nat) (w : World) (K : Option Nat → World → Prop) : Prop :=
  Calls PG 78 #[(.map m)] w fun e w' => ∃ r0 : Option Nat, e = .returned (.map r0) ∧ K r0 w'

/-- phosphor/phosphorref7.Right -/
def c_phosphorref7_Right (m : T_phosphorref7_Matrix) (w : World) (K : Bool → World → Prop) : Prop :=
  Calls PG 79 #[(.agg #[(.int .i64 m.W), (.int .i64 m.H), (.slice m.P.a m.P.n m.P.c)])] w fun e w' => ∃ r0 : Bool, e = .returned (.bool r0) ∧ K r0 w'

/-- (*phosphor/phosphorref21.Store).room -/
def c_phosphorref21_Store_room (s : Option Addr) (n : Int) (w : World) (K : Slc → World → Prop) : Prop :=
  Calls PG 80 #[(.pointer s), (.int .i64 n)] w fun e w' => ∃ r0 : Slc, e = .returned (.slice r0.a r0.n r0.c) ∧ K r0 w'

/-- (*phosphor/phosphorref21.Store).at -/
def c_phosphorref21_Store_at (s : Option Addr) (id : Int) (w : World) (K : Int → World → Prop) : Prop :=
  Calls PG 81 #[(.pointer s), (.int .i64 id)] w fun e w' => ∃ r0 : Int, e = .returned (.int .i64 r0) ∧ K r0 w'

/-- phosphor/phosphorref7.Twin -/
def c_phosphorref7_Twin (m : T_phosphorref7_Matrix) (w : World) (K : T_phosphorref7_Matrix → World → Prop) : Prop :=
  Calls PG 82 #[(.agg #[(.int .i64 m.W), (.int .i64 m.H), (.slice m.P.a m.P.n m.P.c)])] w fun e w' => ∃ r0 : T_phosphorref7_Matrix, e = .returned (.agg #[(.int .i64 r0.W), (.int .i64 r0.H), (.slice r0.P.a r0.P.n r0.P.c)]) ∧ K r0 w'

/-- (*phosphor/phosphorref21.Store).Get -/
def c_phosphorref21_Store_Get (s : Option Addr) (id : Int) (w : World) (K : T_phosphorref7_Matrix → Bool → World → Prop) : Prop :=
  Calls PG 83 #[(.pointer s), (.int .i64 id)] w fun e w' => ∃ r0 : T_phosphorref7_Matrix, ∃ r1 : Bool, e = .returned (.tuple #[(.agg #[(.int .i64 r0.W), (.int .i64 r0.H), (.slice r0.P.a r0.P.n r0.P.c)]), (.bool r1)]) ∧ K r0 r1 w'

/-- (*phosphor/phosphorref21.Store).Number -/
def c_phosphorref21_Store_Number (s : Option Addr) (n : Int) (w : World) (K : Int → Bool → World → Prop) : Prop :=
  Calls PG 84 #[(.pointer s), (.int .i64 n)] w fun e w' => ∃ r0 : Int, ∃ r1 : Bool, e = .returned (.tuple #[(.int .i64 r0), (.bool r1)]) ∧ K r0 r1 w'

/-- (*phosphor/phosphorref21.Store).Stamp -/
def c_phosphorref21_Store_Stamp (s : Option Addr) (id : Int) (w : World) (K : Int → Bool → World → Prop) : Prop :=
  Calls PG 85 #[(.pointer s), (.int .i64 id)] w fun e w' => ∃ r0 : Int, ∃ r1 : Bool, e = .returned (.tuple #[(.int .i64 r0), (.bool r1)]) ∧ K r0 r1 w'

/-- phosphor/phosphorlaw7.Alike -/
def c_phosphorlaw7_Alike (a : T_api_Matrix) (b : T_phosphorref7_Matrix) (w : World) (K : Bool → World → Prop) : Prop :=
  Calls PG 86 #[(.agg #[(.int .i64 a.W), (.int .i64 a.H), (.slice a.P.a a.P.n a.P.c)]), (.agg #[(.int .i64 b.W), (.int .i64 b.H), (.slice b.P.a b.P.n b.P.c)])] w fun e w' => ∃ r0 : Bool, e = .returned (.bool r0) ∧ K r0 w'

/-- (*phosphor/phosphorref21.Store).Ids -/
def c_phosphorref21_Store_Ids (s : Option Addr) (w : World) (K : Slc → World → Prop) : Prop :=
  Calls PG 87 #[(.pointer s)] w fun e w' => ∃ r0 : Slc, e = .returned (.slice r0.a r0.n r0.c) ∧ K r0 w'

/-- (*phosphor/phosphorref21.Store).Used -/
def c_phosphorref21_Store_Used (s : Option Addr) (w : World) (K : Int → World → Prop) : Prop :=
  Calls PG 88 #[(.pointer s)] w fun e w' => ∃ r0 : Int, e = .returned (.int .i64 r0) ∧ K r0 w'

/-- (*phosphor/zlib.Decoder).Used -/
def c_zlib_Decoder_Used (d : Option Addr) (w : World) (K : Int → World → Prop) : Prop :=
  Calls PG 89 #[(.pointer d)] w fun e w' => ∃ r0 : Int, e = .returned (.int .i64 r0) ∧ K r0 w'

/-- phosphor/sums.Of[*phosphor/sums.Adler] -/
def c_sums_Of_sums_Adler (s : Option Addr) (parts : Slc) (w : World) (K : Int → World → Prop) : Prop :=
  Calls PG 90 #[(.pointer s), (.slice parts.a parts.n parts.c)] w fun e w' => ∃ r0 : Int, e = .returned (.int .u32 r0) ∧ K r0 w'

/-- phosphor/sums.NewAdler -/
def c_sums_NewAdler  (w : World) (K : Option Addr → World → Prop) : Prop :=
  Calls PG 91 #[] w fun e w' => ∃ r0 : Option Addr, e = .returned (.pointer r0) ∧ K r0 w'

/-- slices.Concat[[]byte,byte] -/
def c_slices_Concat_byte_byte (slices : Slc) (w : World) (K : Slc → World → Prop) : Prop :=
  Calls PG 92 #[(.slice slices.a slices.n slices.c)] w fun e w' => ∃ r0 : Slc, e = .returned (.slice r0.a r0.n r0.c) ∧ K r0 w'

/-- phosphor/phosphorref2.Adler -/
def c_phosphorref2_Adler (b : Slc) (w : World) (K : Int → World → Prop) : Prop :=
  Calls PG 93 #[(.slice b.a b.n b.c)] w fun e w' => ∃ r0 : Int, e = .returned (.int .u32 r0) ∧ K r0 w'

/-- phosphor/phosphorref5.Front -/
def c_phosphorref5_Front (b : Slc) (most : Int) (w : World) (K : Slc → Int → Int → World → Prop) : Prop :=
  Calls PG 94 #[(.slice b.a b.n b.c), (.int .i64 most)] w fun e w' => ∃ r0 : Slc, ∃ r1 : Int, ∃ r2 : Int, e = .returned (.tuple #[(.slice r0.a r0.n r0.c), (.int .i64 r1), (.int .i64 r2)]) ∧ K r0 r1 r2 w'

/-- (*phosphor/zlib.Decoder).begin -/
def c_zlib_Decoder_begin (d : Option Addr) (c : Int) (w : World) (K : Bool → World → Prop) : Prop :=
  Calls PG 95 #[(.pointer d), (.int .u8 c)] w fun e w' => ∃ r0 : Bool, e = .returned (.bool r0) ∧ K r0 w'

/-- (*phosphor/zlib.Decoder).fail -/
def c_zlib_Decoder_fail (d : Option Addr) (e : Int) (w : World) (K : Int → World → Prop) : Prop :=
  Calls PG 96 #[(.pointer d), (.int .i64 e)] w fun e w' => ∃ r0 : Int, e = .returned (.int .i64 r0) ∧ K r0 w'

/-- (*phosphor/inflate.Decoder).Given -/
def c_inflate_Decoder_Given (d : Option Addr) (w : World) (K : Int → World → Prop) : Prop :=
  Calls PG 97 #[(.pointer d)] w fun e w' => ∃ r0 : Int, e = .returned (.int .i64 r0) ∧ K r0 w'

/-- phosphor/bits.Big -/
def c_bits_Big (b : Slc) (w : World) (K : Int → World → Prop) : Prop :=
  Calls PG 98 #[(.slice b.a b.n b.c)] w fun e w' => ∃ r0 : Int, e = .returned (.int .u32 r0) ∧ K r0 w'

/-- (*phosphor/inflate.Decoder).Room -/
def c_inflate_Decoder_Room (d : Option Addr) (w : World) (K : Int → World → Prop) : Prop :=
  Calls PG 99 #[(.pointer d)] w fun e w' => ∃ r0 : Int, e = .returned (.int .i64 r0) ∧ K r0 w'

/-- phosphor/pixel.size -/
def c_pixel_size (wx : Int) (hx : Int) (w : World) (K : Bool → World → Prop) : Prop :=
  Calls PG 100 #[(.int .i64 wx), (.int .i64 hx)] w fun e w' => ∃ r0 : Bool, e = .returned (.bool r0) ∧ K r0 w'

/-- (*phosphor/store.Store).room$1 -/
def c_store_Store_room_1 (a : Int) (b : Int) (c0 : Addr) (w : World) (K : Int → World → Prop) : Prop :=
  Calls PG 101 #[(.int .i64 a), (.int .i64 b), (.pointer (some c0))] w fun e w' => ∃ r0 : Int, e = .returned (.int .i64 r0) ∧ K r0 w'

/-- cmp.Compare[int64] -/
def c_cmp_Compare_int64 (x : Int) (y : Int) (w : World) (K : Int → World → Prop) : Prop :=
  Calls PG 102 #[(.int .i64 x), (.int .i64 y)] w fun e w' => ∃ r0 : Int, e = .returned (.int .i64 r0) ∧ K r0 w'

/-- slices.MinFunc[[]int,int] -/
def c_slices_MinFunc_int_int (x : Slc) (cmp : Value) (w : World) (K : Int → World → Prop) : Prop :=
  Calls PG 103 #[(.slice x.a x.n x.c), cmp] w fun e w' => ∃ r0 : Int, e = .returned (.int .i64 r0) ∧ K r0 w'

/-- slices.Collect[int] -/
def c_slices_Collect_int (seq : Value) (w : World) (K : Slc → World → Prop) : Prop :=
  Calls PG 104 #[seq] w fun e w' => ∃ r0 : Slc, e = .returned (.slice r0.a r0.n r0.c) ∧ K r0 w'

/-- slices.Sort[[]int,int] -/
def c_slices_Sort_int_int (x : Slc) (w : World) (K : World → Prop) : Prop :=
  Calls PG 105 #[(.slice x.a x.n x.c)] w fun e w' => e = .returned (.tuple #[]) ∧ K w'

/-- maps.Keys[map[int]phosphor/store.image,int,phosphor/store.image]$1 -/
def c_maps_Keys_map_int_store_image_int_store_image_1 (yield : Value) (c0 : Addr) (w : World) (K : World → Prop) : Prop :=
  Calls PG 106 #[yield, (.pointer (some c0))] w fun e w' => e = .returned (.tuple #[]) ∧ K w'

/-- phosphor/huff.room -/
def c_huff_room (lengths : Slc) (w : World) (K : Int → World → Prop) : Prop :=
  Calls PG 107 #[(.slice lengths.a lengths.n lengths.c)] w fun e w' => ∃ r0 : Int, e = .returned (.int .i64 r0) ∧ K r0 w'

/-- (*phosphor/huff.Table).deal -/
def c_huff_Table_deal (t : Option Addr) (w : World) (K : World → Prop) : Prop :=
  Calls PG 108 #[(.pointer t)] w fun e w' => e = .returned (.tuple #[]) ∧ K w'

/-- phosphor/phosphorref4.Complete -/
def c_phosphorref4_Complete (l : Slc) (w : World) (K : Int → World → Prop) : Prop :=
  Calls PG 109 #[(.slice l.a l.n l.c)] w fun e w' => ∃ r0 : Int, e = .returned (.int .i64 r0) ∧ K r0 w'

/-- phosphor/phosphorref1.Reverse -/
def c_phosphorref1_Reverse (v : Int) (n : Int) (w : World) (K : Int → World → Prop) : Prop :=
  Calls PG 110 #[(.int .u32 v), (.int .i64 n)] w fun e w' => ∃ r0 : Int, e = .returned (.int .u32 r0) ∧ K r0 w'

/-- phosphor/bits.NewReader -/
def c_bits_NewReader (b : Slc) (w : World) (K : Option Addr → World → Prop) : Prop :=
  Calls PG 111 #[(.slice b.a b.n b.c)] w fun e w' => ∃ r0 : Option Addr, e = .returned (.pointer r0) ∧ K r0 w'

/-- (*phosphor/bits.Reader).Bits -/
def c_bits_Reader_Bits (r : Option Addr) (n : Int) (w : World) (K : Int → Bool → World → Prop) : Prop :=
  Calls PG 112 #[(.pointer r), (.int .i64 n)] w fun e w' => ∃ r0 : Int, ∃ r1 : Bool, e = .returned (.tuple #[(.int .u32 r0), (.bool r1)]) ∧ K r0 r1 w'

/-- (*phosphor/bits.Reader).At -/
def c_bits_Reader_At (r : Option Addr) (w : World) (K : Int → World → Prop) : Prop :=
  Calls PG 113 #[(.pointer r)] w fun e w' => ∃ r0 : Int, e = .returned (.int .i64 r0) ∧ K r0 w'

/-- (*phosphor/inflate.Decoder).step -/
def c_inflate_Decoder_step (d : Option Addr) (r : Option Addr) (w : World) (K : Int → World → Prop) : Prop :=
  Calls PG 114 #[(.pointer d), (.pointer r)] w fun e w' => ∃ r0 : Int, e = .returned (.int .i64 r0) ∧ K r0 w'

/-- (*phosphor/bits.Reader).Back -/
def c_bits_Reader_Back (r : Option Addr) (at_ : Int) (w : World) (K : World → Prop) : Prop :=
  Calls PG 115 #[(.pointer r), (.int .i64 at_)] w fun e w' => e = .returned (.tuple #[]) ∧ K w'

/-- phosphor/phosphorref7.size -/
def c_phosphorref7_size (wx : Int) (hx : Int) (w : World) (K : Bool → World → Prop) : Prop :=
  Calls PG 117 #[(.int .i64 wx), (.int .i64 hx)] w fun e w' => ∃ r0 : Bool, e = .returned (.bool r0) ∧ K r0 w'

/-- phosphor/phosphorref7.Same -/
def c_phosphorref7_Same (a : T_phosphorref7_Matrix) (b : T_phosphorref7_Matrix) (w : World) (K : Bool → World → Prop) : Prop :=
  Calls PG 118 #[(.agg #[(.int .i64 a.W), (.int .i64 a.H), (.slice a.P.a a.P.n a.P.c)]), (.agg #[(.int .i64 b.W), (.int .i64 b.H), (.slice b.P.a b.P.n b.P.c)])] w fun e w' => ∃ r0 : Bool, e = .returned (.bool r0) ∧ K r0 w'

/-- slices.Grow[[]byte,byte] -/
def c_slices_Grow_byte_byte (s : Slc) (n : Int) (w : World) (K : Slc → World → Prop) : Prop :=
  Calls PG 119 #[(.slice s.a s.n s.c), (.int .i64 n)] w fun e w' => ∃ r0 : Slc, e = .returned (.slice r0.a r0.n r0.c) ∧ K r0 w'

/-- (*phosphor/phosphorref5.state).block -/
def c_phosphorref5_state_block (s : Option Addr) (w : World) (K : Bool → Int → World → Prop) : Prop :=
  Calls PG 120 #[(.pointer s)] w fun e w' => ∃ r0 : Bool, ∃ r1 : Int, e = .returned (.tuple #[(.bool r0), (.int .i64 r1)]) ∧ K r0 r1 w'

/-- cmp.isNaN[int64] -/
def c_cmp_isNaN_int64 (x : Int) (w : World) (K : Bool → World → Prop) : Prop :=
  Calls PG 121 #[(.int .i64 x)] w fun e w' => ∃ r0 : Bool, e = .returned (.bool r0) ∧ K r0 w'

/-- slices.AppendSeq[[]int,int] -/
def c_slices_AppendSeq_int_int (s : Slc) (seq : Value) (w : World) (K : Slc → World → Prop) : Prop :=
  Calls PG 122 #[(.slice s.a s.n s.c), seq] w fun e w' => ∃ r0 : Slc, e = .returned (.slice r0.a r0.n r0.c) ∧ K r0 w'

/-- slices.pdqsortOrdered[int] -/
def c_slices_pdqsortOrdered_int (data : Slc) (a : Int) (b : Int) (limit : Int) (w : World) (K : World → Prop) : Prop :=
  Calls PG 123 #[(.slice data.a data.n data.c), (.int .i64 a), (.int .i64 b), (.int .i64 limit)] w fun e w' => e = .returned (.tuple #[]) ∧ K w'

/-- math/bits.Len -/
def c_math_bits_Len (x : Int) (w : World) (K : Int → World → Prop) : Prop :=
  Calls PG 124 #[(.int .u64 x)] w fun e w' => ∃ r0 : Int, e = .returned (.int .i64 r0) ∧ K r0 w'

/-- phosphor/bits.Reverse -/
def c_bits_Reverse (v : Int) (n : Int) (w : World) (K : Int → World → Prop) : Prop :=
  Calls PG 125 #[(.int .u32 v), (.int .i64 n)] w fun e w' => ∃ r0 : Int, e = .returned (.int .u32 r0) ∧ K r0 w'

/-- (*phosphor/bits.Reader).Peek -/
def c_bits_Reader_Peek (r : Option Addr) (n : Int) (w : World) (K : Int → Bool → World → Prop) : Prop :=
  Calls PG 126 #[(.pointer r), (.int .i64 n)] w fun e w' => ∃ r0 : Int, ∃ r1 : Bool, e = .returned (.tuple #[(.int .u32 r0), (.bool r1)]) ∧ K r0 r1 w'

/-- (*phosphor/inflate.Decoder).head -/
def c_inflate_Decoder_head (d : Option Addr) (r : Option Addr) (w : World) (K : Int → World → Prop) : Prop :=
  Calls PG 127 #[(.pointer d), (.pointer r)] w fun e w' => ∃ r0 : Int, e = .returned (.int .i64 r0) ∧ K r0 w'

/-- (*phosphor/inflate.Decoder).stored -/
def c_inflate_Decoder_stored (d : Option Addr) (r : Option Addr) (w : World) (K : Int → World → Prop) : Prop :=
  Calls PG 128 #[(.pointer d), (.pointer r)] w fun e w' => ∃ r0 : Int, e = .returned (.int .i64 r0) ∧ K r0 w'

/-- (*phosphor/inflate.Decoder).bytes -/
def c_inflate_Decoder_bytes (d : Option Addr) (r : Option Addr) (w : World) (K : Int → World → Prop) : Prop :=
  Calls PG 129 #[(.pointer d), (.pointer r)] w fun e w' => ∃ r0 : Int, e = .returned (.int .i64 r0) ∧ K r0 w'

/-- (*phosphor/inflate.Decoder).dynamic -/
def c_inflate_Decoder_dynamic (d : Option Addr) (r : Option Addr) (w : World) (K : Int → World → Prop) : Prop :=
  Calls PG 130 #[(.pointer d), (.pointer r)] w fun e w' => ∃ r0 : Int, e = .returned (.int .i64 r0) ∧ K r0 w'

/-- (*phosphor/inflate.Decoder).code -/
def c_inflate_Decoder_code (d : Option Addr) (r : Option Addr) (w : World) (K : Int → World → Prop) : Prop :=
  Calls PG 131 #[(.pointer d), (.pointer r)] w fun e w' => ∃ r0 : Int, e = .returned (.int .i64 r0) ∧ K r0 w'

/-- (*phosphor/phosphorref1.Reader).Bits -/
def c_phosphorref1_Reader_Bits (r : Option Addr) (n : Int) (w : World) (K : Int → Bool → World → Prop) : Prop :=
  Calls PG 132 #[(.pointer r), (.int .i64 n)] w fun e w' => ∃ r0 : Int, ∃ r1 : Bool, e = .returned (.tuple #[(.int .u32 r0), (.bool r1)]) ∧ K r0 r1 w'

/-- (*phosphor/phosphorref5.state).stored -/
def c_phosphorref5_state_stored (s : Option Addr) (w : World) (K : Int → World → Prop) : Prop :=
  Calls PG 133 #[(.pointer s)] w fun e w' => ∃ r0 : Int, e = .returned (.int .i64 r0) ∧ K r0 w'

/-- (*phosphor/phosphorref5.state).codes -/
def c_phosphorref5_state_codes (s : Option Addr) (l : Option Addr) (d : Option Addr) (w : World) (K : Int → World → Prop) : Prop :=
  Calls PG 134 #[(.pointer s), (.pointer l), (.pointer d)] w fun e w' => ∃ r0 : Int, e = .returned (.int .i64 r0) ∧ K r0 w'

/-- (*phosphor/phosphorref5.state).dynamic -/
def c_phosphorref5_state_dynamic (s : Option Addr) (w : World) (K : Int → World → Prop) : Prop :=
  Calls PG 135 #[(.pointer s)] w fun e w' => ∃ r0 : Int, e = .returned (.int .i64 r0) ∧ K r0 w'

/-- slices.insertionSortOrdered[int] -/
def c_slices_insertionSortOrdered_int (data : Slc) (a : Int) (b : Int) (w : World) (K : World → Prop) : Prop :=
  Calls PG 136 #[(.slice data.a data.n data.c), (.int .i64 a), (.int .i64 b)] w fun e w' => e = .returned (.tuple #[]) ∧ K w'

/-- slices.reverseRangeOrdered[int] -/
def c_slices_reverseRangeOrdered_int (data : Slc) (a : Int) (b : Int) (w : World) (K : World → Prop) : Prop :=
  Calls PG 140 #[(.slice data.a data.n data.c), (.int .i64 a), (.int .i64 b)] w fun e w' => e = .returned (.tuple #[]) ∧ K w'

/-- cmp.Less[int] -/
def c_cmp_Less_int (x : Int) (y : Int) (w : World) (K : Bool → World → Prop) : Prop :=
  Calls PG 142 #[(.int .i64 x), (.int .i64 y)] w fun e w' => ∃ r0 : Bool, e = .returned (.bool r0) ∧ K r0 w'

/-- math/bits.Len32 -/
def c_math_bits_Len32 (x : Int) (w : World) (K : Int → World → Prop) : Prop :=
  Calls PG 145 #[(.int .u32 x)] w fun e w' => ∃ r0 : Int, e = .returned (.int .i64 r0) ∧ K r0 w'

/-- math/bits.Len64 -/
def c_math_bits_Len64 (x : Int) (w : World) (K : Int → World → Prop) : Prop :=
  Calls PG 146 #[(.int .u64 x)] w fun e w' => ∃ r0 : Int, e = .returned (.int .i64 r0) ∧ K r0 w'

/-- (*phosphor/bits.Reader).Left -/
def c_bits_Reader_Left (r : Option Addr) (w : World) (K : Int → World → Prop) : Prop :=
  Calls PG 147 #[(.pointer r)] w fun e w' => ∃ r0 : Int, e = .returned (.int .i64 r0) ∧ K r0 w'

/-- (*phosphor/bits.Reader).Align -/
def c_bits_Reader_Align (r : Option Addr) (w : World) (K : Int → World → Prop) : Prop :=
  Calls PG 148 #[(.pointer r)] w fun e w' => ∃ r0 : Int, e = .returned (.int .i64 r0) ∧ K r0 w'

/-- (*phosphor/inflate.Decoder).take -/
def c_inflate_Decoder_take (d : Option Addr) (r : Option Addr) (w : World) (K : World → Prop) : Prop :=
  Calls PG 149 #[(.pointer d), (.pointer r)] w fun e w' => e = .returned (.tuple #[]) ∧ K w'

/-- (*phosphor/inflate.Decoder).put -/
def c_inflate_Decoder_put (d : Option Addr) (c : Int) (w : World) (K : Int → World → Prop) : Prop :=
  Calls PG 150 #[(.pointer d), (.int .u8 c)] w fun e w' => ∃ r0 : Int, e = .returned (.int .i64 r0) ∧ K r0 w'

/-- (*phosphor/inflate.Decoder).next -/
def c_inflate_Decoder_next (d : Option Addr) (w : World) (K : World → Prop) : Prop :=
  Calls PG 151 #[(.pointer d)] w fun e w' => e = .returned (.tuple #[]) ∧ K w'

/-- phosphor/inflate.read -/
def c_inflate_read (r : Option Addr) (t : Option Addr) (n : Int) (w : World) (K : Slc → Int → World → Prop) : Prop :=
  Calls PG 152 #[(.pointer r), (.pointer t), (.int .i64 n)] w fun e w' => ∃ r0 : Slc, ∃ r1 : Int, e = .returned (.tuple #[(.slice r0.a r0.n r0.c), (.int .i64 r1)]) ∧ K r0 r1 w'

/-- (*phosphor/huff.Table).Read -/
def c_huff_Table_Read (t : Option Addr) (r : Option Addr) (w : World) (K : Int → Int → World → Prop) : Prop :=
  Calls PG 153 #[(.pointer t), (.pointer r)] w fun e w' => ∃ r0 : Int, ∃ r1 : Int, e = .returned (.tuple #[(.int .i64 r0), (.int .i64 r1)]) ∧ K r0 r1 w'

/-- phosphor/inflate.length -/
def c_inflate_length (sign : Int) (w : World) (K : Int → Int → World → Prop) : Prop :=
  Calls PG 154 #[(.int .i64 sign)] w fun e w' => ∃ r0 : Int, ∃ r1 : Int, e = .returned (.tuple #[(.int .i64 r0), (.int .i64 r1)]) ∧ K r0 r1 w'

/-- phosphor/inflate.distance -/
def c_inflate_distance (sign : Int) (w : World) (K : Int → Int → World → Prop) : Prop :=
  Calls PG 155 #[(.int .i64 sign)] w fun e w' => ∃ r0 : Int, ∃ r1 : Int, e = .returned (.tuple #[(.int .i64 r0), (.int .i64 r1)]) ∧ K r0 r1 w'

/-- (*phosphor/phosphorref1.Reader).Peek -/
def c_phosphorref1_Reader_Peek (r : Option Addr) (n : Int) (w : World) (K : Int → Bool → World → Prop) : Prop :=
  Calls PG 156 #[(.pointer r), (.int .i64 n)] w fun e w' => ∃ r0 : Int, ∃ r1 : Bool, e = .returned (.tuple #[(.int .u32 r0), (.bool r1)]) ∧ K r0 r1 w'

/-- (*phosphor/phosphorref1.Reader).Align -/
def c_phosphorref1_Reader_Align (r : Option Addr) (w : World) (K : Int → World → Prop) : Prop :=
  Calls PG 157 #[(.pointer r)] w fun e w' => ∃ r0 : Int, e = .returned (.int .i64 r0) ∧ K r0 w'

/-- (*phosphor/phosphorref4.Table).Read -/
def c_phosphorref4_Table_Read (t : Option Addr) (r : Option Addr) (w : World) (K : Int → Int → World → Prop) : Prop :=
  Calls PG 158 #[(.pointer t), (.pointer r)] w fun e w' => ∃ r0 : Int, ∃ r1 : Int, e = .returned (.tuple #[(.int .i64 r0), (.int .i64 r1)]) ∧ K r0 r1 w'

/-- (*phosphor/phosphorref5.state).copied -/
def c_phosphorref5_state_copied (s : Option Addr) (sym : Int) (d : Option Addr) (w : World) (K : Int → World → Prop) : Prop :=
  Calls PG 159 #[(.pointer s), (.int .i64 sym), (.pointer d)] w fun e w' => ∃ r0 : Int, e = .returned (.int .i64 r0) ∧ K r0 w'

/-- (*phosphor/phosphorref5.state).lengths -/
def c_phosphorref5_state_lengths (s : Option Addr) (t : Option Addr) (n : Int) (w : World) (K : Slc → Int → World → Prop) : Prop :=
  Calls PG 160 #[(.pointer s), (.pointer t), (.int .i64 n)] w fun e w' => ∃ r0 : Slc, ∃ r1 : Int, e = .returned (.tuple #[(.slice r0.a r0.n r0.c), (.int .i64 r1)]) ∧ K r0 r1 w'

/-- slices.siftDownOrdered[int] -/
def c_slices_siftDownOrdered_int (data : Slc) (lo : Int) (hi : Int) (first : Int) (w : World) (K : World → Prop) : Prop :=
  Calls PG 161 #[(.slice data.a data.n data.c), (.int .i64 lo), (.int .i64 hi), (.int .i64 first)] w fun e w' => e = .returned (.tuple #[]) ∧ K w'

/-- slices.nextPowerOfTwo -/
def c_slices_nextPowerOfTwo (length : Int) (w : World) (K : Int → World → Prop) : Prop :=
  Calls PG 162 #[(.int .i64 length)] w fun e w' => ∃ r0 : Int, e = .returned (.int .u64 r0) ∧ K r0 w'

/-- (*slices.xorshift).Next -/
def c_slices_xorshift_Next (r : Option Addr) (w : World) (K : Int → World → Prop) : Prop :=
  Calls PG 163 #[(.pointer r)] w fun e w' => ∃ r0 : Int, e = .returned (.int .u64 r0) ∧ K r0 w'

/-- slices.medianAdjacentOrdered[int] -/
def c_slices_medianAdjacentOrdered_int (data : Slc) (a : Int) (swaps : Option Addr) (w : World) (K : Int → World → Prop) : Prop :=
  Calls PG 164 #[(.slice data.a data.n data.c), (.int .i64 a), (.pointer swaps)] w fun e w' => ∃ r0 : Int, e = .returned (.int .i64 r0) ∧ K r0 w'

/-- slices.medianOrdered[int] -/
def c_slices_medianOrdered_int (data : Slc) (a : Int) (b : Int) (c : Int) (swaps : Option Addr) (w : World) (K : Int → World → Prop) : Prop :=
  Calls PG 165 #[(.slice data.a data.n data.c), (.int .i64 a), (.int .i64 b), (.int .i64 c), (.pointer swaps)] w fun e w' => ∃ r0 : Int, e = .returned (.int .i64 r0) ∧ K r0 w'

/-- cmp.isNaN[int] -/
def c_cmp_isNaN_int (x : Int) (w : World) (K : Bool → World → Prop) : Prop :=
  Calls PG 166 #[(.int .i64 x)] w fun e w' => ∃ r0 : Bool, e = .returned (.bool r0) ∧ K r0 w'

/-- (*phosphor/phosphorref1.Reader).Left -/
def c_phosphorref1_Reader_Left (r : Option Addr) (w : World) (K : Int → World → Prop) : Prop :=
  Calls PG 167 #[(.pointer r)] w fun e w' => ∃ r0 : Int, e = .returned (.int .i64 r0) ∧ K r0 w'

/-- (*phosphor/phosphorref1.Reader).bit -/
def c_phosphorref1_Reader_bit (r : Option Addr) (at_ : Int) (w : World) (K : Int → World → Prop) : Prop :=
  Calls PG 168 #[(.pointer r), (.int .i64 at_)] w fun e w' => ∃ r0 : Int, e = .returned (.int .u32 r0) ∧ K r0 w'

/-- (*phosphor/phosphorref4.Table).begins -/
def c_phosphorref4_Table_begins (t : Option Addr) (code : Int) (n : Int) (w : World) (K : Bool → World → Prop) : Prop :=
  Calls PG 169 #[(.pointer t), (.int .u32 code), (.int .i64 n)] w fun e w' => ∃ r0 : Bool, e = .returned (.bool r0) ∧ K r0 w'

/-- phosphor/phosphorref5.length -/
def c_phosphorref5_length (s : Int) (w : World) (K : Int → Int → World → Prop) : Prop :=
  Calls PG 170 #[(.int .i64 s)] w fun e w' => ∃ r0 : Int, ∃ r1 : Int, e = .returned (.tuple #[(.int .i64 r0), (.int .i64 r1)]) ∧ K r0 r1 w'

/-- phosphor/phosphorref5.distance -/
def c_phosphorref5_distance (s : Int) (w : World) (K : Int → Int → World → Prop) : Prop :=
  Calls PG 171 #[(.int .i64 s)] w fun e w' => ∃ r0 : Int, ∃ r1 : Int, e = .returned (.tuple #[(.int .i64 r0), (.int .i64 r1)]) ∧ K r0 r1 w'

/-- slices.order2Ordered[int] -/
def c_slices_order2Ordered_int (data : Slc) (a : Int) (b : Int) (swaps : Option Addr) (w : World) (K : Int → Int → World → Prop) : Prop :=
  Calls PG 172 #[(.slice data.a data.n data.c), (.int .i64 a), (.int .i64 b), (.pointer swaps)] w fun e w' => ∃ r0 : Int, ∃ r1 : Int, e = .returned (.tuple #[(.int .i64 r0), (.int .i64 r1)]) ∧ K r0 r1 w'

/-- (*phosphor/sums.Adler).Sum -/
def c_sums_Adler_Sum (a : Option Addr) (w : World) (K : Int → World → Prop) : Prop :=
  Calls PG 193 #[(.pointer a)] w fun e w' => ∃ r0 : Int, e = .returned (.int .u32 r0) ∧ K r0 w'

/-- (*phosphor/sums.Adler).Write -/
def c_sums_Adler_Write (a : Option Addr) (b : Slc) (w : World) (K : Int → Value → World → Prop) : Prop :=
  Calls PG 194 #[(.pointer a), (.slice b.a b.n b.c)] w fun e w' => ∃ r0 : Int, ∃ r1 : Value, e = .returned (.tuple #[(.int .i64 r0), r1]) ∧ K r0 r1 w'

end Go.Proofs.Yteffnkpplhcomaa
