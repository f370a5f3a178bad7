/- By program (gen.py): the typed text of the program's functions, for Vc. Types of structs; what a call of each function comes to. -/
import Derived.Test.YtpadlibcalomnaaDoorVc
import Derived.Test.YtpadlibcalomnaaDoorChecked
import Derived.KernelRfl
set_option maxRecDepth 100000
set_option linter.unusedVariables false
namespace Go.Proofs.YtpadlibcalomnaaDoor
open Go.Vc

structure T_keys_Keys where
  Action : Int
  Medium : Int
  Zip : Int
  What : Int
  Quiet : Int
  Format : Int
  W : Int
  H : Int
  Id : Int
  Number : Int
  Place : Int
  More : Int
  X : Int
  Y : Int
  PW : Int
  PH : Int
  DX : Int
  DY : Int
  Rows : Int
  Cols : Int
  Z : Int
  Stay : Int

def T_keys_Keys.rep : Rep where
  T := T_keys_Keys
  cells x := [(.int .u8 x.Action), (.int .u8 x.Medium), (.int .u8 x.Zip), (.int .u8 x.What), (.int .i64 x.Quiet), (.int .i64 x.Format), (.int .i64 x.W), (.int .i64 x.H), (.int .i64 x.Id), (.int .i64 x.Number), (.int .i64 x.Place), (.int .i64 x.More), (.int .i64 x.X), (.int .i64 x.Y), (.int .i64 x.PW), (.int .i64 x.PH), (.int .i64 x.DX), (.int .i64 x.DY), (.int .i64 x.Rows), (.int .i64 x.Cols), (.int .i64 x.Z), (.int .i64 x.Stay)]
  get l := match l with
    | [.int .u8 v1, .int .u8 v2, .int .u8 v3, .int .u8 v4, .int .i64 v5, .int .i64 v6, .int .i64 v7, .int .i64 v8, .int .i64 v9, .int .i64 v10, .int .i64 v11, .int .i64 v12, .int .i64 v13, .int .i64 v14, .int .i64 v15, .int .i64 v16, .int .i64 v17, .int .i64 v18, .int .i64 v19, .int .i64 v20, .int .i64 v21, .int .i64 v22] => some ⟨v1, v2, v3, v4, v5, v6, v7, v8, v9, v10, v11, v12, v13, v14, v15, v16, v17, v18, v19, v20, v21, v22⟩
    | _ => none
  ok l c h := by
    split at h
    · injection h with h; subst h; rfl
    · cases h

structure T_struct_key_string_n_int where
  key : ByteArray
  n : Int

def T_struct_key_string_n_int.rep : Rep where
  T := T_struct_key_string_n_int
  cells x := [(.string x.key), (.int .i64 x.n)]
  get l := match l with
    | [.string v1, .int .i64 v2] => some ⟨v1, v2⟩
    | _ => none
  ok l c h := by
    split at h
    · injection h with h; subst h; rfl
    · cases h

structure T_strings_Builder where
  addr : Option Addr
  buf : Slc

def T_strings_Builder.rep : Rep where
  T := T_strings_Builder
  cells x := [(.pointer x.addr), (.slice x.buf.a x.buf.n x.buf.c)]
  get l := match l with
    | [.pointer v1, .slice v2a v2n v2c] => some ⟨v1, ⟨v2a, v2n, v2c⟩⟩
    | _ => none
  ok l c h := by
    split at h
    · injection h with h; subst h; rfl
    · cases h

structure T_script_Item where
  Feed : Slc
  Size : Bool
  Rows : Int
  Cols : Int

def T_script_Item.rep : Rep where
  T := T_script_Item
  cells x := [(.slice x.Feed.a x.Feed.n x.Feed.c), (.bool x.Size), (.int .i64 x.Rows), (.int .i64 x.Cols)]
  get l := match l with
    | [.slice v1a v1n v1c, .bool v2, .int .i64 v3, .int .i64 v4] => some ⟨⟨v1a, v1n, v1c⟩, v2, v3, v4⟩
    | _ => none
  ok l c h := by
    split at h
    · injection h with h; subst h; rfl
    · cases h

structure T_utf8_acceptRange where
  lo : Int
  hi : Int

def T_utf8_acceptRange.rep : Rep where
  T := T_utf8_acceptRange
  cells x := [(.int .u8 x.lo), (.int .u8 x.hi)]
  get l := match l with
    | [.int .u8 v1, .int .u8 v2] => some ⟨v1, v2⟩
    | _ => none
  ok l c h := by
    split at h
    · injection h with h; subst h; rfl
    · cases h

structure T_errors_errorString where
  s : ByteArray

def T_errors_errorString.rep : Rep where
  T := T_errors_errorString
  cells x := [(.string x.s)]
  get l := match l with
    | [.string v1] => some ⟨v1⟩
    | _ => none
  ok l c h := by
    split at h
    · injection h with h; subst h; rfl
    · cases h

noncomputable abbrev PG : Program := Tryd.prog

abbrev ty_unit : TypeId := 0
abbrev ty_int : TypeId := 3
abbrev ty_uint8 : TypeId := 5
abbrev ty_string : TypeId := 9
abbrev ty_int32 : TypeId := 21
abbrev ty_keys_Keys : TypeId := 23
abbrev ty_sl_uint8 : TypeId := 25
abbrev ty_phosphorref19_Keys : TypeId := 28
abbrev ty_api_Errno : TypeId := 30
abbrev ty_sl_script_Item : TypeId := 51
abbrev ty_sl_phosphorref26_Item : TypeId := 56
abbrev ty_sl_string : TypeId := 63
abbrev ty_struct_key_string_n_int : TypeId := 64
abbrev ty_p_uint8 : TypeId := 67
abbrev ty_p_int : TypeId := 69
abbrev ty_script_Item : TypeId := 79
abbrev ty_p_strings_Builder : TypeId := 80
abbrev ty_strings_Builder : TypeId := 82
abbrev ty_phosphorref26_Item : TypeId := 96
abbrev ty_unsafe_Pointer : TypeId := 126
abbrev ty_utf8_acceptRange : TypeId := 153
abbrev ty_strconv_Error : TypeId := 156
abbrev ty_p_errors_errorString : TypeId := 171
abbrev ty_errors_errorString : TypeId := 173
abbrev fn_script_Cut_1 : Nat := 51
abbrev fn_strings_splitSeq_1 : Nat := 100
abbrev gl_0 : Nat := 0
abbrev gl_2 : Nat := 2
abbrev gl_3 : Nat := 3
abbrev gl_4 : Nat := 4
abbrev gl_5 : Nat := 5

def reg (t : TypeId) : Option Rep := match t with
  | 23 => some T_keys_Keys.rep
  | 28 => some T_keys_Keys.rep
  | 64 => some T_struct_key_string_n_int.rep
  | 82 => some T_strings_Builder.rep
  | 79 => some T_script_Item.rep
  | 96 => some T_script_Item.rep
  | 153 => some T_utf8_acceptRange.rep
  | 173 => some T_errors_errorString.rep
  | _ => none

def plainL : List Nat := [2, 3, 4, 5, 6, 7, 8, 9, 10, 11, 12, 13, 14, 15, 16, 17, 18, 19, 20, 21, 22, 23, 24, 25, 26, 27, 28, 29, 30, 31, 32, 33, 34, 35, 36, 37, 38, 39, 40, 41, 42, 43, 44, 45, 46, 47, 48, 49, 50, 51, 52, 53, 54, 55, 56, 57, 58, 59, 60, 61, 62, 63, 64, 65, 66, 67, 68, 69, 70, 71, 72, 73, 74, 75, 76, 77, 78, 79, 80, 81, 82, 85, 86, 88, 89, 90, 91, 92, 93, 95, 96, 98, 99, 100, 101, 102, 103, 105, 106, 107, 108, 109, 110, 111, 113, 114, 115, 116, 117, 118, 119, 120, 121, 122, 123, 124, 125, 126, 127, 128, 129, 130, 161]

noncomputable def C : Cx := { P := Tryd.prog, reg := reg, plain := fun n => plainL.elem n }

theorem C.plain_ok (g : Nat) (h : C.plain g = true) : plainFn C.P g = true := by
  have h' : g ∈ plainL := by simpa [C] using h
  have : plainL.all (fun g => plainFn Tryd.prog g) = true := by kernel_rfl
  exact List.all_eq_true.1 this g h'

theorem C.mixed : C.P.follows .mixedOrders = true := by kernel_rfl

/-- phosphor/phosphorlaw19.KeysReplies -/
def c_phosphorlaw19_KeysReplies (k : T_keys_Keys) (word : ByteArray) (e : Int) (w : World) (K : Bool → World → Prop) : Prop :=
  Calls PG 3 #[(.agg #[(.int .u8 k.Action), (.int .u8 k.Medium), (.int .u8 k.Zip), (.int .u8 k.What), (.int .i64 k.Quiet), (.int .i64 k.Format), (.int .i64 k.W), (.int .i64 k.H), (.int .i64 k.Id), (.int .i64 k.Number), (.int .i64 k.Place), (.int .i64 k.More), (.int .i64 k.X), (.int .i64 k.Y), (.int .i64 k.PW), (.int .i64 k.PH), (.int .i64 k.DX), (.int .i64 k.DY), (.int .i64 k.Rows), (.int .i64 k.Cols), (.int .i64 k.Z), (.int .i64 k.Stay)]), (.string word), (.int .i64 e)] w fun e w' => ∃ r0 : Bool, e = .returned (.bool r0) ∧ K r0 w'

/-- phosphor/phosphorlaw19.KeysBack -/
def c_phosphorlaw19_KeysBack (k : T_keys_Keys) (w : World) (K : Bool → World → Prop) : Prop :=
  Calls PG 4 #[(.agg #[(.int .u8 k.Action), (.int .u8 k.Medium), (.int .u8 k.Zip), (.int .u8 k.What), (.int .i64 k.Quiet), (.int .i64 k.Format), (.int .i64 k.W), (.int .i64 k.H), (.int .i64 k.Id), (.int .i64 k.Number), (.int .i64 k.Place), (.int .i64 k.More), (.int .i64 k.X), (.int .i64 k.Y), (.int .i64 k.PW), (.int .i64 k.PH), (.int .i64 k.DX), (.int .i64 k.DY), (.int .i64 k.Rows), (.int .i64 k.Cols), (.int .i64 k.Z), (.int .i64 k.Stay)])] w fun e w' => ∃ r0 : Bool, e = .returned (.bool r0) ∧ K r0 w'

/-- phosphor/phosphorlaw19.KeysLast -/
def c_phosphorlaw19_KeysLast (k : T_keys_Keys) (again : T_keys_Keys) (other : Int) (value : Slc) (w : World) (K : Bool → World → Prop) : Prop :=
  Calls PG 5 #[(.agg #[(.int .u8 k.Action), (.int .u8 k.Medium), (.int .u8 k.Zip), (.int .u8 k.What), (.int .i64 k.Quiet), (.int .i64 k.Format), (.int .i64 k.W), (.int .i64 k.H), (.int .i64 k.Id), (.int .i64 k.Number), (.int .i64 k.Place), (.int .i64 k.More), (.int .i64 k.X), (.int .i64 k.Y), (.int .i64 k.PW), (.int .i64 k.PH), (.int .i64 k.DX), (.int .i64 k.DY), (.int .i64 k.Rows), (.int .i64 k.Cols), (.int .i64 k.Z), (.int .i64 k.Stay)]), (.agg #[(.int .u8 again.Action), (.int .u8 again.Medium), (.int .u8 again.Zip), (.int .u8 again.What), (.int .i64 again.Quiet), (.int .i64 again.Format), (.int .i64 again.W), (.int .i64 again.H), (.int .i64 again.Id), (.int .i64 again.Number), (.int .i64 again.Place), (.int .i64 again.More), (.int .i64 again.X), (.int .i64 again.Y), (.int .i64 again.PW), (.int .i64 again.PH), (.int .i64 again.DX), (.int .i64 again.DY), (.int .i64 again.Rows), (.int .i64 again.Cols), (.int .i64 again.Z), (.int .i64 again.Stay)]), (.int .u8 other), (.slice value.a value.n value.c)] w fun e w' => ∃ r0 : Bool, e = .returned (.bool r0) ∧ K r0 w'

/-- phosphor/phosphorlaw26.ScriptQuotes -/
def c_phosphorlaw26_ScriptQuotes (b : Slc) (s : ByteArray) (w : World) (K : Bool → World → Prop) : Prop :=
  Calls PG 6 #[(.slice b.a b.n b.c), (.string s)] w fun e w' => ∃ r0 : Bool, e = .returned (.bool r0) ∧ K r0 w'

/-- phosphor/phosphorlaw26.ScriptCuts -/
def c_phosphorlaw26_ScriptCuts (sizes : Slc) (l : Slc) (w : World) (K : Bool → World → Prop) : Prop :=
  Calls PG 7 #[(.slice sizes.a sizes.n sizes.c), (.slice l.a l.n l.c)] w fun e w' => ∃ r0 : Bool, e = .returned (.bool r0) ∧ K r0 w'

/-- phosphor/phosphorlaw19.known -/
def c_phosphorlaw19_known  (w : World) (K : Bool → World → Prop) : Prop :=
  Calls PG 8 #[] w fun e w' => ∃ r0 : Bool, e = .returned (.bool r0) ∧ K r0 w'

/-- phosphor/keys.Reply -/
def c_keys_Reply (k : T_keys_Keys) (word : ByteArray) (w : World) (K : Slc → World → Prop) : Prop :=
  Calls PG 9 #[(.agg #[(.int .u8 k.Action), (.int .u8 k.Medium), (.int .u8 k.Zip), (.int .u8 k.What), (.int .i64 k.Quiet), (.int .i64 k.Format), (.int .i64 k.W), (.int .i64 k.H), (.int .i64 k.Id), (.int .i64 k.Number), (.int .i64 k.Place), (.int .i64 k.More), (.int .i64 k.X), (.int .i64 k.Y), (.int .i64 k.PW), (.int .i64 k.PH), (.int .i64 k.DX), (.int .i64 k.DY), (.int .i64 k.Rows), (.int .i64 k.Cols), (.int .i64 k.Z), (.int .i64 k.Stay)]), (.string word)] w fun e w' => ∃ r0 : Slc, e = .returned (.slice r0.a r0.n r0.c) ∧ K r0 w'

/-- phosphor/phosphorref19.Reply -/
def c_phosphorref19_Reply (k : T_keys_Keys) (word : ByteArray) (w : World) (K : ByteArray → World → Prop) : Prop :=
  Calls PG 10 #[(.agg #[(.int .u8 k.Action), (.int .u8 k.Medium), (.int .u8 k.Zip), (.int .u8 k.What), (.int .i64 k.Quiet), (.int .i64 k.Format), (.int .i64 k.W), (.int .i64 k.H), (.int .i64 k.Id), (.int .i64 k.Number), (.int .i64 k.Place), (.int .i64 k.More), (.int .i64 k.X), (.int .i64 k.Y), (.int .i64 k.PW), (.int .i64 k.PH), (.int .i64 k.DX), (.int .i64 k.DY), (.int .i64 k.Rows), (.int .i64 k.Cols), (.int .i64 k.Z), (.int .i64 k.Stay)]), (.string word)] w fun e w' => ∃ r0 : ByteArray, e = .returned (.string r0) ∧ K r0 w'

/-- phosphor/keys.Code -/
def c_keys_Code (e : Int) (w : World) (K : ByteArray → World → Prop) : Prop :=
  Calls PG 11 #[(.int .i64 e)] w fun e w' => ∃ r0 : ByteArray, e = .returned (.string r0) ∧ K r0 w'

/-- phosphor/phosphorref19.Code -/
def c_phosphorref19_Code (e : Int) (w : World) (K : ByteArray → World → Prop) : Prop :=
  Calls PG 12 #[(.int .i64 e)] w fun e w' => ∃ r0 : ByteArray, e = .returned (.string r0) ∧ K r0 w'

/-- phosphor/keys.First -/
def c_keys_First  (w : World) (K : T_keys_Keys → World → Prop) : Prop :=
  Calls PG 13 #[] w fun e w' => ∃ r0 : T_keys_Keys, e = .returned (.agg #[(.int .u8 r0.Action), (.int .u8 r0.Medium), (.int .u8 r0.Zip), (.int .u8 r0.What), (.int .i64 r0.Quiet), (.int .i64 r0.Format), (.int .i64 r0.W), (.int .i64 r0.H), (.int .i64 r0.Id), (.int .i64 r0.Number), (.int .i64 r0.Place), (.int .i64 r0.More), (.int .i64 r0.X), (.int .i64 r0.Y), (.int .i64 r0.PW), (.int .i64 r0.PH), (.int .i64 r0.DX), (.int .i64 r0.DY), (.int .i64 r0.Rows), (.int .i64 r0.Cols), (.int .i64 r0.Z), (.int .i64 r0.Stay)]) ∧ K r0 w'

/-- phosphor/phosphorref19.First -/
def c_phosphorref19_First  (w : World) (K : T_keys_Keys → World → Prop) : Prop :=
  Calls PG 14 #[] w fun e w' => ∃ r0 : T_keys_Keys, e = .returned (.agg #[(.int .u8 r0.Action), (.int .u8 r0.Medium), (.int .u8 r0.Zip), (.int .u8 r0.What), (.int .i64 r0.Quiet), (.int .i64 r0.Format), (.int .i64 r0.W), (.int .i64 r0.H), (.int .i64 r0.Id), (.int .i64 r0.Number), (.int .i64 r0.Place), (.int .i64 r0.More), (.int .i64 r0.X), (.int .i64 r0.Y), (.int .i64 r0.PW), (.int .i64 r0.PH), (.int .i64 r0.DX), (.int .i64 r0.DY), (.int .i64 r0.Rows), (.int .i64 r0.Cols), (.int .i64 r0.Z), (.int .i64 r0.Stay)]) ∧ K r0 w'

/-- phosphor/keys.Text -/
def c_keys_Text (k : T_keys_Keys) (w : World) (K : Slc → World → Prop) : Prop :=
  Calls PG 15 #[(.agg #[(.int .u8 k.Action), (.int .u8 k.Medium), (.int .u8 k.Zip), (.int .u8 k.What), (.int .i64 k.Quiet), (.int .i64 k.Format), (.int .i64 k.W), (.int .i64 k.H), (.int .i64 k.Id), (.int .i64 k.Number), (.int .i64 k.Place), (.int .i64 k.More), (.int .i64 k.X), (.int .i64 k.Y), (.int .i64 k.PW), (.int .i64 k.PH), (.int .i64 k.DX), (.int .i64 k.DY), (.int .i64 k.Rows), (.int .i64 k.Cols), (.int .i64 k.Z), (.int .i64 k.Stay)])] w fun e w' => ∃ r0 : Slc, e = .returned (.slice r0.a r0.n r0.c) ∧ K r0 w'

/-- phosphor/phosphorref19.Text -/
def c_phosphorref19_Text (k : T_keys_Keys) (w : World) (K : ByteArray → World → Prop) : Prop :=
  Calls PG 16 #[(.agg #[(.int .u8 k.Action), (.int .u8 k.Medium), (.int .u8 k.Zip), (.int .u8 k.What), (.int .i64 k.Quiet), (.int .i64 k.Format), (.int .i64 k.W), (.int .i64 k.H), (.int .i64 k.Id), (.int .i64 k.Number), (.int .i64 k.Place), (.int .i64 k.More), (.int .i64 k.X), (.int .i64 k.Y), (.int .i64 k.PW), (.int .i64 k.PH), (.int .i64 k.DX), (.int .i64 k.DY), (.int .i64 k.Rows), (.int .i64 k.Cols), (.int .i64 k.Z), (.int .i64 k.Stay)])] w fun e w' => ∃ r0 : ByteArray, e = .returned (.string r0) ∧ K r0 w'

/-- phosphor/phosphorref19.May -/
def c_phosphorref19_May (k : T_keys_Keys) (w : World) (K : Bool → World → Prop) : Prop :=
  Calls PG 17 #[(.agg #[(.int .u8 k.Action), (.int .u8 k.Medium), (.int .u8 k.Zip), (.int .u8 k.What), (.int .i64 k.Quiet), (.int .i64 k.Format), (.int .i64 k.W), (.int .i64 k.H), (.int .i64 k.Id), (.int .i64 k.Number), (.int .i64 k.Place), (.int .i64 k.More), (.int .i64 k.X), (.int .i64 k.Y), (.int .i64 k.PW), (.int .i64 k.PH), (.int .i64 k.DX), (.int .i64 k.DY), (.int .i64 k.Rows), (.int .i64 k.Cols), (.int .i64 k.Z), (.int .i64 k.Stay)])] w fun e w' => ∃ r0 : Bool, e = .returned (.bool r0) ∧ K r0 w'

/-- phosphor/keys.Parse -/
def c_keys_Parse (b : Slc) (w : World) (K : T_keys_Keys → Int → World → Prop) : Prop :=
  Calls PG 18 #[(.slice b.a b.n b.c)] w fun e w' => ∃ r0 : T_keys_Keys, ∃ r1 : Int, e = .returned (.tuple #[(.agg #[(.int .u8 r0.Action), (.int .u8 r0.Medium), (.int .u8 r0.Zip), (.int .u8 r0.What), (.int .i64 r0.Quiet), (.int .i64 r0.Format), (.int .i64 r0.W), (.int .i64 r0.H), (.int .i64 r0.Id), (.int .i64 r0.Number), (.int .i64 r0.Place), (.int .i64 r0.More), (.int .i64 r0.X), (.int .i64 r0.Y), (.int .i64 r0.PW), (.int .i64 r0.PH), (.int .i64 r0.DX), (.int .i64 r0.DY), (.int .i64 r0.Rows), (.int .i64 r0.Cols), (.int .i64 r0.Z), (.int .i64 r0.Stay)]), (.int .i64 r1)]) ∧ K r0 r1 w'

/-- phosphor/phosphorref19.Parse -/
def c_phosphorref19_Parse (b : Slc) (w : World) (K : T_keys_Keys → Int → World → Prop) : Prop :=
  Calls PG 19 #[(.slice b.a b.n b.c)] w fun e w' => ∃ r0 : T_keys_Keys, ∃ r1 : Int, e = .returned (.tuple #[(.agg #[(.int .u8 r0.Action), (.int .u8 r0.Medium), (.int .u8 r0.Zip), (.int .u8 r0.What), (.int .i64 r0.Quiet), (.int .i64 r0.Format), (.int .i64 r0.W), (.int .i64 r0.H), (.int .i64 r0.Id), (.int .i64 r0.Number), (.int .i64 r0.Place), (.int .i64 r0.More), (.int .i64 r0.X), (.int .i64 r0.Y), (.int .i64 r0.PW), (.int .i64 r0.PH), (.int .i64 r0.DX), (.int .i64 r0.DY), (.int .i64 r0.Rows), (.int .i64 r0.Cols), (.int .i64 r0.Z), (.int .i64 r0.Stay)]), (.int .i64 r1)]) ∧ K r0 r1 w'

/-- phosphor/phosphorlaw26.known -/
def c_phosphorlaw26_known  (w : World) (K : Bool → World → Prop) : Prop :=
  Calls PG 20 #[] w fun e w' => ∃ r0 : Bool, e = .returned (.bool r0) ∧ K r0 w'

/-- phosphor/script.Quote -/
def c_script_Quote (b : Slc) (w : World) (K : ByteArray → World → Prop) : Prop :=
  Calls PG 21 #[(.slice b.a b.n b.c)] w fun e w' => ∃ r0 : ByteArray, e = .returned (.string r0) ∧ K r0 w'

/-- phosphor/script.Unquote -/
def c_script_Unquote (s : ByteArray) (w : World) (K : Slc → Int → World → Prop) : Prop :=
  Calls PG 22 #[(.string s)] w fun e w' => ∃ r0 : Slc, ∃ r1 : Int, e = .returned (.tuple #[(.slice r0.a r0.n r0.c), (.int .i64 r1)]) ∧ K r0 r1 w'

/-- phosphor/phosphorref26.Unquote -/
def c_phosphorref26_Unquote (s : ByteArray) (w : World) (K : Slc → Int → World → Prop) : Prop :=
  Calls PG 23 #[(.string s)] w fun e w' => ∃ r0 : Slc, ∃ r1 : Int, e = .returned (.tuple #[(.slice r0.a r0.n r0.c), (.int .i64 r1)]) ∧ K r0 r1 w'

/-- phosphor/phosphorref26.Quote -/
def c_phosphorref26_Quote (b : Slc) (w : World) (K : ByteArray → World → Prop) : Prop :=
  Calls PG 24 #[(.slice b.a b.n b.c)] w fun e w' => ∃ r0 : ByteArray, e = .returned (.string r0) ∧ K r0 w'

/-- phosphor/phosphorlaw26.few -/
def c_phosphorlaw26_few (l : Slc) (w : World) (K : Bool → World → Prop) : Prop :=
  Calls PG 25 #[(.slice l.a l.n l.c)] w fun e w' => ∃ r0 : Bool, e = .returned (.bool r0) ∧ K r0 w'

/-- phosphor/script.Join -/
def c_script_Join (l : Slc) (w : World) (K : Slc → World → Prop) : Prop :=
  Calls PG 26 #[(.slice l.a l.n l.c)] w fun e w' => ∃ r0 : Slc, e = .returned (.slice r0.a r0.n r0.c) ∧ K r0 w'

/-- phosphor/script.Cut -/
def c_script_Cut (sizes : Slc) (l : Slc) (w : World) (K : Slc → World → Prop) : Prop :=
  Calls PG 27 #[(.slice sizes.a sizes.n sizes.c), (.slice l.a l.n l.c)] w fun e w' => ∃ r0 : Slc, e = .returned (.slice r0.a r0.n r0.c) ∧ K r0 w'

/-- phosphor/phosphorlaw26.same -/
def c_phosphorlaw26_same (a : Slc) (b : Slc) (w : World) (K : Bool → World → Prop) : Prop :=
  Calls PG 28 #[(.slice a.a a.n a.c), (.slice b.a b.n b.c)] w fun e w' => ∃ r0 : Bool, e = .returned (.bool r0) ∧ K r0 w'

/-- phosphor/phosphorref26.Join -/
def c_phosphorref26_Join (l : Slc) (w : World) (K : Slc → World → Prop) : Prop :=
  Calls PG 29 #[(.slice l.a l.n l.c)] w fun e w' => ∃ r0 : Slc, e = .returned (.slice r0.a r0.n r0.c) ∧ K r0 w'

/-- phosphor/phosphorlaw26.of -/
def c_phosphorlaw26_of (l : Slc) (w : World) (K : Slc → World → Prop) : Prop :=
  Calls PG 30 #[(.slice l.a l.n l.c)] w fun e w' => ∃ r0 : Slc, e = .returned (.slice r0.a r0.n r0.c) ∧ K r0 w'

/-- phosphor/phosphorref26.Cut -/
def c_phosphorref26_Cut (sizes : Slc) (l : Slc) (w : World) (K : Slc → World → Prop) : Prop :=
  Calls PG 31 #[(.slice sizes.a sizes.n sizes.c), (.slice l.a l.n l.c)] w fun e w' => ∃ r0 : Slc, e = .returned (.slice r0.a r0.n r0.c) ∧ K r0 w'

/-- phosphor/keys.Split -/
def c_keys_Split (b : Slc) (w : World) (K : Slc → Slc → World → Prop) : Prop :=
  Calls PG 32 #[(.slice b.a b.n b.c)] w fun e w' => ∃ r0 : Slc, ∃ r1 : Slc, e = .returned (.tuple #[(.slice r0.a r0.n r0.c), (.slice r1.a r1.n r1.c)]) ∧ K r0 r1 w'

/-- strconv.Itoa -/
def c_strconv_Itoa (i : Int) (w : World) (K : ByteArray → World → Prop) : Prop :=
  Calls PG 33 #[(.int .i64 i)] w fun e w' => ∃ r0 : ByteArray, e = .returned (.string r0) ∧ K r0 w'

/-- strings.Join -/
def c_strings_Join (elems : Slc) (sep : ByteArray) (w : World) (K : ByteArray → World → Prop) : Prop :=
  Calls PG 34 #[(.slice elems.a elems.n elems.c), (.string sep)] w fun e w' => ∃ r0 : ByteArray, e = .returned (.string r0) ∧ K r0 w'

/-- phosphor/phosphorref19.decimal -/
def c_phosphorref19_decimal (n : Int) (w : World) (K : ByteArray → World → Prop) : Prop :=
  Calls PG 35 #[(.int .i64 n)] w fun e w' => ∃ r0 : ByteArray, e = .returned (.string r0) ∧ K r0 w'

/-- phosphor/keys.may -/
def c_keys_may (k : T_keys_Keys) (w : World) (K : Bool → World → Prop) : Prop :=
  Calls PG 36 #[(.agg #[(.int .u8 k.Action), (.int .u8 k.Medium), (.int .u8 k.Zip), (.int .u8 k.What), (.int .i64 k.Quiet), (.int .i64 k.Format), (.int .i64 k.W), (.int .i64 k.H), (.int .i64 k.Id), (.int .i64 k.Number), (.int .i64 k.Place), (.int .i64 k.More), (.int .i64 k.X), (.int .i64 k.Y), (.int .i64 k.PW), (.int .i64 k.PH), (.int .i64 k.DX), (.int .i64 k.DY), (.int .i64 k.Rows), (.int .i64 k.Cols), (.int .i64 k.Z), (.int .i64 k.Stay)])] w fun e w' => ∃ r0 : Bool, e = .returned (.bool r0) ∧ K r0 w'

/-- (*phosphor/keys.Keys).sign -/
def c_keys_Keys_sign (k : Option Addr) (c : Int) (w : World) (K : Option Addr → World → Prop) : Prop :=
  Calls PG 37 #[(.pointer k), (.int .u8 c)] w fun e w' => ∃ r0 : Option Addr, e = .returned (.pointer r0) ∧ K r0 w'

/-- (*phosphor/keys.Keys).number -/
def c_keys_Keys_number (k : Option Addr) (c : Int) (w : World) (K : Option Addr → World → Prop) : Prop :=
  Calls PG 38 #[(.pointer k), (.int .u8 c)] w fun e w' => ∃ r0 : Option Addr, e = .returned (.pointer r0) ∧ K r0 w'

/-- phosphor/phosphorref19.get -/
def c_phosphorref19_get (k : T_keys_Keys) (i : Int) (w : World) (K : Int → World → Prop) : Prop :=
  Calls PG 39 #[(.agg #[(.int .u8 k.Action), (.int .u8 k.Medium), (.int .u8 k.Zip), (.int .u8 k.What), (.int .i64 k.Quiet), (.int .i64 k.Format), (.int .i64 k.W), (.int .i64 k.H), (.int .i64 k.Id), (.int .i64 k.Number), (.int .i64 k.Place), (.int .i64 k.More), (.int .i64 k.X), (.int .i64 k.Y), (.int .i64 k.PW), (.int .i64 k.PH), (.int .i64 k.DX), (.int .i64 k.DY), (.int .i64 k.Rows), (.int .i64 k.Cols), (.int .i64 k.Z), (.int .i64 k.Stay)]), (.int .i64 i)] w fun e w' => ∃ r0 : Int, e = .returned (.int .i64 r0) ∧ K r0 w'

/-- strings.Split -/
def c_strings_Split (s : ByteArray) (sep : ByteArray) (w : World) (K : Slc → World → Prop) : Prop :=
  Calls PG 40 #[(.string s), (.string sep)] w fun e w' => ∃ r0 : Slc, e = .returned (.slice r0.a r0.n r0.c) ∧ K r0 w'

/-- (*phosphor/keys.Keys).one -/
def c_keys_Keys_one (k : Option Addr) (s : ByteArray) (w : World) (K : Bool → World → Prop) : Prop :=
  Calls PG 41 #[(.pointer k), (.string s)] w fun e w' => ∃ r0 : Bool, e = .returned (.bool r0) ∧ K r0 w'

/-- phosphor/phosphorref19.one -/
def c_phosphorref19_one (k : T_keys_Keys) (s : ByteArray) (w : World) (K : T_keys_Keys → Bool → World → Prop) : Prop :=
  Calls PG 42 #[(.agg #[(.int .u8 k.Action), (.int .u8 k.Medium), (.int .u8 k.Zip), (.int .u8 k.What), (.int .i64 k.Quiet), (.int .i64 k.Format), (.int .i64 k.W), (.int .i64 k.H), (.int .i64 k.Id), (.int .i64 k.Number), (.int .i64 k.Place), (.int .i64 k.More), (.int .i64 k.X), (.int .i64 k.Y), (.int .i64 k.PW), (.int .i64 k.PH), (.int .i64 k.DX), (.int .i64 k.DY), (.int .i64 k.Rows), (.int .i64 k.Cols), (.int .i64 k.Z), (.int .i64 k.Stay)]), (.string s)] w fun e w' => ∃ r0 : T_keys_Keys, ∃ r1 : Bool, e = .returned (.tuple #[(.agg #[(.int .u8 r0.Action), (.int .u8 r0.Medium), (.int .u8 r0.Zip), (.int .u8 r0.What), (.int .i64 r0.Quiet), (.int .i64 r0.Format), (.int .i64 r0.W), (.int .i64 r0.H), (.int .i64 r0.Id), (.int .i64 r0.Number), (.int .i64 r0.Place), (.int .i64 r0.More), (.int .i64 r0.X), (.int .i64 r0.Y), (.int .i64 r0.PW), (.int .i64 r0.PH), (.int .i64 r0.DX), (.int .i64 r0.DY), (.int .i64 r0.Rows), (.int .i64 r0.Cols), (.int .i64 r0.Z), (.int .i64 r0.Stay)]), (.bool r1)]) ∧ K r0 r1 w'

/-- phosphor/script.Parse -/
def c_script_Parse (text : ByteArray) (w : World) (K : Slc → Int → Int → World → Prop) : Prop :=
  Calls PG 43 #[(.string text)] w fun e w' => ∃ r0 : Slc, ∃ r1 : Int, ∃ r2 : Int, e = .returned (.tuple #[(.slice r0.a r0.n r0.c), (.int .i64 r1), (.int .i64 r2)]) ∧ K r0 r1 r2 w'

/-- (*strings.Builder).WriteByte -/
def c_strings_Builder_WriteByte (b : Option Addr) (c : Int) (w : World) (K : Value → World → Prop) : Prop :=
  Calls PG 44 #[(.pointer b), (.int .u8 c)] w fun e w' => ∃ r0 : Value, e = .returned r0 ∧ K r0 w'

/-- (*strings.Builder).Write -/
def c_strings_Builder_Write (b : Option Addr) (p : Slc) (w : World) (K : Int → Value → World → Prop) : Prop :=
  Calls PG 45 #[(.pointer b), (.slice p.a p.n p.c)] w fun e w' => ∃ r0 : Int, ∃ r1 : Value, e = .returned (.tuple #[(.int .i64 r0), r1]) ∧ K r0 r1 w'

/-- (*strings.Builder).String -/
def c_strings_Builder_String (b : Option Addr) (w : World) (K : ByteArray → World → Prop) : Prop :=
  Calls PG 46 #[(.pointer b)] w fun e w' => ∃ r0 : ByteArray, e = .returned (.string r0) ∧ K r0 w'

/-- strings.IndexByte -/
def c_strings_IndexByte (s : ByteArray) (c : Int) (w : World) (K : Int → World → Prop) : Prop :=
  Calls PG 47 #[(.string s), (.int .u8 c)] w fun e w' => ∃ r0 : Int, e = .returned (.int .i64 r0) ∧ K r0 w'

/-- phosphor/phosphorref26.digit -/
def c_phosphorref26_digit (c : Int) (w : World) (K : Int → World → Prop) : Prop :=
  Calls PG 48 #[(.int .u8 c)] w fun e w' => ∃ r0 : Int, e = .returned (.int .i64 r0) ∧ K r0 w'

/-- slices.Clone[[]byte,byte] -/
def c_slices_Clone_byte_byte (s : Slc) (w : World) (K : Slc → World → Prop) : Prop :=
  Calls PG 49 #[(.slice s.a s.n s.c)] w fun e w' => ∃ r0 : Slc, e = .returned (.slice r0.a r0.n r0.c) ∧ K r0 w'

/-- slices.ContainsFunc[[]int,int] -/
def c_slices_ContainsFunc_int_int (s : Slc) (f : Value) (w : World) (K : Bool → World → Prop) : Prop :=
  Calls PG 50 #[(.slice s.a s.n s.c), f] w fun e w' => ∃ r0 : Bool, e = .returned (.bool r0) ∧ K r0 w'

/-- phosphor/script.Cut$1 -/
def c_script_Cut_1 (n : Int) (w : World) (K : Bool → World → Prop) : Prop :=
  Calls PG 51 #[(.int .i64 n)] w fun e w' => ∃ r0 : Bool, e = .returned (.bool r0) ∧ K r0 w'

/-- phosphor/script.twin -/
def c_script_twin (x : T_script_Item) (w : World) (K : T_script_Item → World → Prop) : Prop :=
  Calls PG 52 #[(.agg #[(.slice x.Feed.a x.Feed.n x.Feed.c), (.bool x.Size), (.int .i64 x.Rows), (.int .i64 x.Cols)])] w fun e w' => ∃ r0 : T_script_Item, e = .returned (.agg #[(.slice r0.Feed.a r0.Feed.n r0.Feed.c), (.bool r0.Size), (.int .i64 r0.Rows), (.int .i64 r0.Cols)]) ∧ K r0 w'

/-- bytes.Cut -/
def c_bytes_Cut (s : Slc) (sep : Slc) (w : World) (K : Slc → Slc → Bool → World → Prop) : Prop :=
  Calls PG 53 #[(.slice s.a s.n s.c), (.slice sep.a sep.n sep.c)] w fun e w' => ∃ r0 : Slc, ∃ r1 : Slc, ∃ r2 : Bool, e = .returned (.tuple #[(.slice r0.a r0.n r0.c), (.slice r1.a r1.n r1.c), (.bool r2)]) ∧ K r0 r1 r2 w'

/-- bytes.Clone -/
def c_bytes_Clone (b : Slc) (w : World) (K : Slc → World → Prop) : Prop :=
  Calls PG 54 #[(.slice b.a b.n b.c)] w fun e w' => ∃ r0 : Slc, e = .returned (.slice r0.a r0.n r0.c) ∧ K r0 w'

/-- internal/strconv.Itoa -/
def c_internal_strconv_Itoa (i : Int) (w : World) (K : ByteArray → World → Prop) : Prop :=
  Calls PG 55 #[(.int .i64 i)] w fun e w' => ∃ r0 : ByteArray, e = .returned (.string r0) ∧ K r0 w'

/-- (*strings.Builder).Grow -/
def c_strings_Builder_Grow (b : Option Addr) (n : Int) (w : World) (K : World → Prop) : Prop :=
  Calls PG 56 #[(.pointer b), (.int .i64 n)] w fun e w' => e = .returned (.tuple #[]) ∧ K w'

/-- (*strings.Builder).WriteString -/
def c_strings_Builder_WriteString (b : Option Addr) (s : ByteArray) (w : World) (K : Int → Value → World → Prop) : Prop :=
  Calls PG 57 #[(.pointer b), (.string s)] w fun e w' => ∃ r0 : Int, ∃ r1 : Value, e = .returned (.tuple #[(.int .i64 r0), r1]) ∧ K r0 r1 w'

/-- phosphor/keys.visible -/
def c_keys_visible (c : Int) (w : World) (K : Bool → World → Prop) : Prop :=
  Calls PG 58 #[(.int .u8 c)] w fun e w' => ∃ r0 : Bool, e = .returned (.bool r0) ∧ K r0 w'

/-- strings.genSplit -/
def c_strings_genSplit (s : ByteArray) (sep : ByteArray) (sepSave : Int) (n : Int) (w : World) (K : Slc → World → Prop) : Prop :=
  Calls PG 59 #[(.string s), (.string sep), (.int .i64 sepSave), (.int .i64 n)] w fun e w' => ∃ r0 : Slc, e = .returned (.slice r0.a r0.n r0.c) ∧ K r0 w'

/-- phosphor/keys.depth -/
def c_keys_depth (s : ByteArray) (w : World) (K : Int → Bool → World → Prop) : Prop :=
  Calls PG 60 #[(.string s)] w fun e w' => ∃ r0 : Int, ∃ r1 : Bool, e = .returned (.tuple #[(.int .i64 r0), (.bool r1)]) ∧ K r0 r1 w'

/-- phosphor/keys.read -/
def c_keys_read (s : ByteArray) (w : World) (K : Int → Bool → World → Prop) : Prop :=
  Calls PG 61 #[(.string s)] w fun e w' => ∃ r0 : Int, ∃ r1 : Bool, e = .returned (.tuple #[(.int .i64 r0), (.bool r1)]) ∧ K r0 r1 w'

/-- phosphor/phosphorref19.letter -/
def c_phosphorref19_letter (c : Int) (w : World) (K : Bool → World → Prop) : Prop :=
  Calls PG 62 #[(.int .u8 c)] w fun e w' => ∃ r0 : Bool, e = .returned (.bool r0) ∧ K r0 w'

/-- phosphor/phosphorref19.sign -/
def c_phosphorref19_sign (k : T_keys_Keys) (c : Int) (s : ByteArray) (w : World) (K : T_keys_Keys → Bool → World → Prop) : Prop :=
  Calls PG 63 #[(.agg #[(.int .u8 k.Action), (.int .u8 k.Medium), (.int .u8 k.Zip), (.int .u8 k.What), (.int .i64 k.Quiet), (.int .i64 k.Format), (.int .i64 k.W), (.int .i64 k.H), (.int .i64 k.Id), (.int .i64 k.Number), (.int .i64 k.Place), (.int .i64 k.More), (.int .i64 k.X), (.int .i64 k.Y), (.int .i64 k.PW), (.int .i64 k.PH), (.int .i64 k.DX), (.int .i64 k.DY), (.int .i64 k.Rows), (.int .i64 k.Cols), (.int .i64 k.Z), (.int .i64 k.Stay)]), (.int .u8 c), (.string s)] w fun e w' => ∃ r0 : T_keys_Keys, ∃ r1 : Bool, e = .returned (.tuple #[(.agg #[(.int .u8 r0.Action), (.int .u8 r0.Medium), (.int .u8 r0.Zip), (.int .u8 r0.What), (.int .i64 r0.Quiet), (.int .i64 r0.Format), (.int .i64 r0.W), (.int .i64 r0.H), (.int .i64 r0.Id), (.int .i64 r0.Number), (.int .i64 r0.Place), (.int .i64 r0.More), (.int .i64 r0.X), (.int .i64 r0.Y), (.int .i64 r0.PW), (.int .i64 r0.PH), (.int .i64 r0.DX), (.int .i64 r0.DY), (.int .i64 r0.Rows), (.int .i64 r0.Cols), (.int .i64 r0.Z), (.int .i64 r0.Stay)]), (.bool r1)]) ∧ K r0 r1 w'

/-- phosphor/phosphorref19.number -/
def c_phosphorref19_number (s : ByteArray) (w : World) (K : Int → World → Prop) : Prop :=
  Calls PG 64 #[(.string s)] w fun e w' => ∃ r0 : Int, e = .returned (.int .i64 r0) ∧ K r0 w'

/-- phosphor/phosphorref19.place -/
def c_phosphorref19_place (c : Int) (w : World) (K : Int → World → Prop) : Prop :=
  Calls PG 65 #[(.int .u8 c)] w fun e w' => ∃ r0 : Int, e = .returned (.int .i64 r0) ∧ K r0 w'

/-- phosphor/phosphorref19.with -/
def c_phosphorref19_with (k : T_keys_Keys) (i : Int) (v : Int) (w : World) (K : T_keys_Keys → World → Prop) : Prop :=
  Calls PG 66 #[(.agg #[(.int .u8 k.Action), (.int .u8 k.Medium), (.int .u8 k.Zip), (.int .u8 k.What), (.int .i64 k.Quiet), (.int .i64 k.Format), (.int .i64 k.W), (.int .i64 k.H), (.int .i64 k.Id), (.int .i64 k.Number), (.int .i64 k.Place), (.int .i64 k.More), (.int .i64 k.X), (.int .i64 k.Y), (.int .i64 k.PW), (.int .i64 k.PH), (.int .i64 k.DX), (.int .i64 k.DY), (.int .i64 k.Rows), (.int .i64 k.Cols), (.int .i64 k.Z), (.int .i64 k.Stay)]), (.int .i64 i), (.int .i64 v)] w fun e w' => ∃ r0 : T_keys_Keys, e = .returned (.agg #[(.int .u8 r0.Action), (.int .u8 r0.Medium), (.int .u8 r0.Zip), (.int .u8 r0.What), (.int .i64 r0.Quiet), (.int .i64 r0.Format), (.int .i64 r0.W), (.int .i64 r0.H), (.int .i64 r0.Id), (.int .i64 r0.Number), (.int .i64 r0.Place), (.int .i64 r0.More), (.int .i64 r0.X), (.int .i64 r0.Y), (.int .i64 r0.PW), (.int .i64 r0.PH), (.int .i64 r0.DX), (.int .i64 r0.DY), (.int .i64 r0.Rows), (.int .i64 r0.Cols), (.int .i64 r0.Z), (.int .i64 r0.Stay)]) ∧ K r0 w'

/-- strings.SplitSeq -/
def c_strings_SplitSeq (s : ByteArray) (sep : ByteArray) (w : World) (K : Value → World → Prop) : Prop :=
  Calls PG 67 #[(.string s), (.string sep)] w fun e w' => ∃ r0 : Value, e = .returned r0 ∧ K r0 w'

/-- phosphor/script.read -/
def c_script_read (s : ByteArray) (w : World) (K : T_script_Item → Bool → World → Prop) : Prop :=
  Calls PG 68 #[(.string s)] w fun e w' => ∃ r0 : T_script_Item, ∃ r1 : Bool, e = .returned (.tuple #[(.agg #[(.slice r0.Feed.a r0.Feed.n r0.Feed.c), (.bool r0.Size), (.int .i64 r0.Rows), (.int .i64 r0.Cols)]), (.bool r1)]) ∧ K r0 r1 w'

/-- (*strings.Builder).copyCheck -/
def c_strings_Builder_copyCheck (b : Option Addr) (w : World) (K : World → Prop) : Prop :=
  Calls PG 69 #[(.pointer b)] w fun e w' => e = .returned (.tuple #[]) ∧ K w'

/-- internal/stringslite.IndexByte -/
def c_internal_stringslite_IndexByte (s : ByteArray) (c : Int) (w : World) (K : Int → World → Prop) : Prop :=
  Calls PG 70 #[(.string s), (.int .u8 c)] w fun e w' => ∃ r0 : Int, e = .returned (.int .i64 r0) ∧ K r0 w'

/-- slices.IndexFunc[[]int,int] -/
def c_slices_IndexFunc_int_int (s : Slc) (f : Value) (w : World) (K : Int → World → Prop) : Prop :=
  Calls PG 71 #[(.slice s.a s.n s.c), f] w fun e w' => ∃ r0 : Int, e = .returned (.int .i64 r0) ∧ K r0 w'

/-- bytes.Index -/
def c_bytes_Index (s : Slc) (sep : Slc) (w : World) (K : Int → World → Prop) : Prop :=
  Calls PG 72 #[(.slice s.a s.n s.c), (.slice sep.a sep.n sep.c)] w fun e w' => ∃ r0 : Int, e = .returned (.int .i64 r0) ∧ K r0 w'

/-- internal/strconv.FormatInt -/
def c_internal_strconv_FormatInt (i : Int) (base : Int) (w : World) (K : ByteArray → World → Prop) : Prop :=
  Calls PG 73 #[(.int .i64 i), (.int .i64 base)] w fun e w' => ∃ r0 : ByteArray, e = .returned (.string r0) ∧ K r0 w'

/-- (*strings.Builder).grow -/
def c_strings_Builder_grow (b : Option Addr) (n : Int) (w : World) (K : World → Prop) : Prop :=
  Calls PG 74 #[(.pointer b), (.int .i64 n)] w fun e w' => e = .returned (.tuple #[]) ∧ K w'

/-- strings.explode -/
def c_strings_explode (s : ByteArray) (n : Int) (w : World) (K : Slc → World → Prop) : Prop :=
  Calls PG 75 #[(.string s), (.int .i64 n)] w fun e w' => ∃ r0 : Slc, e = .returned (.slice r0.a r0.n r0.c) ∧ K r0 w'

/-- strings.Count -/
def c_strings_Count (s : ByteArray) (substr : ByteArray) (w : World) (K : Int → World → Prop) : Prop :=
  Calls PG 76 #[(.string s), (.string substr)] w fun e w' => ∃ r0 : Int, e = .returned (.int .i64 r0) ∧ K r0 w'

/-- strings.Index -/
def c_strings_Index (s : ByteArray) (substr : ByteArray) (w : World) (K : Int → World → Prop) : Prop :=
  Calls PG 77 #[(.string s), (.string substr)] w fun e w' => ∃ r0 : Int, e = .returned (.int .i64 r0) ∧ K r0 w'

/-- strings.CutPrefix -/
def c_strings_CutPrefix (s : ByteArray) (prefix_ : ByteArray) (w : World) (K : ByteArray → Bool → World → Prop) : Prop :=
  Calls PG 78 #[(.string s), (.string prefix_)] w fun e w' => ∃ r0 : ByteArray, ∃ r1 : Bool, e = .returned (.tuple #[(.string r0), (.bool r1)]) ∧ K r0 r1 w'

/-- phosphor/phosphorref19.withMore -/
def c_phosphorref19_withMore (k : T_keys_Keys) (i : Int) (v : Int) (w : World) (K : T_keys_Keys → World → Prop) : Prop :=
  Calls PG 79 #[(.agg #[(.int .u8 k.Action), (.int .u8 k.Medium), (.int .u8 k.Zip), (.int .u8 k.What), (.int .i64 k.Quiet), (.int .i64 k.Format), (.int .i64 k.W), (.int .i64 k.H), (.int .i64 k.Id), (.int .i64 k.Number), (.int .i64 k.Place), (.int .i64 k.More), (.int .i64 k.X), (.int .i64 k.Y), (.int .i64 k.PW), (.int .i64 k.PH), (.int .i64 k.DX), (.int .i64 k.DY), (.int .i64 k.Rows), (.int .i64 k.Cols), (.int .i64 k.Z), (.int .i64 k.Stay)]), (.int .i64 i), (.int .i64 v)] w fun e w' => ∃ r0 : T_keys_Keys, e = .returned (.agg #[(.int .u8 r0.Action), (.int .u8 r0.Medium), (.int .u8 r0.Zip), (.int .u8 r0.What), (.int .i64 r0.Quiet), (.int .i64 r0.Format), (.int .i64 r0.W), (.int .i64 r0.H), (.int .i64 r0.Id), (.int .i64 r0.Number), (.int .i64 r0.Place), (.int .i64 r0.More), (.int .i64 r0.X), (.int .i64 r0.Y), (.int .i64 r0.PW), (.int .i64 r0.PH), (.int .i64 r0.DX), (.int .i64 r0.DY), (.int .i64 r0.Rows), (.int .i64 r0.Cols), (.int .i64 r0.Z), (.int .i64 r0.Stay)]) ∧ K r0 w'

/-- strings.splitSeq -/
def c_strings_splitSeq (s : ByteArray) (sep : ByteArray) (sepSave : Int) (w : World) (K : Value → World → Prop) : Prop :=
  Calls PG 80 #[(.string s), (.string sep), (.int .i64 sepSave)] w fun e w' => ∃ r0 : Value, e = .returned r0 ∧ K r0 w'

/-- strings.Cut -/
def c_strings_Cut (s : ByteArray) (sep : ByteArray) (w : World) (K : ByteArray → ByteArray → Bool → World → Prop) : Prop :=
  Calls PG 81 #[(.string s), (.string sep)] w fun e w' => ∃ r0 : ByteArray, ∃ r1 : ByteArray, ∃ r2 : Bool, e = .returned (.tuple #[(.string r0), (.string r1), (.bool r2)]) ∧ K r0 r1 r2 w'

/-- phosphor/script.number -/
def c_script_number (s : ByteArray) (w : World) (K : Int → Bool → World → Prop) : Prop :=
  Calls PG 82 #[(.string s)] w fun e w' => ∃ r0 : Int, ∃ r1 : Bool, e = .returned (.tuple #[(.int .i64 r0), (.bool r1)]) ∧ K r0 r1 w'

/-- bytes.IndexByte -/
def c_bytes_IndexByte (b : Slc) (c : Int) (w : World) (K : Int → World → Prop) : Prop :=
  Calls PG 85 #[(.slice b.a b.n b.c), (.int .u8 c)] w fun e w' => ∃ r0 : Int, e = .returned (.int .i64 r0) ∧ K r0 w'

/-- bytes.Equal -/
def c_bytes_Equal (a : Slc) (b : Slc) (w : World) (K : Bool → World → Prop) : Prop :=
  Calls PG 86 #[(.slice a.a a.n a.c), (.slice b.a b.n b.c)] w fun e w' => ∃ r0 : Bool, e = .returned (.bool r0) ∧ K r0 w'

/-- internal/bytealg.Cutover -/
def c_internal_bytealg_Cutover (n : Int) (w : World) (K : Int → World → Prop) : Prop :=
  Calls PG 88 #[(.int .i64 n)] w fun e w' => ∃ r0 : Int, e = .returned (.int .i64 r0) ∧ K r0 w'

/-- internal/bytealg.IndexRabinKarp[[]byte] -/
def c_internal_bytealg_IndexRabinKarp_byte (s : Slc) (sep : Slc) (w : World) (K : Int → World → Prop) : Prop :=
  Calls PG 89 #[(.slice s.a s.n s.c), (.slice sep.a sep.n sep.c)] w fun e w' => ∃ r0 : Int, e = .returned (.int .i64 r0) ∧ K r0 w'

/-- internal/strconv.small -/
def c_internal_strconv_small (i : Int) (w : World) (K : ByteArray → World → Prop) : Prop :=
  Calls PG 90 #[(.int .i64 i)] w fun e w' => ∃ r0 : ByteArray, e = .returned (.string r0) ∧ K r0 w'

/-- unicode/utf8.RuneCountInString -/
def c_unicode_utf8_RuneCountInString (s : ByteArray) (w : World) (K : Int → World → Prop) : Prop :=
  Calls PG 95 #[(.string s)] w fun e w' => ∃ r0 : Int, e = .returned (.int .i64 r0) ∧ K r0 w'

/-- unicode/utf8.DecodeRuneInString -/
def c_unicode_utf8_DecodeRuneInString (s : ByteArray) (w : World) (K : Int → Int → World → Prop) : Prop :=
  Calls PG 96 #[(.string s)] w fun e w' => ∃ r0 : Int, ∃ r1 : Int, e = .returned (.tuple #[(.int .i32 r0), (.int .i64 r1)]) ∧ K r0 r1 w'

/-- internal/stringslite.Index -/
def c_internal_stringslite_Index (s : ByteArray) (substr : ByteArray) (w : World) (K : Int → World → Prop) : Prop :=
  Calls PG 98 #[(.string s), (.string substr)] w fun e w' => ∃ r0 : Int, e = .returned (.int .i64 r0) ∧ K r0 w'

/-- internal/stringslite.CutPrefix -/
def c_internal_stringslite_CutPrefix (s : ByteArray) (prefix_ : ByteArray) (w : World) (K : ByteArray → Bool → World → Prop) : Prop :=
  Calls PG 99 #[(.string s), (.string prefix_)] w fun e w' => ∃ r0 : ByteArray, ∃ r1 : Bool, e = .returned (.tuple #[(.string r0), (.bool r1)]) ∧ K r0 r1 w'

/-- strings.splitSeq$1 -/
def c_strings_splitSeq_1 (yield : Value) (c0 : Addr) (c1 : Addr) (c2 : Addr) (w : World) (K : World → Prop) : Prop :=
  Calls PG 100 #[yield, (.pointer (some c0)), (.pointer (some c1)), (.pointer (some c2))] w fun e w' => e = .returned (.tuple #[]) ∧ K w'

/-- internal/stringslite.Cut -/
def c_internal_stringslite_Cut (s : ByteArray) (sep : ByteArray) (w : World) (K : ByteArray → ByteArray → Bool → World → Prop) : Prop :=
  Calls PG 101 #[(.string s), (.string sep)] w fun e w' => ∃ r0 : ByteArray, ∃ r1 : ByteArray, ∃ r2 : Bool, e = .returned (.tuple #[(.string r0), (.string r1), (.bool r2)]) ∧ K r0 r1 r2 w'

/-- strconv.Atoi -/
def c_strconv_Atoi (s : ByteArray) (w : World) (K : Int → Value → World → Prop) : Prop :=
  Calls PG 102 #[(.string s)] w fun e w' => ∃ r0 : Int, ∃ r1 : Value, e = .returned (.tuple #[(.int .i64 r0), r1]) ∧ K r0 r1 w'

/-- strings.TrimPrefix -/
def c_strings_TrimPrefix (s : ByteArray) (prefix_ : ByteArray) (w : World) (K : ByteArray → World → Prop) : Prop :=
  Calls PG 103 #[(.string s), (.string prefix_)] w fun e w' => ∃ r0 : ByteArray, e = .returned (.string r0) ∧ K r0 w'

/-- internal/bytealg.hashStr[[]byte] -/
def c_internal_bytealg_hashStr_byte (sep : Slc) (w : World) (K : Int → Int → World → Prop) : Prop :=
  Calls PG 105 #[(.slice sep.a sep.n sep.c)] w fun e w' => ∃ r0 : Int, ∃ r1 : Int, e = .returned (.tuple #[(.int .u32 r0), (.int .u32 r1)]) ∧ K r0 r1 w'

/-- internal/strconv.log10Pow2 -/
def c_internal_strconv_log10Pow2 (x : Int) (w : World) (K : Int → World → Prop) : Prop :=
  Calls PG 106 #[(.int .i64 x)] w fun e w' => ∃ r0 : Int, e = .returned (.int .i64 r0) ∧ K r0 w'

/-- math/bits.Len64 -/
def c_math_bits_Len64 (x : Int) (w : World) (K : Int → World → Prop) : Prop :=
  Calls PG 107 #[(.int .u64 x)] w fun e w' => ∃ r0 : Int, e = .returned (.int .i64 r0) ∧ K r0 w'

/-- internal/strconv.bool2[int] -/
def c_internal_strconv_bool2_int (b : Bool) (w : World) (K : Int → World → Prop) : Prop :=
  Calls PG 108 #[(.bool b)] w fun e w' => ∃ r0 : Int, e = .returned (.int .i64 r0) ∧ K r0 w'

/-- internal/strconv.isPowerOfTwo -/
def c_internal_strconv_isPowerOfTwo (x : Int) (w : World) (K : Bool → World → Prop) : Prop :=
  Calls PG 109 #[(.int .i64 x)] w fun e w' => ∃ r0 : Bool, e = .returned (.bool r0) ∧ K r0 w'

/-- math/bits.TrailingZeros -/
def c_math_bits_TrailingZeros (x : Int) (w : World) (K : Int → World → Prop) : Prop :=
  Calls PG 110 #[(.int .u64 x)] w fun e w' => ∃ r0 : Int, e = .returned (.int .i64 r0) ∧ K r0 w'

/-- unicode/utf8.decodeRuneInStringSlow -/
def c_unicode_utf8_decodeRuneInStringSlow (s : ByteArray) (w : World) (K : Int → Int → World → Prop) : Prop :=
  Calls PG 111 #[(.string s)] w fun e w' => ∃ r0 : Int, ∃ r1 : Int, e = .returned (.tuple #[(.int .i32 r0), (.int .i64 r1)]) ∧ K r0 r1 w'

/-- internal/bytealg.IndexRabinKarp[string] -/
def c_internal_bytealg_IndexRabinKarp_string (s : ByteArray) (sep : ByteArray) (w : World) (K : Int → World → Prop) : Prop :=
  Calls PG 113 #[(.string s), (.string sep)] w fun e w' => ∃ r0 : Int, e = .returned (.int .i64 r0) ∧ K r0 w'

/-- internal/stringslite.HasPrefix -/
def c_internal_stringslite_HasPrefix (s : ByteArray) (prefix_ : ByteArray) (w : World) (K : Bool → World → Prop) : Prop :=
  Calls PG 114 #[(.string s), (.string prefix_)] w fun e w' => ∃ r0 : Bool, e = .returned (.bool r0) ∧ K r0 w'

/-- internal/strconv.Atoi -/
def c_internal_strconv_Atoi (s : ByteArray) (w : World) (K : Int → Value → World → Prop) : Prop :=
  Calls PG 115 #[(.string s)] w fun e w' => ∃ r0 : Int, ∃ r1 : Value, e = .returned (.tuple #[(.int .i64 r0), r1]) ∧ K r0 r1 w'

/-- internal/stringslite.TrimPrefix -/
def c_internal_stringslite_TrimPrefix (s : ByteArray) (prefix_ : ByteArray) (w : World) (K : ByteArray → World → Prop) : Prop :=
  Calls PG 117 #[(.string s), (.string prefix_)] w fun e w' => ∃ r0 : ByteArray, e = .returned (.string r0) ∧ K r0 w'

/-- math/bits.TrailingZeros32 -/
def c_math_bits_TrailingZeros32 (x : Int) (w : World) (K : Int → World → Prop) : Prop :=
  Calls PG 118 #[(.int .u32 x)] w fun e w' => ∃ r0 : Int, e = .returned (.int .i64 r0) ∧ K r0 w'

/-- math/bits.TrailingZeros64 -/
def c_math_bits_TrailingZeros64 (x : Int) (w : World) (K : Int → World → Prop) : Prop :=
  Calls PG 119 #[(.int .u64 x)] w fun e w' => ∃ r0 : Int, e = .returned (.int .i64 r0) ∧ K r0 w'

/-- internal/bytealg.hashStr[string] -/
def c_internal_bytealg_hashStr_string (sep : ByteArray) (w : World) (K : Int → Int → World → Prop) : Prop :=
  Calls PG 120 #[(.string sep)] w fun e w' => ∃ r0 : Int, ∃ r1 : Int, e = .returned (.tuple #[(.int .u32 r0), (.int .u32 r1)]) ∧ K r0 r1 w'

/-- internal/strconv.ParseInt -/
def c_internal_strconv_ParseInt (s : ByteArray) (base : Int) (bitSize : Int) (w : World) (K : Int → Value → World → Prop) : Prop :=
  Calls PG 121 #[(.string s), (.int .i64 base), (.int .i64 bitSize)] w fun e w' => ∃ r0 : Int, ∃ r1 : Value, e = .returned (.tuple #[(.int .i64 r0), r1]) ∧ K r0 r1 w'

/-- internal/strconv.ParseUint -/
def c_internal_strconv_ParseUint (s : ByteArray) (base : Int) (bitSize : Int) (w : World) (K : Int → Value → World → Prop) : Prop :=
  Calls PG 126 #[(.string s), (.int .i64 base), (.int .i64 bitSize)] w fun e w' => ∃ r0 : Int, ∃ r1 : Value, e = .returned (.tuple #[(.int .u64 r0), r1]) ∧ K r0 r1 w'

/-- internal/stringslite.Clone -/
def c_internal_stringslite_Clone (s : ByteArray) (w : World) (K : ByteArray → World → Prop) : Prop :=
  Calls PG 127 #[(.string s)] w fun e w' => ∃ r0 : ByteArray, e = .returned (.string r0) ∧ K r0 w'

/-- errors.New -/
def c_errors_New (text : ByteArray) (w : World) (K : Value → World → Prop) : Prop :=
  Calls PG 128 #[(.string text)] w fun e w' => ∃ r0 : Value, e = .returned r0 ∧ K r0 w'

/-- internal/strconv.lower -/
def c_internal_strconv_lower (c : Int) (w : World) (K : Int → World → Prop) : Prop :=
  Calls PG 129 #[(.int .u8 c)] w fun e w' => ∃ r0 : Int, e = .returned (.int .u8 r0) ∧ K r0 w'

/-- internal/strconv.underscoreOK -/
def c_internal_strconv_underscoreOK (s : ByteArray) (w : World) (K : Bool → World → Prop) : Prop :=
  Calls PG 130 #[(.string s)] w fun e w' => ∃ r0 : Bool, e = .returned (.bool r0) ∧ K r0 w'

end Go.Proofs.YtpadlibcalomnaaDoor
