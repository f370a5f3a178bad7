/- By program (gen.py): the typed text of the program's functions, for Vc. Types of structs; what a call of each function comes to. -/
import Derived.Test.YtmoafafalnbkpaaGreatDoorVc
import Derived.Test.YtmoafafalnbkpaaGreatDoorChecked
import Derived.KernelRfl
set_option maxRecDepth 100000
set_option linter.unusedVariables false
namespace Go.Proofs.YtmoafafalnbkpaaGreatDoor
open Go.Vc
structure T_api_Config where
  Rows : Int
  Cols : Int
  CellW : Int
  CellH : Int
  Back : Int
  Quota : Int

def T_api_Config.rep : Rep where
  T := T_api_Config
  cells x := [(.int .i64 x.Rows), (.int .i64 x.Cols), (.int .i64 x.CellW), (.int .i64 x.CellH), (.int .i64 x.Back), (.int .i64 x.Quota)]
  get l := match l with
    | [.int .i64 v1, .int .i64 v2, .int .i64 v3, .int .i64 v4, .int .i64 v5, .int .i64 v6] => some ⟨v1, v2, v3, v4, v5, v6⟩
    | _ => none
  ok l c h := by
    split at h
    · injection h with h; subst h; rfl
    · cases h

structure T_parse_Event where
  Kind : Int
  R : Int
  B : Int
  Private : Int
  Inter : ByteArray
  Params : Slc
  Data : Slc

def T_parse_Event.rep : Rep where
  T := T_parse_Event
  cells x := [(.int .i64 x.Kind), (.int .i32 x.R), (.int .u8 x.B), (.int .u8 x.Private), (.string x.Inter), (.slice x.Params.a x.Params.n x.Params.c), (.slice x.Data.a x.Data.n x.Data.c)]
  get l := match l with
    | [.int .i64 v1, .int .i32 v2, .int .u8 v3, .int .u8 v4, .string v5, .slice v6a v6n v6c, .slice v7a v7n v7c] => some ⟨v1, v2, v3, v4, v5, ⟨v6a, v6n, v6c⟩, ⟨v7a, v7n, v7c⟩⟩
    | _ => none
  ok l c h := by
    split at h
    · injection h with h; subst h; rfl
    · cases h

structure T_api_Attr where
  Fg : Int
  Bg : Int
  Flags : Int

def T_api_Attr.rep : Rep where
  T := T_api_Attr
  cells x := [(.int .i64 x.Fg), (.int .i64 x.Bg), (.int .i64 x.Flags)]
  get l := match l with
    | [.int .i64 v1, .int .i64 v2, .int .i64 v3] => some ⟨v1, v2, v3⟩
    | _ => none
  ok l c h := by
    split at h
    · injection h with h; subst h; rfl
    · cases h

structure T_2_uint8 where
  e0 : Int
  e1 : Int

def T_2_uint8.rep : Rep where
  T := T_2_uint8
  cells x := [(.int .u8 x.e0), (.int .u8 x.e1)]
  get l := match l with
    | [.int .u8 v1, .int .u8 v2] => some ⟨v1, v2⟩
    | _ => none
  ok l c h := by
    split at h
    · injection h with h; subst h; rfl
    · cases h

structure T_screen_Cursor where
  Row : Int
  Col : Int
  Wrap : Bool
  A : T_api_Attr
  Origin : Bool
  Sets : T_2_uint8
  Shift : Int

def T_screen_Cursor.rep : Rep where
  T := T_screen_Cursor
  cells x := [(.int .i64 x.Row), (.int .i64 x.Col), (.bool x.Wrap), (.int .i64 x.A.Fg), (.int .i64 x.A.Bg), (.int .i64 x.A.Flags), (.bool x.Origin), (.int .u8 x.Sets.e0), (.int .u8 x.Sets.e1), (.int .i64 x.Shift)]
  get l := match l with
    | [.int .i64 v1, .int .i64 v2, .bool v3, .int .i64 v4, .int .i64 v5, .int .i64 v6, .bool v7, .int .u8 v8, .int .u8 v9, .int .i64 v10] => some ⟨v1, v2, v3, ⟨v4, v5, v6⟩, v7, ⟨v8, v9⟩, v10⟩
    | _ => none
  ok l c h := by
    split at h
    · injection h with h; subst h; rfl
    · cases h

structure T_2_grid_Grid where
  e0 : Option Addr
  e1 : Option Addr

def T_2_grid_Grid.rep : Rep where
  T := T_2_grid_Grid
  cells x := [(.pointer x.e0), (.pointer x.e1)]
  get l := match l with
    | [.pointer v1, .pointer v2] => some ⟨v1, v2⟩
    | _ => none
  ok l c h := by
    split at h
    · injection h with h; subst h; rfl
    · cases h

structure T_screen_saved where
  c : T_screen_Cursor
  is : Bool

def T_screen_saved.rep : Rep where
  T := T_screen_saved
  cells x := [(.int .i64 x.c.Row), (.int .i64 x.c.Col), (.bool x.c.Wrap), (.int .i64 x.c.A.Fg), (.int .i64 x.c.A.Bg), (.int .i64 x.c.A.Flags), (.bool x.c.Origin), (.int .u8 x.c.Sets.e0), (.int .u8 x.c.Sets.e1), (.int .i64 x.c.Shift), (.bool x.is)]
  get l := match l with
    | [.int .i64 v1, .int .i64 v2, .bool v3, .int .i64 v4, .int .i64 v5, .int .i64 v6, .bool v7, .int .u8 v8, .int .u8 v9, .int .i64 v10, .bool v11] => some ⟨⟨v1, v2, v3, ⟨v4, v5, v6⟩, v7, ⟨v8, v9⟩, v10⟩, v11⟩
    | _ => none
  ok l c h := by
    split at h
    · injection h with h; subst h; rfl
    · cases h

structure T_2_screen_saved where
  e0 : T_screen_saved
  e1 : T_screen_saved

def T_2_screen_saved.rep : Rep where
  T := T_2_screen_saved
  cells x := [(.int .i64 x.e0.c.Row), (.int .i64 x.e0.c.Col), (.bool x.e0.c.Wrap), (.int .i64 x.e0.c.A.Fg), (.int .i64 x.e0.c.A.Bg), (.int .i64 x.e0.c.A.Flags), (.bool x.e0.c.Origin), (.int .u8 x.e0.c.Sets.e0), (.int .u8 x.e0.c.Sets.e1), (.int .i64 x.e0.c.Shift), (.bool x.e0.is), (.int .i64 x.e1.c.Row), (.int .i64 x.e1.c.Col), (.bool x.e1.c.Wrap), (.int .i64 x.e1.c.A.Fg), (.int .i64 x.e1.c.A.Bg), (.int .i64 x.e1.c.A.Flags), (.bool x.e1.c.Origin), (.int .u8 x.e1.c.Sets.e0), (.int .u8 x.e1.c.Sets.e1), (.int .i64 x.e1.c.Shift), (.bool x.e1.is)]
  get l := match l with
    | [.int .i64 v1, .int .i64 v2, .bool v3, .int .i64 v4, .int .i64 v5, .int .i64 v6, .bool v7, .int .u8 v8, .int .u8 v9, .int .i64 v10, .bool v11, .int .i64 v12, .int .i64 v13, .bool v14, .int .i64 v15, .int .i64 v16, .int .i64 v17, .bool v18, .int .u8 v19, .int .u8 v20, .int .i64 v21, .bool v22] => some ⟨⟨⟨v1, v2, v3, ⟨v4, v5, v6⟩, v7, ⟨v8, v9⟩, v10⟩, v11⟩, ⟨⟨v12, v13, v14, ⟨v15, v16, v17⟩, v18, ⟨v19, v20⟩, v21⟩, v22⟩⟩
    | _ => none
  ok l c h := by
    split at h
    · injection h with h; subst h; rfl
    · cases h

structure T_screen_Screen where
  grids : T_2_grid_Grid
  now : Int
  c : T_screen_Cursor
  saved : T_2_screen_saved
  modes : Option Nat
  private_ : Option Nat
  top : Int
  past : Int
  stops : Option Addr
  char : Int
  areas : Slc

def T_screen_Screen.rep : Rep where
  T := T_screen_Screen
  cells x := [(.pointer x.grids.e0), (.pointer x.grids.e1), (.int .i64 x.now), (.int .i64 x.c.Row), (.int .i64 x.c.Col), (.bool x.c.Wrap), (.int .i64 x.c.A.Fg), (.int .i64 x.c.A.Bg), (.int .i64 x.c.A.Flags), (.bool x.c.Origin), (.int .u8 x.c.Sets.e0), (.int .u8 x.c.Sets.e1), (.int .i64 x.c.Shift), (.int .i64 x.saved.e0.c.Row), (.int .i64 x.saved.e0.c.Col), (.bool x.saved.e0.c.Wrap), (.int .i64 x.saved.e0.c.A.Fg), (.int .i64 x.saved.e0.c.A.Bg), (.int .i64 x.saved.e0.c.A.Flags), (.bool x.saved.e0.c.Origin), (.int .u8 x.saved.e0.c.Sets.e0), (.int .u8 x.saved.e0.c.Sets.e1), (.int .i64 x.saved.e0.c.Shift), (.bool x.saved.e0.is), (.int .i64 x.saved.e1.c.Row), (.int .i64 x.saved.e1.c.Col), (.bool x.saved.e1.c.Wrap), (.int .i64 x.saved.e1.c.A.Fg), (.int .i64 x.saved.e1.c.A.Bg), (.int .i64 x.saved.e1.c.A.Flags), (.bool x.saved.e1.c.Origin), (.int .u8 x.saved.e1.c.Sets.e0), (.int .u8 x.saved.e1.c.Sets.e1), (.int .i64 x.saved.e1.c.Shift), (.bool x.saved.e1.is), (.map x.modes), (.map x.private_), (.int .i64 x.top), (.int .i64 x.past), (.pointer x.stops), (.int .i32 x.char), (.slice x.areas.a x.areas.n x.areas.c)]
  get l := match l with
    | .pointer v1 :: .pointer v2 :: .int .i64 v3 :: .int .i64 v4 :: .int .i64 v5 :: .bool v6 :: .int .i64 v7 :: .int .i64 v8 :: .int .i64 v9 :: .bool v10 :: .int .u8 v11 :: .int .u8 v12 :: .int .i64 v13 :: .int .i64 v14 :: .int .i64 v15 :: .bool v16 :: .int .i64 v17 :: .int .i64 v18 :: .int .i64 v19 :: .bool v20 :: .int .u8 v21 :: .int .u8 v22 :: .int .i64 v23 :: .bool v24 :: .int .i64 v25 :: .int .i64 v26 :: .bool v27 :: .int .i64 v28 :: .int .i64 v29 :: .int .i64 v30 :: .bool v31 :: .int .u8 v32 :: .int .u8 v33 :: .int .i64 v34 :: .bool v35 :: .map v36 :: .map v37 :: .int .i64 v38 :: .int .i64 v39 :: .pointer v40 :: .int .i32 v41 :: .slice v42a v42n v42c :: [] => some ⟨⟨v1, v2⟩, v3, ⟨v4, v5, v6, ⟨v7, v8, v9⟩, v10, ⟨v11, v12⟩, v13⟩, ⟨⟨⟨v14, v15, v16, ⟨v17, v18, v19⟩, v20, ⟨v21, v22⟩, v23⟩, v24⟩, ⟨⟨v25, v26, v27, ⟨v28, v29, v30⟩, v31, ⟨v32, v33⟩, v34⟩, v35⟩⟩, v36, v37, v38, v39, v40, v41, ⟨v42a, v42n, v42c⟩⟩
    | _ => none
  ok l c h := by
    split at h
    · injection h with h; subst h; rfl
    · cases h

structure T_2_phosphorref16_Grid where
  e0 : Option Addr
  e1 : Option Addr

def T_2_phosphorref16_Grid.rep : Rep where
  T := T_2_phosphorref16_Grid
  cells x := [(.pointer x.e0), (.pointer x.e1)]
  get l := match l with
    | [.pointer v1, .pointer v2] => some ⟨v1, v2⟩
    | _ => none
  ok l c h := by
    split at h
    · injection h with h; subst h; rfl
    · cases h

structure T_2_phosphorref17_Cursor where
  e0 : T_screen_Cursor
  e1 : T_screen_Cursor

def T_2_phosphorref17_Cursor.rep : Rep where
  T := T_2_phosphorref17_Cursor
  cells x := [(.int .i64 x.e0.Row), (.int .i64 x.e0.Col), (.bool x.e0.Wrap), (.int .i64 x.e0.A.Fg), (.int .i64 x.e0.A.Bg), (.int .i64 x.e0.A.Flags), (.bool x.e0.Origin), (.int .u8 x.e0.Sets.e0), (.int .u8 x.e0.Sets.e1), (.int .i64 x.e0.Shift), (.int .i64 x.e1.Row), (.int .i64 x.e1.Col), (.bool x.e1.Wrap), (.int .i64 x.e1.A.Fg), (.int .i64 x.e1.A.Bg), (.int .i64 x.e1.A.Flags), (.bool x.e1.Origin), (.int .u8 x.e1.Sets.e0), (.int .u8 x.e1.Sets.e1), (.int .i64 x.e1.Shift)]
  get l := match l with
    | [.int .i64 v1, .int .i64 v2, .bool v3, .int .i64 v4, .int .i64 v5, .int .i64 v6, .bool v7, .int .u8 v8, .int .u8 v9, .int .i64 v10, .int .i64 v11, .int .i64 v12, .bool v13, .int .i64 v14, .int .i64 v15, .int .i64 v16, .bool v17, .int .u8 v18, .int .u8 v19, .int .i64 v20] => some ⟨⟨v1, v2, v3, ⟨v4, v5, v6⟩, v7, ⟨v8, v9⟩, v10⟩, ⟨v11, v12, v13, ⟨v14, v15, v16⟩, v17, ⟨v18, v19⟩, v20⟩⟩
    | _ => none
  ok l c h := by
    split at h
    · injection h with h; subst h; rfl
    · cases h

structure T_2_bool where
  e0 : Bool
  e1 : Bool

def T_2_bool.rep : Rep where
  T := T_2_bool
  cells x := [(.bool x.e0), (.bool x.e1)]
  get l := match l with
    | [.bool v1, .bool v2] => some ⟨v1, v2⟩
    | _ => none
  ok l c h := by
    split at h
    · injection h with h; subst h; rfl
    · cases h

structure T_phosphorref17_Screen where
  G : T_2_phosphorref16_Grid
  Now : Int
  C : T_screen_Cursor
  Saved : T_2_phosphorref17_Cursor
  Has : T_2_bool
  Insert : Bool
  Newline : Bool
  Private : Slc
  Top : Int
  Past : Int
  T : Option Addr
  Char : Int
  Areas : Slc

def T_phosphorref17_Screen.rep : Rep where
  T := T_phosphorref17_Screen
  cells x := [(.pointer x.G.e0), (.pointer x.G.e1), (.int .i64 x.Now), (.int .i64 x.C.Row), (.int .i64 x.C.Col), (.bool x.C.Wrap), (.int .i64 x.C.A.Fg), (.int .i64 x.C.A.Bg), (.int .i64 x.C.A.Flags), (.bool x.C.Origin), (.int .u8 x.C.Sets.e0), (.int .u8 x.C.Sets.e1), (.int .i64 x.C.Shift), (.int .i64 x.Saved.e0.Row), (.int .i64 x.Saved.e0.Col), (.bool x.Saved.e0.Wrap), (.int .i64 x.Saved.e0.A.Fg), (.int .i64 x.Saved.e0.A.Bg), (.int .i64 x.Saved.e0.A.Flags), (.bool x.Saved.e0.Origin), (.int .u8 x.Saved.e0.Sets.e0), (.int .u8 x.Saved.e0.Sets.e1), (.int .i64 x.Saved.e0.Shift), (.int .i64 x.Saved.e1.Row), (.int .i64 x.Saved.e1.Col), (.bool x.Saved.e1.Wrap), (.int .i64 x.Saved.e1.A.Fg), (.int .i64 x.Saved.e1.A.Bg), (.int .i64 x.Saved.e1.A.Flags), (.bool x.Saved.e1.Origin), (.int .u8 x.Saved.e1.Sets.e0), (.int .u8 x.Saved.e1.Sets.e1), (.int .i64 x.Saved.e1.Shift), (.bool x.Has.e0), (.bool x.Has.e1), (.bool x.Insert), (.bool x.Newline), (.slice x.Private.a x.Private.n x.Private.c), (.int .i64 x.Top), (.int .i64 x.Past), (.pointer x.T), (.int .i64 x.Char), (.slice x.Areas.a x.Areas.n x.Areas.c)]
  get l := match l with
    | .pointer v1 :: .pointer v2 :: .int .i64 v3 :: .int .i64 v4 :: .int .i64 v5 :: .bool v6 :: .int .i64 v7 :: .int .i64 v8 :: .int .i64 v9 :: .bool v10 :: .int .u8 v11 :: .int .u8 v12 :: .int .i64 v13 :: .int .i64 v14 :: .int .i64 v15 :: .bool v16 :: .int .i64 v17 :: .int .i64 v18 :: .int .i64 v19 :: .bool v20 :: .int .u8 v21 :: .int .u8 v22 :: .int .i64 v23 :: .int .i64 v24 :: .int .i64 v25 :: .bool v26 :: .int .i64 v27 :: .int .i64 v28 :: .int .i64 v29 :: .bool v30 :: .int .u8 v31 :: .int .u8 v32 :: .int .i64 v33 :: .bool v34 :: .bool v35 :: .bool v36 :: .bool v37 :: .slice v38a v38n v38c :: .int .i64 v39 :: .int .i64 v40 :: .pointer v41 :: .int .i64 v42 :: .slice v43a v43n v43c :: [] => some ⟨⟨v1, v2⟩, v3, ⟨v4, v5, v6, ⟨v7, v8, v9⟩, v10, ⟨v11, v12⟩, v13⟩, ⟨⟨v14, v15, v16, ⟨v17, v18, v19⟩, v20, ⟨v21, v22⟩, v23⟩, ⟨v24, v25, v26, ⟨v27, v28, v29⟩, v30, ⟨v31, v32⟩, v33⟩⟩, ⟨v34, v35⟩, v36, v37, ⟨v38a, v38n, v38c⟩, v39, v40, v41, v42, ⟨v43a, v43n, v43c⟩⟩
    | _ => none
  ok l c h := by
    split at h
    · injection h with h; subst h; rfl
    · cases h

structure T_api_Cell where
  R : Int
  Kind : Int
  A : T_api_Attr

def T_api_Cell.rep : Rep where
  T := T_api_Cell
  cells x := [(.int .i32 x.R), (.int .i64 x.Kind), (.int .i64 x.A.Fg), (.int .i64 x.A.Bg), (.int .i64 x.A.Flags)]
  get l := match l with
    | [.int .i32 v1, .int .i64 v2, .int .i64 v3, .int .i64 v4, .int .i64 v5] => some ⟨v1, v2, ⟨v3, v4, v5⟩⟩
    | _ => none
  ok l c h := by
    split at h
    · injection h with h; subst h; rfl
    · cases h

structure T_grid_Grid where
  Ring : Option Addr
  rows : Int
  cols : Int
  l : Slc
  top : Int

def T_grid_Grid.rep : Rep where
  T := T_grid_Grid
  cells x := [(.pointer x.Ring), (.int .i64 x.rows), (.int .i64 x.cols), (.slice x.l.a x.l.n x.l.c), (.int .i64 x.top)]
  get l := match l with
    | [.pointer v1, .int .i64 v2, .int .i64 v3, .slice v4a v4n v4c, .int .i64 v5] => some ⟨v1, v2, v3, ⟨v4a, v4n, v4c⟩, v5⟩
    | _ => none
  ok l c h := by
    split at h
    · injection h with h; subst h; rfl
    · cases h

structure T_strings_Builder where
  addr : Option Addr
  buf : Slc

def T_strings_Builder.rep : Rep where
  T := T_strings_Builder
  cells x := [(.pointer x.addr), (.slice x.buf.a x.buf.n x.buf.c)]
  get l := match l with
    | [.pointer v1, .slice v2a v2n v2c] => some ⟨v1, ⟨v2a, v2n, v2c⟩⟩
    | _ => none
  ok l c h := by
    split at h
    · injection h with h; subst h; rfl
    · cases h

structure T_phosphorref16_Grid where
  Rows : Int
  Cols : Int
  Most : Int
  L : Slc
  Old : Slc
  Top : Int

def T_phosphorref16_Grid.rep : Rep where
  T := T_phosphorref16_Grid
  cells x := [(.int .i64 x.Rows), (.int .i64 x.Cols), (.int .i64 x.Most), (.slice x.L.a x.L.n x.L.c), (.slice x.Old.a x.Old.n x.Old.c), (.int .i64 x.Top)]
  get l := match l with
    | [.int .i64 v1, .int .i64 v2, .int .i64 v3, .slice v4a v4n v4c, .slice v5a v5n v5c, .int .i64 v6] => some ⟨v1, v2, v3, ⟨v4a, v4n, v4c⟩, ⟨v5a, v5n, v5c⟩, v6⟩
    | _ => none
  ok l c h := by
    split at h
    · injection h with h; subst h; rfl
    · cases h

structure T_phosphorref15_Stops where
  L : Slc

def T_phosphorref15_Stops.rep : Rep where
  T := T_phosphorref15_Stops
  cells x := [(.slice x.L.a x.L.n x.L.c)]
  get l := match l with
    | [.slice v1a v1n v1c] => some ⟨⟨v1a, v1n, v1c⟩⟩
    | _ => none
  ok l c h := by
    split at h
    · injection h with h; subst h; rfl
    · cases h

structure T_ring_Ring_phosphor_line_Line where
  most : Int
  l : Slc
  at_ : Int
  gone : Int

def T_ring_Ring_phosphor_line_Line.rep : Rep where
  T := T_ring_Ring_phosphor_line_Line
  cells x := [(.int .i64 x.most), (.slice x.l.a x.l.n x.l.c), (.int .i64 x.at_), (.int .i64 x.gone)]
  get l := match l with
    | [.int .i64 v1, .slice v2a v2n v2c, .int .i64 v3, .int .i64 v4] => some ⟨v1, ⟨v2a, v2n, v2c⟩, v3, v4⟩
    | _ => none
  ok l c h := by
    split at h
    · injection h with h; subst h; rfl
    · cases h

structure T_tabs_Stops where
  cols : Int
  l : Option Nat

def T_tabs_Stops.rep : Rep where
  T := T_tabs_Stops
  cells x := [(.int .i64 x.cols), (.map x.l)]
  get l := match l with
    | [.int .i64 v1, .map v2] => some ⟨v1, v2⟩
    | _ => none
  ok l c h := by
    split at h
    · injection h with h; subst h; rfl
    · cases h

structure T_screen_Area where
  Alt : Bool
  Line : Int
  Rows : Int
  From : Int
  To : Int

def T_screen_Area.rep : Rep where
  T := T_screen_Area
  cells x := [(.bool x.Alt), (.int .i64 x.Line), (.int .i64 x.Rows), (.int .i64 x.From), (.int .i64 x.To)]
  get l := match l with
    | [.bool v1, .int .i64 v2, .int .i64 v3, .int .i64 v4, .int .i64 v5] => some ⟨v1, v2, v3, v4, v5⟩
    | _ => none
  ok l c h := by
    split at h
    · injection h with h; subst h; rfl
    · cases h

structure T_utf_span where
  lo : Int
  hi : Int

def T_utf_span.rep : Rep where
  T := T_utf_span
  cells x := [(.int .i32 x.lo), (.int .i32 x.hi)]
  get l := match l with
    | [.int .i32 v1, .int .i32 v2] => some ⟨v1, v2⟩
    | _ => none
  ok l c h := by
    split at h
    · injection h with h; subst h; rfl
    · cases h

structure T_utf8_acceptRange where
  lo : Int
  hi : Int

def T_utf8_acceptRange.rep : Rep where
  T := T_utf8_acceptRange
  cells x := [(.int .u8 x.lo), (.int .u8 x.hi)]
  get l := match l with
    | [.int .u8 v1, .int .u8 v2] => some ⟨v1, v2⟩
    | _ => none
  ok l c h := by
    split at h
    · injection h with h; subst h; rfl
    · cases h

noncomputable abbrev PG : Program := Tryz.prog

abbrev ty_unit : TypeId := 0
abbrev ty_int : TypeId := 3
abbrev ty_bool : TypeId := 4
abbrev ty_uint8 : TypeId := 5
abbrev ty_string : TypeId := 9
abbrev ty_int32 : TypeId := 21
abbrev ty_api_Config : TypeId := 23
abbrev ty_p_screen_Screen : TypeId := 28
abbrev ty_sl_int : TypeId := 32
abbrev ty_sl_uint8 : TypeId := 33
abbrev ty_parse_Event : TypeId := 35
abbrev ty_api_Attr : TypeId := 40
abbrev ty_screen_Cursor : TypeId := 43
abbrev ty_sl_string : TypeId := 48
abbrev ty_sl_api_Cell : TypeId := 59
abbrev ty_line_Line : TypeId := 60
abbrev ty_api_Cell : TypeId := 64
abbrev ty_sl_screen_Area : TypeId := 72
abbrev ty_screen_saved : TypeId := 79
abbrev ty_map_int_bool : TypeId := 81
abbrev ty_screen_Screen : TypeId := 84
abbrev ty_sl_line_Line : TypeId := 91
abbrev ty_grid_Grid : TypeId := 93
abbrev ty_phosphorref17_Cursor : TypeId := 98
abbrev ty_phosphorref17_Screen : TypeId := 107
abbrev ty_sl_sl_api_Cell : TypeId := 113
abbrev ty_phosphorref16_Grid : TypeId := 115
abbrev ty_p_strings_Builder : TypeId := 141
abbrev ty_strings_Builder : TypeId := 143
abbrev ty_ring_Ring_phosphor_line_Line : TypeId := 153
abbrev ty_sl_bool : TypeId := 154
abbrev ty_phosphorref15_Stops : TypeId := 156
abbrev ty_tabs_Stops : TypeId := 164
abbrev ty_p_uint8 : TypeId := 188
abbrev ty_screen_Area : TypeId := 203
abbrev ty_func_line_Line_int_int_api_Attr_line_Line : TypeId := 208
abbrev ty_unsafe_Pointer : TypeId := 209
abbrev ty_utf_span : TypeId := 218
abbrev fn_screen_Screen_lay_1 : Nat := 109
abbrev fn_line_Line_Insert : Nat := 110
abbrev fn_line_Line_Delete : Nat := 158
abbrev fn_screen_Screen_cells_1 : Nat := 159
abbrev fn_grid_Grid_Fill_1 : Nat := 188
def reg (t : TypeId) : Option Rep := match t with
  | 23 => some T_api_Config.rep
  | 35 => some T_parse_Event.rep
  | 40 => some T_api_Attr.rep
  | 41 => some T_2_uint8.rep
  | 43 => some T_screen_Cursor.rep
  | 98 => some T_screen_Cursor.rep
  | 77 => some T_2_grid_Grid.rep
  | 79 => some T_screen_saved.rep
  | 80 => some T_2_screen_saved.rep
  | 84 => some T_screen_Screen.rep
  | 101 => some T_2_phosphorref16_Grid.rep
  | 102 => some T_2_phosphorref17_Cursor.rep
  | 103 => some T_2_bool.rep
  | 107 => some T_phosphorref17_Screen.rep
  | 64 => some T_api_Cell.rep
  | 93 => some T_grid_Grid.rep
  | 143 => some T_strings_Builder.rep
  | 115 => some T_phosphorref16_Grid.rep
  | 156 => some T_phosphorref15_Stops.rep
  | 153 => some T_ring_Ring_phosphor_line_Line.rep
  | 164 => some T_tabs_Stops.rep
  | 203 => some T_screen_Area.rep
  | 218 => some T_utf_span.rep
  | 251 => some T_utf8_acceptRange.rep
  | _ => none

def plainL : List Nat := [2, 3, 4, 5, 6, 7, 8, 9, 10, 11, 12, 13, 14, 15, 16, 17, 18, 19, 20, 21, 22, 23, 24, 25, 26, 27, 28, 29, 30, 31, 32, 33, 34, 35, 36, 37, 38, 39, 40, 41, 42, 43, 44, 45, 46, 47, 48, 49, 50, 51, 52, 53, 54, 55, 56, 57, 58, 59, 60, 61, 62, 63, 64, 65, 66, 67, 68, 69, 70, 71, 72, 73, 74, 75, 76, 77, 78, 79, 80, 81, 82, 83, 84, 85, 86, 87, 88, 89, 90, 91, 92, 93, 94, 95, 96, 97, 98, 99, 100, 101, 102, 103, 104, 105, 106, 107, 108, 109, 110, 111, 112, 113, 114, 115, 116, 117, 118, 119, 120, 121, 122, 123, 124, 125, 126, 127, 128, 129, 130, 131, 132, 133, 134, 135, 136, 137, 138, 139, 140, 141, 142, 143, 144, 145, 146, 147, 148, 149, 150, 151, 152, 153, 154, 155, 156, 157, 158, 159, 160, 161, 162, 163, 165, 166, 167, 168, 169, 170, 171, 172, 173, 174, 175, 176, 177, 178, 179, 180, 181, 182, 183, 184, 185, 186, 187, 188, 189, 190, 191, 192, 193, 194, 195, 196, 197, 198, 199, 201, 202, 203, 204, 205, 206, 207, 208, 209, 210, 211, 212, 213, 214, 215, 216, 217, 218, 219, 221, 250]

noncomputable def C : Cx := { P := Tryz.prog, reg := reg, plain := fun n => plainL.elem n }

theorem C.plain_ok (g : Nat) (h : C.plain g = true) : plainFn C.P g = true := by
  have h' : g ∈ plainL := by simpa [C] using h
  have : plainL.all (fun g => plainFn Tryz.prog g) = true := by kernel_rfl
  exact List.all_eq_true.1 this g h'

theorem C.mixed : C.P.follows .mixedOrders = true := by kernel_rfl

/-- phosphor/phosphorlaw17.ScreenShapes -/
def c_phosphorlaw17_ScreenShapes (c : T_api_Config) (w : World) (K : Bool → World → Prop) : Prop :=
  Calls PG 8 #[(.agg #[(.int .i64 c.Rows), (.int .i64 c.Cols), (.int .i64 c.CellW), (.int .i64 c.CellH), (.int .i64 c.Back), (.int .i64 c.Quota)])] w fun e w' => ∃ r0 : Bool, e = .returned (.bool r0) ∧ K r0 w'

/-- phosphor/phosphorlaw17.known -/
def c_phosphorlaw17_known  (w : World) (K : Bool → World → Prop) : Prop :=
  Calls PG 10 #[] w fun e w' => ∃ r0 : Bool, e = .returned (.bool r0) ∧ K r0 w'

/-- phosphor/screen.New -/
def c_screen_New (c : T_api_Config) (w : World) (K : Option Addr → Int → World → Prop) : Prop :=
  Calls PG 13 #[(.agg #[(.int .i64 c.Rows), (.int .i64 c.Cols), (.int .i64 c.CellW), (.int .i64 c.CellH), (.int .i64 c.Back), (.int .i64 c.Quota)])] w fun e w' => ∃ r0 : Option Addr, ∃ r1 : Int, e = .returned (.tuple #[(.pointer r0), (.int .i64 r1)]) ∧ K r0 r1 w'

/-- (*phosphor/screen.Screen).Do -/
def c_screen_Screen_Do (s : Option Addr) (e : T_parse_Event) (w : World) (K : Slc → World → Prop) : Prop :=
  Calls PG 14 #[(.pointer s), (.agg #[(.int .i64 e.Kind), (.int .i32 e.R), (.int .u8 e.B), (.int .u8 e.Private), (.string e.Inter), (.slice e.Params.a e.Params.n e.Params.c), (.slice e.Data.a e.Data.n e.Data.c)])] w fun e w' => ∃ r0 : Slc, e = .returned (.slice r0.a r0.n r0.c) ∧ K r0 w'

/-- (*phosphor/screen.Screen).Cursor -/
def c_screen_Screen_Cursor (s : Option Addr) (w : World) (K : T_screen_Cursor → World → Prop) : Prop :=
  Calls PG 15 #[(.pointer s)] w fun e w' => ∃ r0 : T_screen_Cursor, e = .returned (.agg #[(.int .i64 r0.Row), (.int .i64 r0.Col), (.bool r0.Wrap), (.int .i64 r0.A.Fg), (.int .i64 r0.A.Bg), (.int .i64 r0.A.Flags), (.bool r0.Origin), (.int .u8 r0.Sets.e0), (.int .u8 r0.Sets.e1), (.int .i64 r0.Shift)]) ∧ K r0 w'

/-- phosphor/phosphorlaw17.made -/
def c_phosphorlaw17_made (rows : Int) (cols : Int) (w : World) (K : Option Addr → World → Prop) : Prop :=
  Calls PG 16 #[(.int .i64 rows), (.int .i64 cols)] w fun e w' => ∃ r0 : Option Addr, e = .returned (.pointer r0) ∧ K r0 w'

/-- (*phosphor/screen.Screen).Grid -/
def c_screen_Screen_Grid (s : Option Addr) (w : World) (K : Option Addr → World → Prop) : Prop :=
  Calls PG 18 #[(.pointer s)] w fun e w' => ∃ r0 : Option Addr, e = .returned (.pointer r0) ∧ K r0 w'

/-- (*phosphor/grid.Grid).Text -/
def c_grid_Grid_Text (g : Option Addr) (w : World) (K : Slc → World → Prop) : Prop :=
  Calls PG 19 #[(.pointer g)] w fun e w' => ∃ r0 : Slc, e = .returned (.slice r0.a r0.n r0.c) ∧ K r0 w'

/-- (*phosphor/screen.Screen).Margins -/
def c_screen_Screen_Margins (s : Option Addr) (w : World) (K : Int → Int → World → Prop) : Prop :=
  Calls PG 21 #[(.pointer s)] w fun e w' => ∃ r0 : Int, ∃ r1 : Int, e = .returned (.tuple #[(.int .i64 r0), (.int .i64 r1)]) ∧ K r0 r1 w'

/-- (*phosphor/grid.Grid).Back -/
def c_grid_Grid_Back (g : Option Addr) (w : World) (K : Int → World → Prop) : Prop :=
  Calls PG 22 #[(.pointer g)] w fun e w' => ∃ r0 : Int, e = .returned (.int .i64 r0) ∧ K r0 w'

/-- (*phosphor/grid.Grid).Line -/
def c_grid_Grid_Line (g : Option Addr) (row : Int) (w : World) (K : Slc → Bool → World → Prop) : Prop :=
  Calls PG 23 #[(.pointer g), (.int .i64 row)] w fun e w' => ∃ r0 : Slc, ∃ r1 : Bool, e = .returned (.tuple #[(.slice r0.a r0.n r0.c), (.bool r1)]) ∧ K r0 r1 w'

/-- phosphor/screen.Check -/
def c_screen_Check (c : T_api_Config) (w : World) (K : Int → World → Prop) : Prop :=
  Calls PG 24 #[(.agg #[(.int .i64 c.Rows), (.int .i64 c.Cols), (.int .i64 c.CellW), (.int .i64 c.CellH), (.int .i64 c.Back), (.int .i64 c.Quota)])] w fun e w' => ∃ r0 : Int, e = .returned (.int .i64 r0) ∧ K r0 w'

/-- phosphor/phosphorref17.Check -/
def c_phosphorref17_Check (c : T_api_Config) (w : World) (K : Int → World → Prop) : Prop :=
  Calls PG 25 #[(.agg #[(.int .i64 c.Rows), (.int .i64 c.Cols), (.int .i64 c.CellW), (.int .i64 c.CellH), (.int .i64 c.Back), (.int .i64 c.Quota)])] w fun e w' => ∃ r0 : Int, e = .returned (.int .i64 r0) ∧ K r0 w'

/-- phosphor/phosphorref17.New -/
def c_phosphorref17_New (c : T_api_Config) (w : World) (K : Option Addr → Int → World → Prop) : Prop :=
  Calls PG 26 #[(.agg #[(.int .i64 c.Rows), (.int .i64 c.Cols), (.int .i64 c.CellW), (.int .i64 c.CellH), (.int .i64 c.Back), (.int .i64 c.Quota)])] w fun e w' => ∃ r0 : Option Addr, ∃ r1 : Int, e = .returned (.tuple #[(.pointer r0), (.int .i64 r1)]) ∧ K r0 r1 w'

/-- phosphor/phosphorlaw17.Looks -/
def c_phosphorlaw17_Looks (s : Option Addr) (r : Option Addr) (w : World) (K : Bool → World → Prop) : Prop :=
  Calls PG 27 #[(.pointer s), (.pointer r)] w fun e w' => ∃ r0 : Bool, e = .returned (.bool r0) ∧ K r0 w'

/-- (*phosphor/screen.Screen).Erased -/
def c_screen_Screen_Erased (s : Option Addr) (w : World) (K : Slc → World → Prop) : Prop :=
  Calls PG 28 #[(.pointer s)] w fun e w' => ∃ r0 : Slc, e = .returned (.slice r0.a r0.n r0.c) ∧ K r0 w'

/-- (*phosphor/grid.Grid).Size -/
def c_grid_Grid_Size (g : Option Addr) (w : World) (K : Int → Int → World → Prop) : Prop :=
  Calls PG 31 #[(.pointer g)] w fun e w' => ∃ r0 : Int, ∃ r1 : Int, e = .returned (.tuple #[(.int .i64 r0), (.int .i64 r1)]) ∧ K r0 r1 w'

/-- phosphor/grid.New -/
def c_grid_New (rows : Int) (cols : Int) (back : Int) (w : World) (K : Option Addr → Int → World → Prop) : Prop :=
  Calls PG 33 #[(.int .i64 rows), (.int .i64 cols), (.int .i64 back)] w fun e w' => ∃ r0 : Option Addr, ∃ r1 : Int, e = .returned (.tuple #[(.pointer r0), (.int .i64 r1)]) ∧ K r0 r1 w'

/-- (*phosphor/screen.Screen).fresh -/
def c_screen_Screen_fresh (s : Option Addr) (w : World) (K : World → Prop) : Prop :=
  Calls PG 34 #[(.pointer s)] w fun e w' => e = .returned (.tuple #[]) ∧ K w'

/-- (*phosphor/screen.Screen).print -/
def c_screen_Screen_print (s : Option Addr) (r : Int) (w : World) (K : World → Prop) : Prop :=
  Calls PG 35 #[(.pointer s), (.int .i32 r)] w fun e w' => e = .returned (.tuple #[]) ∧ K w'

/-- (*phosphor/screen.Screen).control -/
def c_screen_Screen_control (s : Option Addr) (c : Int) (w : World) (K : World → Prop) : Prop :=
  Calls PG 36 #[(.pointer s), (.int .u8 c)] w fun e w' => e = .returned (.tuple #[]) ∧ K w'

/-- (*phosphor/screen.Screen).escape -/
def c_screen_Screen_escape (s : Option Addr) (inter : ByteArray) (c : Int) (w : World) (K : World → Prop) : Prop :=
  Calls PG 37 #[(.pointer s), (.string inter), (.int .u8 c)] w fun e w' => e = .returned (.tuple #[]) ∧ K w'

/-- (*phosphor/screen.Screen).sequence -/
def c_screen_Screen_sequence (s : Option Addr) (e : T_parse_Event) (w : World) (K : Slc → World → Prop) : Prop :=
  Calls PG 38 #[(.pointer s), (.agg #[(.int .i64 e.Kind), (.int .i32 e.R), (.int .u8 e.B), (.int .u8 e.Private), (.string e.Inter), (.slice e.Params.a e.Params.n e.Params.c), (.slice e.Data.a e.Data.n e.Data.c)])] w fun e w' => ∃ r0 : Slc, e = .returned (.slice r0.a r0.n r0.c) ∧ K r0 w'

/-- (*phosphor/screen.Screen).g -/
def c_screen_Screen_g (s : Option Addr) (w : World) (K : Option Addr → World → Prop) : Prop :=
  Calls PG 39 #[(.pointer s)] w fun e w' => ∃ r0 : Option Addr, e = .returned (.pointer r0) ∧ K r0 w'

/-- (*phosphor/grid.Grid).Twin -/
def c_grid_Grid_Twin (g : Option Addr) (w : World) (K : Option Addr → World → Prop) : Prop :=
  Calls PG 40 #[(.pointer g)] w fun e w' => ∃ r0 : Option Addr, e = .returned (.pointer r0) ∧ K r0 w'

/-- (phosphor/line.Line).Text -/
def c_line_Line_Text (l : Slc) (w : World) (K : ByteArray → World → Prop) : Prop :=
  Calls PG 41 #[(.slice l.a l.n l.c)] w fun e w' => ∃ r0 : ByteArray, e = .returned (.string r0) ∧ K r0 w'

/-- (*phosphor/ring.Ring[phosphor/line.Line]).Len -/
def c_ring_Ring_line_Line_Len (r : Option Addr) (w : World) (K : Int → World → Prop) : Prop :=
  Calls PG 42 #[(.pointer r)] w fun e w' => ∃ r0 : Int, e = .returned (.int .i64 r0) ∧ K r0 w'

/-- (*phosphor/grid.Grid).is -/
def c_grid_Grid_is (g : Option Addr) (row : Int) (w : World) (K : Bool → World → Prop) : Prop :=
  Calls PG 43 #[(.pointer g), (.int .i64 row)] w fun e w' => ∃ r0 : Bool, e = .returned (.bool r0) ∧ K r0 w'

/-- slices.Clone[phosphor/line.Line,phosphor/api.Cell] -/
def c_slices_Clone_line_Line_api_Cell (s : Slc) (w : World) (K : Slc → World → Prop) : Prop :=
  Calls PG 44 #[(.slice s.a s.n s.c)] w fun e w' => ∃ r0 : Slc, e = .returned (.slice r0.a r0.n r0.c) ∧ K r0 w'

/-- phosphor/screen.between -/
def c_screen_between (v : Int) (lo : Int) (hi : Int) (w : World) (K : Bool → World → Prop) : Prop :=
  Calls PG 45 #[(.int .i64 v), (.int .i64 lo), (.int .i64 hi)] w fun e w' => ∃ r0 : Bool, e = .returned (.bool r0) ∧ K r0 w'

/-- phosphor/phosphorref17.in -/
def c_phosphorref17_in (v : Int) (lo : Int) (hi : Int) (w : World) (K : Bool → World → Prop) : Prop :=
  Calls PG 46 #[(.int .i64 v), (.int .i64 lo), (.int .i64 hi)] w fun e w' => ∃ r0 : Bool, e = .returned (.bool r0) ∧ K r0 w'

/-- phosphor/phosphorref17.first -/
def c_phosphorref17_first  (w : World) (K : T_screen_Cursor → World → Prop) : Prop :=
  Calls PG 47 #[] w fun e w' => ∃ r0 : T_screen_Cursor, e = .returned (.agg #[(.int .i64 r0.Row), (.int .i64 r0.Col), (.bool r0.Wrap), (.int .i64 r0.A.Fg), (.int .i64 r0.A.Bg), (.int .i64 r0.A.Flags), (.bool r0.Origin), (.int .u8 r0.Sets.e0), (.int .u8 r0.Sets.e1), (.int .i64 r0.Shift)]) ∧ K r0 w'

/-- phosphor/phosphorref16.New -/
def c_phosphorref16_New (rows : Int) (cols : Int) (back : Int) (w : World) (K : Option Addr → Int → World → Prop) : Prop :=
  Calls PG 48 #[(.int .i64 rows), (.int .i64 cols), (.int .i64 back)] w fun e w' => ∃ r0 : Option Addr, ∃ r1 : Int, e = .returned (.tuple #[(.pointer r0), (.int .i64 r1)]) ∧ K r0 r1 w'

/-- phosphor/phosphorref15.New -/
def c_phosphorref15_New (cols : Int) (w : World) (K : Option Addr → Int → World → Prop) : Prop :=
  Calls PG 49 #[(.int .i64 cols)] w fun e w' => ∃ r0 : Option Addr, ∃ r1 : Int, e = .returned (.tuple #[(.pointer r0), (.int .i64 r1)]) ∧ K r0 r1 w'

/-- phosphor/phosphorlaw17.cursor -/
def c_phosphorlaw17_cursor (a : T_screen_Cursor) (b : T_screen_Cursor) (w : World) (K : Bool → World → Prop) : Prop :=
  Calls PG 50 #[(.agg #[(.int .i64 a.Row), (.int .i64 a.Col), (.bool a.Wrap), (.int .i64 a.A.Fg), (.int .i64 a.A.Bg), (.int .i64 a.A.Flags), (.bool a.Origin), (.int .u8 a.Sets.e0), (.int .u8 a.Sets.e1), (.int .i64 a.Shift)]), (.agg #[(.int .i64 b.Row), (.int .i64 b.Col), (.bool b.Wrap), (.int .i64 b.A.Fg), (.int .i64 b.A.Bg), (.int .i64 b.A.Flags), (.bool b.Origin), (.int .u8 b.Sets.e0), (.int .u8 b.Sets.e1), (.int .i64 b.Shift)])] w fun e w' => ∃ r0 : Bool, e = .returned (.bool r0) ∧ K r0 w'

/-- (*phosphor/screen.Screen).Alt -/
def c_screen_Screen_Alt (s : Option Addr) (w : World) (K : Bool → World → Prop) : Prop :=
  Calls PG 51 #[(.pointer s)] w fun e w' => ∃ r0 : Bool, e = .returned (.bool r0) ∧ K r0 w'

/-- (*phosphor/grid.Grid).Top -/
def c_grid_Grid_Top (g : Option Addr) (w : World) (K : Int → World → Prop) : Prop :=
  Calls PG 52 #[(.pointer g)] w fun e w' => ∃ r0 : Int, e = .returned (.int .i64 r0) ∧ K r0 w'

/-- phosphor/phosphorref13.Same -/
def c_phosphorref13_Same (a : Slc) (b : Slc) (w : World) (K : Bool → World → Prop) : Prop :=
  Calls PG 53 #[(.slice a.a a.n a.c), (.slice b.a b.n b.c)] w fun e w' => ∃ r0 : Bool, e = .returned (.bool r0) ∧ K r0 w'

/-- (*phosphor/grid.Grid).Old -/
def c_grid_Grid_Old (g : Option Addr) (i : Int) (w : World) (K : Slc → Bool → World → Prop) : Prop :=
  Calls PG 54 #[(.pointer g), (.int .i64 i)] w fun e w' => ∃ r0 : Slc, ∃ r1 : Bool, e = .returned (.tuple #[(.slice r0.a r0.n r0.c), (.bool r1)]) ∧ K r0 r1 w'

/-- (*phosphor/screen.Screen).Firsts -/
def c_screen_Screen_Firsts (s : Option Addr) (w : World) (K : Int → Int → World → Prop) : Prop :=
  Calls PG 55 #[(.pointer s)] w fun e w' => ∃ r0 : Int, ∃ r1 : Int, e = .returned (.tuple #[(.int .i64 r0), (.int .i64 r1)]) ∧ K r0 r1 w'

/-- (*phosphor/screen.Screen).Tabs -/
def c_screen_Screen_Tabs (s : Option Addr) (w : World) (K : Slc → World → Prop) : Prop :=
  Calls PG 56 #[(.pointer s)] w fun e w' => ∃ r0 : Slc, e = .returned (.slice r0.a r0.n r0.c) ∧ K r0 w'

/-- (*phosphor/phosphorref15.Stops).All -/
def c_phosphorref15_Stops_All (s : Option Addr) (w : World) (K : Slc → World → Prop) : Prop :=
  Calls PG 57 #[(.pointer s)] w fun e w' => ∃ r0 : Slc, e = .returned (.slice r0.a r0.n r0.c) ∧ K r0 w'

/-- phosphor/phosphorlaw17.modes -/
def c_phosphorlaw17_modes (s : Option Addr) (r : Option Addr) (w : World) (K : Bool → World → Prop) : Prop :=
  Calls PG 58 #[(.pointer s), (.pointer r)] w fun e w' => ∃ r0 : Bool, e = .returned (.bool r0) ∧ K r0 w'

/-- phosphor/screen.cut -/
def c_screen_cut (v : Int) (lo : Int) (hi : Int) (w : World) (K : Int → World → Prop) : Prop :=
  Calls PG 60 #[(.int .i64 v), (.int .i64 lo), (.int .i64 hi)] w fun e w' => ∃ r0 : Int, e = .returned (.int .i64 r0) ∧ K r0 w'

/-- (*phosphor/screen.Screen).to -/
def c_screen_Screen_to (s : Option Addr) (row : Int) (col : Int) (w : World) (K : World → Prop) : Prop :=
  Calls PG 61 #[(.pointer s), (.int .i64 row), (.int .i64 col)] w fun e w' => e = .returned (.tuple #[]) ∧ K w'

/-- (*phosphor/tabs.Stops).Resize -/
def c_tabs_Stops_Resize (s : Option Addr) (cols : Int) (w : World) (K : Int → World → Prop) : Prop :=
  Calls PG 62 #[(.pointer s), (.int .i64 cols)] w fun e w' => ∃ r0 : Int, e = .returned (.int .i64 r0) ∧ K r0 w'

/-- (*phosphor/screen.Screen).index -/
def c_screen_Screen_index (s : Option Addr) (w : World) (K : World → Prop) : Prop :=
  Calls PG 63 #[(.pointer s)] w fun e w' => e = .returned (.tuple #[]) ∧ K w'

/-- (phosphor/line.Line).fits -/
def c_line_Line_fits (l : Slc) (col : Int) (w : World) (K : Bool → World → Prop) : Prop :=
  Calls PG 64 #[(.slice l.a l.n l.c), (.int .i64 col)] w fun e w' => ∃ r0 : Bool, e = .returned (.bool r0) ∧ K r0 w'

/-- phosphor/grid.size -/
def c_grid_size (n : Int) (w : World) (K : Bool → World → Prop) : Prop :=
  Calls PG 65 #[(.int .i64 n)] w fun e w' => ∃ r0 : Bool, e = .returned (.bool r0) ∧ K r0 w'

/-- phosphor/ring.New[phosphor/line.Line] -/
def c_ring_New_line_Line (most : Int) (w : World) (K : Option Addr → Int → World → Prop) : Prop :=
  Calls PG 66 #[(.int .i64 most)] w fun e w' => ∃ r0 : Option Addr, ∃ r1 : Int, e = .returned (.tuple #[(.pointer r0), (.int .i64 r1)]) ∧ K r0 r1 w'

/-- (*phosphor/grid.Grid).Clear -/
def c_grid_Grid_Clear (g : Option Addr) (a : T_api_Attr) (w : World) (K : World → Prop) : Prop :=
  Calls PG 67 #[(.pointer g), (.agg #[(.int .i64 a.Fg), (.int .i64 a.Bg), (.int .i64 a.Flags)])] w fun e w' => e = .returned (.tuple #[]) ∧ K w'

/-- (*phosphor/screen.Screen).size -/
def c_screen_Screen_size (s : Option Addr) (w : World) (K : Int → Int → World → Prop) : Prop :=
  Calls PG 68 #[(.pointer s)] w fun e w' => ∃ r0 : Int, ∃ r1 : Int, e = .returned (.tuple #[(.int .i64 r0), (.int .i64 r1)]) ∧ K r0 r1 w'

/-- phosphor/tabs.New -/
def c_tabs_New (cols : Int) (w : World) (K : Option Addr → Int → World → Prop) : Prop :=
  Calls PG 69 #[(.int .i64 cols)] w fun e w' => ∃ r0 : Option Addr, ∃ r1 : Int, e = .returned (.tuple #[(.pointer r0), (.int .i64 r1)]) ∧ K r0 r1 w'

/-- phosphor/screen.first -/
def c_screen_first  (w : World) (K : T_screen_Cursor → World → Prop) : Prop :=
  Calls PG 70 #[] w fun e w' => ∃ r0 : T_screen_Cursor, e = .returned (.agg #[(.int .i64 r0.Row), (.int .i64 r0.Col), (.bool r0.Wrap), (.int .i64 r0.A.Fg), (.int .i64 r0.A.Bg), (.int .i64 r0.A.Flags), (.bool r0.Origin), (.int .u8 r0.Sets.e0), (.int .u8 r0.Sets.e1), (.int .i64 r0.Shift)]) ∧ K r0 w'

/-- (*phosphor/screen.Screen).plain -/
def c_screen_Screen_plain (s : Option Addr) (w : World) (K : World → Prop) : Prop :=
  Calls PG 71 #[(.pointer s)] w fun e w' => e = .returned (.tuple #[]) ∧ K w'

/-- phosphor/utf.Graphic -/
def c_utf_Graphic (set : Int) (b : Int) (w : World) (K : Int → World → Prop) : Prop :=
  Calls PG 72 #[(.int .u8 set), (.int .u8 b)] w fun e w' => ∃ r0 : Int, e = .returned (.int .i32 r0) ∧ K r0 w'

/-- (*phosphor/screen.Screen).lay -/
def c_screen_Screen_lay (s : Option Addr) (r : Int) (w : World) (K : World → Prop) : Prop :=
  Calls PG 73 #[(.pointer s), (.int .i32 r)] w fun e w' => e = .returned (.tuple #[]) ∧ K w'

/-- (*phosphor/tabs.Stops).Next -/
def c_tabs_Stops_Next (s : Option Addr) (col : Int) (n : Int) (w : World) (K : Int → World → Prop) : Prop :=
  Calls PG 74 #[(.pointer s), (.int .i64 col), (.int .i64 n)] w fun e w' => ∃ r0 : Int, e = .returned (.int .i64 r0) ∧ K r0 w'

/-- (*phosphor/screen.Screen).full -/
def c_screen_Screen_full (s : Option Addr) (w : World) (K : World → Prop) : Prop :=
  Calls PG 75 #[(.pointer s)] w fun e w' => e = .returned (.tuple #[]) ∧ K w'

/-- (*phosphor/screen.Screen).single -/
def c_screen_Screen_single (s : Option Addr) (c : Int) (w : World) (K : World → Prop) : Prop :=
  Calls PG 76 #[(.pointer s), (.int .u8 c)] w fun e w' => e = .returned (.tuple #[]) ∧ K w'

/-- phosphor/screen.param -/
def c_screen_param (p : Slc) (i : Int) (none : Int) (w : World) (K : Int → World → Prop) : Prop :=
  Calls PG 77 #[(.slice p.a p.n p.c), (.int .i64 i), (.int .i64 none)] w fun e w' => ∃ r0 : Int, e = .returned (.int .i64 r0) ∧ K r0 w'

/-- (*phosphor/screen.Screen).soft -/
def c_screen_Screen_soft (s : Option Addr) (w : World) (K : World → Prop) : Prop :=
  Calls PG 78 #[(.pointer s)] w fun e w' => e = .returned (.tuple #[]) ∧ K w'

/-- (*phosphor/screen.Screen).turn -/
def c_screen_Screen_turn (s : Option Addr) (n : Int) (on : Bool) (w : World) (K : World → Prop) : Prop :=
  Calls PG 79 #[(.pointer s), (.int .i64 n), (.bool on)] w fun e w' => e = .returned (.tuple #[]) ∧ K w'

/-- phosphor/screen.reply -/
def c_screen_reply (s : ByteArray) (w : World) (K : Slc → World → Prop) : Prop :=
  Calls PG 80 #[(.string s)] w fun e w' => ∃ r0 : Slc, e = .returned (.slice r0.a r0.n r0.c) ∧ K r0 w'

/-- (*phosphor/screen.Screen).place -/
def c_screen_Screen_place (s : Option Addr) (w : World) (K : ByteArray → World → Prop) : Prop :=
  Calls PG 81 #[(.pointer s)] w fun e w' => ∃ r0 : ByteArray, e = .returned (.string r0) ∧ K r0 w'

/-- strconv.Itoa -/
def c_strconv_Itoa (i : Int) (w : World) (K : ByteArray → World → Prop) : Prop :=
  Calls PG 82 #[(.int .i64 i)] w fun e w' => ∃ r0 : ByteArray, e = .returned (.string r0) ∧ K r0 w'

/-- (*phosphor/screen.Screen).state -/
def c_screen_Screen_state (s : Option Addr) (n : Int) (w : World) (K : Int → World → Prop) : Prop :=
  Calls PG 83 #[(.pointer s), (.int .i64 n)] w fun e w' => ∃ r0 : Int, e = .returned (.int .i64 r0) ∧ K r0 w'

/-- (*phosphor/screen.Screen).bare -/
def c_screen_Screen_bare (s : Option Addr) (p : Slc) (c : Int) (w : World) (K : Slc → World → Prop) : Prop :=
  Calls PG 84 #[(.pointer s), (.slice p.a p.n p.c), (.int .u8 c)] w fun e w' => ∃ r0 : Slc, e = .returned (.slice r0.a r0.n r0.c) ∧ K r0 w'

/-- (*phosphor/ring.Ring[phosphor/line.Line]).Twin -/
def c_ring_Ring_line_Line_Twin (r : Option Addr) (w : World) (K : Option Addr → World → Prop) : Prop :=
  Calls PG 85 #[(.pointer r)] w fun e w' => ∃ r0 : Option Addr, e = .returned (.pointer r0) ∧ K r0 w'

/-- slices.Clone[[]phosphor/line.Line,phosphor/line.Line] -/
def c_slices_Clone_line_Line_line_Line (s : Slc) (w : World) (K : Slc → World → Prop) : Prop :=
  Calls PG 86 #[(.slice s.a s.n s.c)] w fun e w' => ∃ r0 : Slc, e = .returned (.slice r0.a r0.n r0.c) ∧ K r0 w'

/-- (phosphor/line.Line).Mend -/
def c_line_Line_Mend (l : Slc) (w : World) (K : Slc → World → Prop) : Prop :=
  Calls PG 87 #[(.slice l.a l.n l.c)] w fun e w' => ∃ r0 : Slc, e = .returned (.slice r0.a r0.n r0.c) ∧ K r0 w'

/-- (*strings.Builder).WriteByte -/
def c_strings_Builder_WriteByte (b : Option Addr) (c : Int) (w : World) (K : Value → World → Prop) : Prop :=
  Calls PG 88 #[(.pointer b), (.int .u8 c)] w fun e w' => ∃ r0 : Value, e = .returned r0 ∧ K r0 w'

/-- (*strings.Builder).Write -/
def c_strings_Builder_Write (b : Option Addr) (p : Slc) (w : World) (K : Int → Value → World → Prop) : Prop :=
  Calls PG 89 #[(.pointer b), (.slice p.a p.n p.c)] w fun e w' => ∃ r0 : Int, ∃ r1 : Value, e = .returned (.tuple #[(.int .i64 r0), r1]) ∧ K r0 r1 w'

/-- phosphor/utf.Encode -/
def c_utf_Encode (l : Slc) (w : World) (K : Slc → World → Prop) : Prop :=
  Calls PG 90 #[(.slice l.a l.n l.c)] w fun e w' => ∃ r0 : Slc, e = .returned (.slice r0.a r0.n r0.c) ∧ K r0 w'

/-- strings.TrimRight -/
def c_strings_TrimRight (s : ByteArray) (cutset : ByteArray) (w : World) (K : ByteArray → World → Prop) : Prop :=
  Calls PG 91 #[(.string s), (.string cutset)] w fun e w' => ∃ r0 : ByteArray, e = .returned (.string r0) ∧ K r0 w'

/-- (*strings.Builder).String -/
def c_strings_Builder_String (b : Option Addr) (w : World) (K : ByteArray → World → Prop) : Prop :=
  Calls PG 92 #[(.pointer b)] w fun e w' => ∃ r0 : ByteArray, e = .returned (.string r0) ∧ K r0 w'

/-- phosphor/phosphorref16.size -/
def c_phosphorref16_size (n : Int) (w : World) (K : Bool → World → Prop) : Prop :=
  Calls PG 93 #[(.int .i64 n)] w fun e w' => ∃ r0 : Bool, e = .returned (.bool r0) ∧ K r0 w'

/-- (*phosphor/phosphorref16.Grid).Clear -/
def c_phosphorref16_Grid_Clear (g : Option Addr) (a : T_api_Attr) (w : World) (K : World → Prop) : Prop :=
  Calls PG 94 #[(.pointer g), (.agg #[(.int .i64 a.Fg), (.int .i64 a.Bg), (.int .i64 a.Flags)])] w fun e w' => e = .returned (.tuple #[]) ∧ K w'

/-- (*phosphor/grid.Grid).First -/
def c_grid_Grid_First (g : Option Addr) (w : World) (K : Int → World → Prop) : Prop :=
  Calls PG 96 #[(.pointer g)] w fun e w' => ∃ r0 : Int, e = .returned (.int .i64 r0) ∧ K r0 w'

/-- (*phosphor/tabs.Stops).All -/
def c_tabs_Stops_All (s : Option Addr) (w : World) (K : Slc → World → Prop) : Prop :=
  Calls PG 97 #[(.pointer s)] w fun e w' => ∃ r0 : Slc, e = .returned (.slice r0.a r0.n r0.c) ∧ K r0 w'

/-- (*phosphor/screen.Screen).Mode -/
def c_screen_Screen_Mode (s : Option Addr) (n : Int) (private_ : Bool) (w : World) (K : Bool → Bool → World → Prop) : Prop :=
  Calls PG 98 #[(.pointer s), (.int .i64 n), (.bool private_)] w fun e w' => ∃ r0 : Bool, ∃ r1 : Bool, e = .returned (.tuple #[(.bool r0), (.bool r1)]) ∧ K r0 r1 w'

/-- (*phosphor/phosphorref17.Screen).Mode -/
def c_phosphorref17_Screen_Mode (s : Option Addr) (n : Int) (private_ : Bool) (w : World) (K : Bool → Bool → World → Prop) : Prop :=
  Calls PG 99 #[(.pointer s), (.int .i64 n), (.bool private_)] w fun e w' => ∃ r0 : Bool, ∃ r1 : Bool, e = .returned (.tuple #[(.bool r0), (.bool r1)]) ∧ K r0 r1 w'

/-- (phosphor/line.Line).Resize -/
def c_line_Line_Resize (l : Slc) (cols : Int) (w : World) (K : Slc → World → Prop) : Prop :=
  Calls PG 100 #[(.slice l.a l.n l.c), (.int .i64 cols)] w fun e w' => ∃ r0 : Slc, e = .returned (.slice r0.a r0.n r0.c) ∧ K r0 w'

/-- (*phosphor/grid.Grid).Scroll -/
def c_grid_Grid_Scroll (g : Option Addr) (top : Int) (past : Int) (n : Int) (a : T_api_Attr) (w : World) (K : Int → World → Prop) : Prop :=
  Calls PG 101 #[(.pointer g), (.int .i64 top), (.int .i64 past), (.int .i64 n), (.agg #[(.int .i64 a.Fg), (.int .i64 a.Bg), (.int .i64 a.Flags)])] w fun e w' => ∃ r0 : Int, e = .returned (.int .i64 r0) ∧ K r0 w'

/-- slices.Concat[[]phosphor/line.Line,phosphor/line.Line] -/
def c_slices_Concat_line_Line_line_Line (slices : Slc) (w : World) (K : Slc → World → Prop) : Prop :=
  Calls PG 102 #[(.slice slices.a slices.n slices.c)] w fun e w' => ∃ r0 : Slc, e = .returned (.slice r0.a r0.n r0.c) ∧ K r0 w'

/-- (*phosphor/grid.Grid).blanks -/
def c_grid_Grid_blanks (g : Option Addr) (n : Int) (a : T_api_Attr) (w : World) (K : Slc → World → Prop) : Prop :=
  Calls PG 103 #[(.pointer g), (.int .i64 n), (.agg #[(.int .i64 a.Fg), (.int .i64 a.Bg), (.int .i64 a.Flags)])] w fun e w' => ∃ r0 : Slc, e = .returned (.slice r0.a r0.n r0.c) ∧ K r0 w'

/-- (*phosphor/screen.Screen).blank -/
def c_screen_Screen_blank (s : Option Addr) (w : World) (K : T_api_Attr → World → Prop) : Prop :=
  Calls PG 104 #[(.pointer s)] w fun e w' => ∃ r0 : T_api_Attr, e = .returned (.agg #[(.int .i64 r0.Fg), (.int .i64 r0.Bg), (.int .i64 r0.Flags)]) ∧ K r0 w'

/-- (phosphor/line.Line).is -/
def c_line_Line_is (l : Slc) (col : Int) (kind : Int) (w : World) (K : Bool → World → Prop) : Prop :=
  Calls PG 105 #[(.slice l.a l.n l.c), (.int .i64 col), (.int .i64 kind)] w fun e w' => ∃ r0 : Bool, e = .returned (.bool r0) ∧ K r0 w'

/-- phosphor/utf.lines -/
def c_utf_lines  (w : World) (K : Slc → World → Prop) : Prop :=
  Calls PG 106 #[] w fun e w' => ∃ r0 : Slc, e = .returned (.slice r0.a r0.n r0.c) ∧ K r0 w'

/-- phosphor/utf.Width -/
def c_utf_Width (r : Int) (w : World) (K : Int → World → Prop) : Prop :=
  Calls PG 107 #[(.int .i32 r)] w fun e w' => ∃ r0 : Int, e = .returned (.int .i64 r0) ∧ K r0 w'

/-- (*phosphor/grid.Grid).Change -/
def c_grid_Grid_Change (g : Option Addr) (row : Int) (f : Value) (w : World) (K : Bool → World → Prop) : Prop :=
  Calls PG 108 #[(.pointer g), (.int .i64 row), f] w fun e w' => ∃ r0 : Bool, e = .returned (.bool r0) ∧ K r0 w'

/-- (*phosphor/screen.Screen).lay$1 -/
def c_screen_Screen_lay_1 (l : Slc) (c0 : Addr) (c1 : Addr) (c2 : Addr) (w : World) (K : Slc → World → Prop) : Prop :=
  Calls PG 109 #[(.slice l.a l.n l.c), (.pointer (some c0)), (.pointer (some c1)), (.pointer (some c2))] w fun e w' => ∃ r0 : Slc, e = .returned (.slice r0.a r0.n r0.c) ∧ K r0 w'

/-- (phosphor/line.Line).Insert -/
def c_line_Line_Insert (l : Slc) (col : Int) (n : Int) (a : T_api_Attr) (w : World) (K : Slc → World → Prop) : Prop :=
  Calls PG 110 #[(.slice l.a l.n l.c), (.int .i64 col), (.int .i64 n), (.agg #[(.int .i64 a.Fg), (.int .i64 a.Bg), (.int .i64 a.Flags)])] w fun e w' => ∃ r0 : Slc, e = .returned (.slice r0.a r0.n r0.c) ∧ K r0 w'

/-- (phosphor/line.Line).Put -/
def c_line_Line_Put (l : Slc) (col : Int) (r : Int) (width : Int) (a : T_api_Attr) (w : World) (K : Slc → Bool → World → Prop) : Prop :=
  Calls PG 111 #[(.slice l.a l.n l.c), (.int .i64 col), (.int .i32 r), (.int .i64 width), (.agg #[(.int .i64 a.Fg), (.int .i64 a.Bg), (.int .i64 a.Flags)])] w fun e w' => ∃ r0 : Slc, ∃ r1 : Bool, e = .returned (.tuple #[(.slice r0.a r0.n r0.c), (.bool r1)]) ∧ K r0 r1 w'

/-- (*phosphor/tabs.Stops).is -/
def c_tabs_Stops_is (s : Option Addr) (col : Int) (w : World) (K : Bool → World → Prop) : Prop :=
  Calls PG 112 #[(.pointer s), (.int .i64 col)] w fun e w' => ∃ r0 : Bool, e = .returned (.bool r0) ∧ K r0 w'

/-- (*phosphor/tabs.Stops).near -/
def c_tabs_Stops_near (s : Option Addr) (col : Int) (w : World) (K : Int → World → Prop) : Prop :=
  Calls PG 113 #[(.pointer s), (.int .i64 col)] w fun e w' => ∃ r0 : Int, e = .returned (.int .i64 r0) ∧ K r0 w'

/-- phosphor/line.New -/
def c_line_New (cols : Int) (a : T_api_Attr) (w : World) (K : Slc → World → Prop) : Prop :=
  Calls PG 114 #[(.int .i64 cols), (.agg #[(.int .i64 a.Fg), (.int .i64 a.Bg), (.int .i64 a.Flags)])] w fun e w' => ∃ r0 : Slc, e = .returned (.slice r0.a r0.n r0.c) ∧ K r0 w'

/-- (*phosphor/grid.Grid).Set -/
def c_grid_Grid_Set (g : Option Addr) (row : Int) (l : Slc) (w : World) (K : Bool → World → Prop) : Prop :=
  Calls PG 115 #[(.pointer g), (.int .i64 row), (.slice l.a l.n l.c)] w fun e w' => ∃ r0 : Bool, e = .returned (.bool r0) ∧ K r0 w'

/-- (*phosphor/screen.Screen).reverse -/
def c_screen_Screen_reverse (s : Option Addr) (w : World) (K : World → Prop) : Prop :=
  Calls PG 116 #[(.pointer s)] w fun e w' => e = .returned (.tuple #[]) ∧ K w'

/-- (*phosphor/tabs.Stops).Set -/
def c_tabs_Stops_Set (s : Option Addr) (col : Int) (w : World) (K : Bool → World → Prop) : Prop :=
  Calls PG 117 #[(.pointer s), (.int .i64 col)] w fun e w' => ∃ r0 : Bool, e = .returned (.bool r0) ∧ K r0 w'

/-- (*phosphor/screen.Screen).save -/
def c_screen_Screen_save (s : Option Addr) (w : World) (K : World → Prop) : Prop :=
  Calls PG 118 #[(.pointer s)] w fun e w' => e = .returned (.tuple #[]) ∧ K w'

/-- (*phosphor/screen.Screen).restore -/
def c_screen_Screen_restore (s : Option Addr) (w : World) (K : World → Prop) : Prop :=
  Calls PG 119 #[(.pointer s)] w fun e w' => e = .returned (.tuple #[]) ∧ K w'

/-- (*phosphor/screen.Screen).reset -/
def c_screen_Screen_reset (s : Option Addr) (w : World) (K : World → Prop) : Prop :=
  Calls PG 120 #[(.pointer s)] w fun e w' => e = .returned (.tuple #[]) ∧ K w'

/-- (*phosphor/screen.Screen).home -/
def c_screen_Screen_home (s : Option Addr) (w : World) (K : World → Prop) : Prop :=
  Calls PG 121 #[(.pointer s)] w fun e w' => e = .returned (.tuple #[]) ∧ K w'

/-- (*phosphor/screen.Screen).show -/
def c_screen_Screen_show (s : Option Addr) (to : Int) (all : Bool) (w : World) (K : World → Prop) : Prop :=
  Calls PG 122 #[(.pointer s), (.int .i64 to), (.bool all)] w fun e w' => e = .returned (.tuple #[]) ∧ K w'

/-- phosphor/attr.Apply -/
def c_attr_Apply (a : T_api_Attr) (params : Slc) (w : World) (K : T_api_Attr → World → Prop) : Prop :=
  Calls PG 124 #[(.agg #[(.int .i64 a.Fg), (.int .i64 a.Bg), (.int .i64 a.Flags)]), (.slice params.a params.n params.c)] w fun e w' => ∃ r0 : T_api_Attr, e = .returned (.agg #[(.int .i64 r0.Fg), (.int .i64 r0.Bg), (.int .i64 r0.Flags)]) ∧ K r0 w'

/-- (*phosphor/screen.Screen).margins -/
def c_screen_Screen_margins (s : Option Addr) (p : Slc) (w : World) (K : World → Prop) : Prop :=
  Calls PG 125 #[(.pointer s), (.slice p.a p.n p.c)] w fun e w' => e = .returned (.tuple #[]) ∧ K w'

/-- (*phosphor/tabs.Stops).Clear -/
def c_tabs_Stops_Clear (s : Option Addr) (col : Int) (w : World) (K : Bool → World → Prop) : Prop :=
  Calls PG 126 #[(.pointer s), (.int .i64 col)] w fun e w' => ∃ r0 : Bool, e = .returned (.bool r0) ∧ K r0 w'

/-- (*phosphor/tabs.Stops).None -/
def c_tabs_Stops_None (s : Option Addr) (w : World) (K : World → Prop) : Prop :=
  Calls PG 127 #[(.pointer s)] w fun e w' => e = .returned (.tuple #[]) ∧ K w'

/-- (*phosphor/screen.Screen).again -/
def c_screen_Screen_again (s : Option Addr) (n : Int) (w : World) (K : World → Prop) : Prop :=
  Calls PG 128 #[(.pointer s), (.int .i64 n)] w fun e w' => e = .returned (.tuple #[]) ∧ K w'

/-- (*phosphor/screen.Screen).display -/
def c_screen_Screen_display (s : Option Addr) (how : Int) (w : World) (K : World → Prop) : Prop :=
  Calls PG 129 #[(.pointer s), (.int .i64 how)] w fun e w' => e = .returned (.tuple #[]) ∧ K w'

/-- (*phosphor/screen.Screen).inLine -/
def c_screen_Screen_inLine (s : Option Addr) (how : Int) (w : World) (K : World → Prop) : Prop :=
  Calls PG 130 #[(.pointer s), (.int .i64 how)] w fun e w' => e = .returned (.tuple #[]) ∧ K w'

/-- (*phosphor/screen.Screen).cells -/
def c_screen_Screen_cells (s : Option Addr) (c : Int) (n : Int) (w : World) (K : World → Prop) : Prop :=
  Calls PG 131 #[(.pointer s), (.int .u8 c), (.int .i64 n)] w fun e w' => e = .returned (.tuple #[]) ∧ K w'

/-- (*phosphor/screen.Screen).lines -/
def c_screen_Screen_lines (s : Option Addr) (c : Int) (n : Int) (w : World) (K : World → Prop) : Prop :=
  Calls PG 132 #[(.pointer s), (.int .u8 c), (.int .i64 n)] w fun e w' => e = .returned (.tuple #[]) ∧ K w'

/-- (*phosphor/screen.Screen).move -/
def c_screen_Screen_move (s : Option Addr) (p : Slc) (c : Int) (n : Int) (w : World) (K : World → Prop) : Prop :=
  Calls PG 133 #[(.pointer s), (.slice p.a p.n p.c), (.int .u8 c), (.int .i64 n)] w fun e w' => e = .returned (.tuple #[]) ∧ K w'

/-- (*strings.Builder).copyCheck -/
def c_strings_Builder_copyCheck (b : Option Addr) (w : World) (K : World → Prop) : Prop :=
  Calls PG 134 #[(.pointer b)] w fun e w' => e = .returned (.tuple #[]) ∧ K w'

/-- phosphor/utf.Is -/
def c_utf_Is (r : Int) (w : World) (K : Bool → World → Prop) : Prop :=
  Calls PG 135 #[(.int .i32 r)] w fun e w' => ∃ r0 : Bool, e = .returned (.bool r0) ∧ K r0 w'

/-- strings.trimRightByte -/
def c_strings_trimRightByte (s : ByteArray) (c : Int) (w : World) (K : ByteArray → World → Prop) : Prop :=
  Calls PG 136 #[(.string s), (.int .u8 c)] w fun e w' => ∃ r0 : ByteArray, e = .returned (.string r0) ∧ K r0 w'

/-- phosphor/phosphorref13.New -/
def c_phosphorref13_New (cols : Int) (a : T_api_Attr) (w : World) (K : Slc → World → Prop) : Prop :=
  Calls PG 140 #[(.int .i64 cols), (.agg #[(.int .i64 a.Fg), (.int .i64 a.Bg), (.int .i64 a.Flags)])] w fun e w' => ∃ r0 : Slc, e = .returned (.slice r0.a r0.n r0.c) ∧ K r0 w'

/-- slices.Sorted[int] -/
def c_slices_Sorted_int (seq : Value) (w : World) (K : Slc → World → Prop) : Prop :=
  Calls PG 141 #[seq] w fun e w' => ∃ r0 : Slc, e = .returned (.slice r0.a r0.n r0.c) ∧ K r0 w'

/-- maps.Keys[map[int]bool,int,bool] -/
def c_maps_Keys_map_int_bool_int_bool (m : Option Nat) (w : World) (K : Value → World → Prop) : Prop :=
  Calls PG 142 #[(.map m)] w fun e w' => ∃ r0 : Value, e = .returned r0 ∧ K r0 w'

/-- (*phosphor/phosphorref17.Screen).has -/
def c_phosphorref17_Screen_has (s : Option Addr) (n : Int) (w : World) (K : Bool → World → Prop) : Prop :=
  Calls PG 143 #[(.pointer s), (.int .i64 n)] w fun e w' => ∃ r0 : Bool, e = .returned (.bool r0) ∧ K r0 w'

/-- slices.Concat[phosphor/line.Line,phosphor/api.Cell] -/
def c_slices_Concat_line_Line_api_Cell (slices : Slc) (w : World) (K : Slc → World → Prop) : Prop :=
  Calls PG 144 #[(.slice slices.a slices.n slices.c)] w fun e w' => ∃ r0 : Slc, e = .returned (.slice r0.a r0.n r0.c) ∧ K r0 w'

/-- phosphor/line.blanks -/
def c_line_blanks (n : Int) (a : T_api_Attr) (w : World) (K : Slc → World → Prop) : Prop :=
  Calls PG 145 #[(.int .i64 n), (.agg #[(.int .i64 a.Fg), (.int .i64 a.Bg), (.int .i64 a.Flags)])] w fun e w' => ∃ r0 : Slc, e = .returned (.slice r0.a r0.n r0.c) ∧ K r0 w'

/-- (*phosphor/ring.Ring[phosphor/line.Line]).Push -/
def c_ring_Ring_line_Line_Push (r : Option Addr) (t : Slc) (w : World) (K : Slc → Bool → World → Prop) : Prop :=
  Calls PG 146 #[(.pointer r), (.slice t.a t.n t.c)] w fun e w' => ∃ r0 : Slc, ∃ r1 : Bool, e = .returned (.tuple #[(.slice r0.a r0.n r0.c), (.bool r1)]) ∧ K r0 r1 w'

/-- slices.Grow[[]phosphor/line.Line,phosphor/line.Line] -/
def c_slices_Grow_line_Line_line_Line (s : Slc) (n : Int) (w : World) (K : Slc → World → Prop) : Prop :=
  Calls PG 147 #[(.slice s.a s.n s.c), (.int .i64 n)] w fun e w' => ∃ r0 : Slc, e = .returned (.slice r0.a r0.n r0.c) ∧ K r0 w'

/-- phosphor/utf.in -/
def c_utf_in (r : Int) (l : Slc) (w : World) (K : Bool → World → Prop) : Prop :=
  Calls PG 148 #[(.int .i32 r), (.slice l.a l.n l.c)] w fun e w' => ∃ r0 : Bool, e = .returned (.bool r0) ∧ K r0 w'

/-- phosphor/utf.thin -/
def c_utf_thin  (w : World) (K : Slc → World → Prop) : Prop :=
  Calls PG 149 #[] w fun e w' => ∃ r0 : Slc, e = .returned (.slice r0.a r0.n r0.c) ∧ K r0 w'

/-- phosphor/utf.wide -/
def c_utf_wide  (w : World) (K : Slc → World → Prop) : Prop :=
  Calls PG 150 #[] w fun e w' => ∃ r0 : Slc, e = .returned (.slice r0.a r0.n r0.c) ∧ K r0 w'

/-- (phosphor/line.Line).many -/
def c_line_Line_many (l : Slc) (col : Int) (n : Int) (w : World) (K : Int → World → Prop) : Prop :=
  Calls PG 151 #[(.slice l.a l.n l.c), (.int .i64 col), (.int .i64 n)] w fun e w' => ∃ r0 : Int, e = .returned (.int .i64 r0) ∧ K r0 w'

/-- (phosphor/line.Line).halves -/
def c_line_Line_halves (l : Slc) (from_ : Int) (to : Int) (w : World) (K : Slc → World → Prop) : Prop :=
  Calls PG 152 #[(.slice l.a l.n l.c), (.int .i64 from_), (.int .i64 to)] w fun e w' => ∃ r0 : Slc, e = .returned (.slice r0.a r0.n r0.c) ∧ K r0 w'

/-- (*phosphor/grid.Grid).Forget -/
def c_grid_Grid_Forget (g : Option Addr) (w : World) (K : World → Prop) : Prop :=
  Calls PG 153 #[(.pointer g)] w fun e w' => e = .returned (.tuple #[]) ∧ K w'

/-- (*phosphor/screen.Screen).erase -/
def c_screen_Screen_erase (s : Option Addr) (row : Int) (rows : Int) (from_ : Int) (to : Int) (w : World) (K : World → Prop) : Prop :=
  Calls PG 154 #[(.pointer s), (.int .i64 row), (.int .i64 rows), (.int .i64 from_), (.int .i64 to)] w fun e w' => e = .returned (.tuple #[]) ∧ K w'

/-- phosphor/attr.flag -/
def c_attr_flag (n : Int) (w : World) (K : Int → World → Prop) : Prop :=
  Calls PG 156 #[(.int .i64 n)] w fun e w' => ∃ r0 : Int, e = .returned (.int .i64 r0) ∧ K r0 w'

/-- phosphor/attr.far -/
def c_attr_far (to : Option Addr) (l : Slc) (w : World) (K : Slc → World → Prop) : Prop :=
  Calls PG 157 #[(.pointer to), (.slice l.a l.n l.c)] w fun e w' => ∃ r0 : Slc, e = .returned (.slice r0.a r0.n r0.c) ∧ K r0 w'

/-- (phosphor/line.Line).Delete -/
def c_line_Line_Delete (l : Slc) (col : Int) (n : Int) (a : T_api_Attr) (w : World) (K : Slc → World → Prop) : Prop :=
  Calls PG 158 #[(.slice l.a l.n l.c), (.int .i64 col), (.int .i64 n), (.agg #[(.int .i64 a.Fg), (.int .i64 a.Bg), (.int .i64 a.Flags)])] w fun e w' => ∃ r0 : Slc, e = .returned (.slice r0.a r0.n r0.c) ∧ K r0 w'

/-- (*phosphor/screen.Screen).cells$1 -/
def c_screen_Screen_cells_1 (l : Slc) (c0 : Addr) (c1 : Addr) (c2 : Addr) (w : World) (K : Slc → World → Prop) : Prop :=
  Calls PG 159 #[(.slice l.a l.n l.c), (.pointer (some c0)), (.pointer (some c1)), (.pointer (some c2))] w fun e w' => ∃ r0 : Slc, e = .returned (.slice r0.a r0.n r0.c) ∧ K r0 w'

/-- (*phosphor/screen.Screen).up -/
def c_screen_Screen_up (s : Option Addr) (n : Int) (w : World) (K : World → Prop) : Prop :=
  Calls PG 160 #[(.pointer s), (.int .i64 n)] w fun e w' => e = .returned (.tuple #[]) ∧ K w'

/-- (*phosphor/screen.Screen).down -/
def c_screen_Screen_down (s : Option Addr) (n : Int) (w : World) (K : World → Prop) : Prop :=
  Calls PG 161 #[(.pointer s), (.int .i64 n)] w fun e w' => e = .returned (.tuple #[]) ∧ K w'

/-- (*phosphor/screen.Screen).asked -/
def c_screen_Screen_asked (s : Option Addr) (n : Int) (w : World) (K : Int → World → Prop) : Prop :=
  Calls PG 162 #[(.pointer s), (.int .i64 n)] w fun e w' => ∃ r0 : Int, e = .returned (.int .i64 r0) ∧ K r0 w'

/-- (*phosphor/tabs.Stops).Back -/
def c_tabs_Stops_Back (s : Option Addr) (col : Int) (n : Int) (w : World) (K : Int → World → Prop) : Prop :=
  Calls PG 163 #[(.pointer s), (.int .i64 col), (.int .i64 n)] w fun e w' => ∃ r0 : Int, e = .returned (.int .i64 r0) ∧ K r0 w'

/-- phosphor/phosphorref13.blank -/
def c_phosphorref13_blank (a : T_api_Attr) (w : World) (K : T_api_Cell → World → Prop) : Prop :=
  Calls PG 168 #[(.agg #[(.int .i64 a.Fg), (.int .i64 a.Bg), (.int .i64 a.Flags)])] w fun e w' => ∃ r0 : T_api_Cell, e = .returned (.agg #[(.int .i32 r0.R), (.int .i64 r0.Kind), (.int .i64 r0.A.Fg), (.int .i64 r0.A.Bg), (.int .i64 r0.A.Flags)]) ∧ K r0 w'

/-- slices.Grow[phosphor/line.Line,phosphor/api.Cell] -/
def c_slices_Grow_line_Line_api_Cell (s : Slc) (n : Int) (w : World) (K : Slc → World → Prop) : Prop :=
  Calls PG 172 #[(.slice s.a s.n s.c), (.int .i64 n)] w fun e w' => ∃ r0 : Slc, e = .returned (.slice r0.a r0.n r0.c) ∧ K r0 w'

/-- (*phosphor/ring.Ring[phosphor/line.Line]).even -/
def c_ring_Ring_line_Line_even (r : Option Addr) (w : World) (K : World → Prop) : Prop :=
  Calls PG 173 #[(.pointer r)] w fun e w' => e = .returned (.tuple #[]) ∧ K w'

/-- (*phosphor/ring.Ring[phosphor/line.Line]).Clear -/
def c_ring_Ring_line_Line_Clear (r : Option Addr) (w : World) (K : World → Prop) : Prop :=
  Calls PG 174 #[(.pointer r)] w fun e w' => e = .returned (.tuple #[]) ∧ K w'

/-- (*phosphor/grid.Grid).Fill -/
def c_grid_Grid_Fill (g : Option Addr) (row : Int) (from_ : Int) (to : Int) (a : T_api_Attr) (w : World) (K : Bool → World → Prop) : Prop :=
  Calls PG 175 #[(.pointer g), (.int .i64 row), (.int .i64 from_), (.int .i64 to), (.agg #[(.int .i64 a.Fg), (.int .i64 a.Bg), (.int .i64 a.Flags)])] w fun e w' => ∃ r0 : Bool, e = .returned (.bool r0) ∧ K r0 w'

/-- phosphor/attr.far$1 -/
def c_attr_far_1 (v : Int) (w : World) (K : Bool → World → Prop) : Prop :=
  Calls PG 180 #[(.int .i64 v)] w fun e w' => ∃ r0 : Bool, e = .returned (.bool r0) ∧ K r0 w'

/-- (*phosphor/grid.Grid).Fill$1 -/
def c_grid_Grid_Fill_1 (l : Slc) (c0 : Addr) (c1 : Addr) (c2 : Addr) (w : World) (K : Slc → World → Prop) : Prop :=
  Calls PG 188 #[(.slice l.a l.n l.c), (.pointer (some c0)), (.pointer (some c1)), (.pointer (some c2))] w fun e w' => ∃ r0 : Slc, e = .returned (.slice r0.a r0.n r0.c) ∧ K r0 w'

/-- (phosphor/line.Line).Erase -/
def c_line_Line_Erase (l : Slc) (from_ : Int) (to : Int) (a : T_api_Attr) (w : World) (K : Slc → World → Prop) : Prop :=
  Calls PG 189 #[(.slice l.a l.n l.c), (.int .i64 from_), (.int .i64 to), (.agg #[(.int .i64 a.Fg), (.int .i64 a.Bg), (.int .i64 a.Flags)])] w fun e w' => ∃ r0 : Slc, e = .returned (.slice r0.a r0.n r0.c) ∧ K r0 w'

end Go.Proofs.YtmoafafalnbkpaaGreatDoor
