/- By program (gen.py): the typed text of the program's functions, for Vc. Types of structs; what a call of each function comes to. -/
import Derived.Test.YtgejghejnibocaaDoorVc
import Derived.Test.YtgejghejnibocaaDoorChecked
import Derived.KernelRfl
set_option maxRecDepth 100000
set_option linter.unusedVariables false
namespace Go.Proofs.YtgejghejnibocaaDoor
open Go.Vc

structure T_api_Attr where
  Fg : Int
  Bg : Int
  Flags : Int

def T_api_Attr.rep : Rep where
  T := T_api_Attr
  cells x := [(.int .i64 x.Fg), (.int .i64 x.Bg), (.int .i64 x.Flags)]
  get l := match l with
    | [.int .i64 v1, .int .i64 v2, .int .i64 v3] => some ⟨v1, v2, v3⟩
    | _ => none
  ok l c h := by
    split at h
    · injection h with h; subst h; rfl
    · cases h

structure T_api_Cell where
  R : Int
  Kind : Int
  A : T_api_Attr

def T_api_Cell.rep : Rep where
  T := T_api_Cell
  cells x := [(.int .i32 x.R), (.int .i64 x.Kind), (.int .i64 x.A.Fg), (.int .i64 x.A.Bg), (.int .i64 x.A.Flags)]
  get l := match l with
    | [.int .i32 v1, .int .i64 v2, .int .i64 v3, .int .i64 v4, .int .i64 v5] => some ⟨v1, v2, ⟨v3, v4, v5⟩⟩
    | _ => none
  ok l c h := by
    split at h
    · injection h with h; subst h; rfl
    · cases h

structure T_phosphorlaw13_Act where
  Op : Int
  Col : Int
  N : Int
  R : Int
  Width : Int
  A : T_api_Attr

def T_phosphorlaw13_Act.rep : Rep where
  T := T_phosphorlaw13_Act
  cells x := [(.int .i64 x.Op), (.int .i64 x.Col), (.int .i64 x.N), (.int .i32 x.R), (.int .i64 x.Width), (.int .i64 x.A.Fg), (.int .i64 x.A.Bg), (.int .i64 x.A.Flags)]
  get l := match l with
    | [.int .i64 v1, .int .i64 v2, .int .i64 v3, .int .i32 v4, .int .i64 v5, .int .i64 v6, .int .i64 v7, .int .i64 v8] => some ⟨v1, v2, v3, v4, v5, ⟨v6, v7, v8⟩⟩
    | _ => none
  ok l c h := by
    split at h
    · injection h with h; subst h; rfl
    · cases h

structure T_phosphorlaw16_Act where
  Op : Int
  Row : Int
  L : Slc
  Past : Int
  N : Int
  A : T_api_Attr
  Rows : Int
  Cols : Int

def T_phosphorlaw16_Act.rep : Rep where
  T := T_phosphorlaw16_Act
  cells x := [(.int .i64 x.Op), (.int .i64 x.Row), (.slice x.L.a x.L.n x.L.c), (.int .i64 x.Past), (.int .i64 x.N), (.int .i64 x.A.Fg), (.int .i64 x.A.Bg), (.int .i64 x.A.Flags), (.int .i64 x.Rows), (.int .i64 x.Cols)]
  get l := match l with
    | [.int .i64 v1, .int .i64 v2, .slice v3a v3n v3c, .int .i64 v4, .int .i64 v5, .int .i64 v6, .int .i64 v7, .int .i64 v8, .int .i64 v9, .int .i64 v10] => some ⟨v1, v2, ⟨v3a, v3n, v3c⟩, v4, v5, ⟨v6, v7, v8⟩, v9, v10⟩
    | _ => none
  ok l c h := by
    split at h
    · injection h with h; subst h; rfl
    · cases h

structure T_strings_Builder where
  addr : Option Addr
  buf : Slc

def T_strings_Builder.rep : Rep where
  T := T_strings_Builder
  cells x := [(.pointer x.addr), (.slice x.buf.a x.buf.n x.buf.c)]
  get l := match l with
    | [.pointer v1, .slice v2a v2n v2c] => some ⟨v1, ⟨v2a, v2n, v2c⟩⟩
    | _ => none
  ok l c h := by
    split at h
    · injection h with h; subst h; rfl
    · cases h

structure T_grid_Grid where
  Ring : Option Addr
  rows : Int
  cols : Int
  l : Slc
  top : Int

def T_grid_Grid.rep : Rep where
  T := T_grid_Grid
  cells x := [(.pointer x.Ring), (.int .i64 x.rows), (.int .i64 x.cols), (.slice x.l.a x.l.n x.l.c), (.int .i64 x.top)]
  get l := match l with
    | [.pointer v1, .int .i64 v2, .int .i64 v3, .slice v4a v4n v4c, .int .i64 v5] => some ⟨v1, v2, v3, ⟨v4a, v4n, v4c⟩, v5⟩
    | _ => none
  ok l c h := by
    split at h
    · injection h with h; subst h; rfl
    · cases h

structure T_phosphorref16_Grid where
  Rows : Int
  Cols : Int
  Most : Int
  L : Slc
  Old : Slc
  Top : Int

def T_phosphorref16_Grid.rep : Rep where
  T := T_phosphorref16_Grid
  cells x := [(.int .i64 x.Rows), (.int .i64 x.Cols), (.int .i64 x.Most), (.slice x.L.a x.L.n x.L.c), (.slice x.Old.a x.Old.n x.Old.c), (.int .i64 x.Top)]
  get l := match l with
    | [.int .i64 v1, .int .i64 v2, .int .i64 v3, .slice v4a v4n v4c, .slice v5a v5n v5c, .int .i64 v6] => some ⟨v1, v2, v3, ⟨v4a, v4n, v4c⟩, ⟨v5a, v5n, v5c⟩, v6⟩
    | _ => none
  ok l c h := by
    split at h
    · injection h with h; subst h; rfl
    · cases h

structure T_ring_Ring_phosphor_line_Line where
  most : Int
  l : Slc
  at_ : Int
  gone : Int

def T_ring_Ring_phosphor_line_Line.rep : Rep where
  T := T_ring_Ring_phosphor_line_Line
  cells x := [(.int .i64 x.most), (.slice x.l.a x.l.n x.l.c), (.int .i64 x.at_), (.int .i64 x.gone)]
  get l := match l with
    | [.int .i64 v1, .slice v2a v2n v2c, .int .i64 v3, .int .i64 v4] => some ⟨v1, ⟨v2a, v2n, v2c⟩, v3, v4⟩
    | _ => none
  ok l c h := by
    split at h
    · injection h with h; subst h; rfl
    · cases h

structure T_utf8_acceptRange where
  lo : Int
  hi : Int

def T_utf8_acceptRange.rep : Rep where
  T := T_utf8_acceptRange
  cells x := [(.int .u8 x.lo), (.int .u8 x.hi)]
  get l := match l with
    | [.int .u8 v1, .int .u8 v2] => some ⟨v1, v2⟩
    | _ => none
  ok l c h := by
    split at h
    · injection h with h; subst h; rfl
    · cases h

def reg (t : TypeId) : Option Rep := match t with
  | 23 => some T_api_Attr.rep
  | 42 => some T_api_Cell.rep
  | 54 => some T_phosphorlaw13_Act.rep
  | 80 => some T_phosphorlaw16_Act.rep
  | 97 => some T_strings_Builder.rep
  | 118 => some T_grid_Grid.rep
  | 88 => some T_phosphorref16_Grid.rep
  | 140 => some T_ring_Ring_phosphor_line_Line.rep
  | 156 => some T_utf8_acceptRange.rep
  | _ => none

def plainL : List Nat := [2, 3, 4, 5, 6, 7, 8, 9, 10, 11, 12, 13, 14, 15, 16, 17, 18, 19, 20, 21, 22, 23, 24, 25, 26, 27, 28, 29, 30, 31, 32, 33, 34, 35, 36, 37, 38, 39, 40, 41, 42, 43, 44, 45, 46, 47, 48, 49, 50, 51, 52, 53, 54, 55, 56, 57, 58, 59, 60, 61, 62, 63, 64, 65, 66, 67, 68, 69, 70, 71, 72, 73, 74, 75, 76, 77, 78, 79, 80, 81, 82, 83, 84, 85, 86, 87, 88, 89, 90, 91, 92, 93, 94, 95, 96, 97, 98, 99, 100, 101, 102, 104, 105, 106, 107, 108, 109, 110, 111, 112, 113, 115, 139]

noncomputable def C : Cx := { P := Tryd.prog, reg := reg, plain := fun n => plainL.elem n }

theorem C.plain_ok (g : Nat) (h : C.plain g = true) : plainFn C.P g = true := by
  have h' : g ∈ plainL := by simpa [C] using h
  have : plainL.all (fun g => plainFn Tryd.prog g) = true := by kernel_rfl
  exact List.all_eq_true.1 this g h'

theorem C.mixed : C.P.follows .mixedOrders = true := by kernel_rfl

/-- phosphor/phosphorlaw13.LineNew -/
def c_phosphorlaw13_LineNew (cols : Int) (a : T_api_Attr) (l : Slc) (w : World) (K : Bool → World → Prop) : Prop :=
  Calls Tryd.prog 3 #[(.int .i64 cols), (.agg #[(.int .i64 a.Fg), (.int .i64 a.Bg), (.int .i64 a.Flags)]), (.slice l.a l.n l.c)] w fun e w' => ∃ r0 : Bool, e = .returned (.bool r0) ∧ K r0 w'

/-- phosphor/phosphorlaw13.LineTexts -/
def c_phosphorlaw13_LineTexts (text : Slc) (at_ : Int) (w : World) (K : Bool → World → Prop) : Prop :=
  Calls Tryd.prog 4 #[(.slice text.a text.n text.c), (.int .i64 at_)] w fun e w' => ∃ r0 : Bool, e = .returned (.bool r0) ∧ K r0 w'

/-- phosphor/phosphorlaw13.LineMaps -/
def c_phosphorlaw13_LineMaps (l : Slc) (by_ : Int) (w : World) (K : Bool → World → Prop) : Prop :=
  Calls Tryd.prog 5 #[(.slice l.a l.n l.c), (.int .i64 by_)] w fun e w' => ∃ r0 : Bool, e = .returned (.bool r0) ∧ K r0 w'

/-- phosphor/phosphorlaw13.LineShifts -/
def c_phosphorlaw13_LineShifts (l : Slc) (col : Int) (n : Int) (a : T_api_Attr) (w : World) (K : Bool → World → Prop) : Prop :=
  Calls Tryd.prog 6 #[(.slice l.a l.n l.c), (.int .i64 col), (.int .i64 n), (.agg #[(.int .i64 a.Fg), (.int .i64 a.Bg), (.int .i64 a.Flags)])] w fun e w' => ∃ r0 : Bool, e = .returned (.bool r0) ∧ K r0 w'

/-- phosphor/phosphorlaw13.LinePlays -/
def c_phosphorlaw13_LinePlays (l : Slc) (acts : Slc) (w : World) (K : Bool → World → Prop) : Prop :=
  Calls Tryd.prog 7 #[(.slice l.a l.n l.c), (.slice acts.a acts.n acts.c)] w fun e w' => ∃ r0 : Bool, e = .returned (.bool r0) ∧ K r0 w'

/-- phosphor/phosphorlaw16.GridNumbers -/
def c_phosphorlaw16_GridNumbers (rows : Int) (back : Int) (n : Int) (w : World) (K : Bool → World → Prop) : Prop :=
  Calls Tryd.prog 8 #[(.int .i64 rows), (.int .i64 back), (.int .i64 n)] w fun e w' => ∃ r0 : Bool, e = .returned (.bool r0) ∧ K r0 w'

/-- phosphor/phosphorlaw16.GridScrolls -/
def c_phosphorlaw16_GridScrolls (rows : Int) (top : Int) (past : Int) (n : Int) (w : World) (K : Bool → World → Prop) : Prop :=
  Calls Tryd.prog 9 #[(.int .i64 rows), (.int .i64 top), (.int .i64 past), (.int .i64 n)] w fun e w' => ∃ r0 : Bool, e = .returned (.bool r0) ∧ K r0 w'

/-- phosphor/phosphorlaw16.GridShrinks -/
def c_phosphorlaw16_GridShrinks (rows : Int) (fewer : Int) (row : Int) (w : World) (K : Bool → World → Prop) : Prop :=
  Calls Tryd.prog 10 #[(.int .i64 rows), (.int .i64 fewer), (.int .i64 row)] w fun e w' => ∃ r0 : Bool, e = .returned (.bool r0) ∧ K r0 w'

/-- phosphor/phosphorlaw16.GridResizes -/
def c_phosphorlaw16_GridResizes (rows : Int) (cols : Int) (more : Int) (wider : Int) (row : Int) (w : World) (K : Bool → World → Prop) : Prop :=
  Calls Tryd.prog 11 #[(.int .i64 rows), (.int .i64 cols), (.int .i64 more), (.int .i64 wider), (.int .i64 row)] w fun e w' => ∃ r0 : Bool, e = .returned (.bool r0) ∧ K r0 w'

/-- phosphor/phosphorlaw16.GridPlays -/
def c_phosphorlaw16_GridPlays (rows : Int) (cols : Int) (back : Int) (l : Slc) (w : World) (K : Bool → World → Prop) : Prop :=
  Calls Tryd.prog 12 #[(.int .i64 rows), (.int .i64 cols), (.int .i64 back), (.slice l.a l.n l.c)] w fun e w' => ∃ r0 : Bool, e = .returned (.bool r0) ∧ K r0 w'

/-- phosphor/phosphorlaw13.known -/
def c_phosphorlaw13_known  (w : World) (K : Bool → World → Prop) : Prop :=
  Calls Tryd.prog 13 #[] w fun e w' => ∃ r0 : Bool, e = .returned (.bool r0) ∧ K r0 w'

/-- phosphor/line.New -/
def c_line_New (cols : Int) (a : T_api_Attr) (w : World) (K : Slc → World → Prop) : Prop :=
  Calls Tryd.prog 14 #[(.int .i64 cols), (.agg #[(.int .i64 a.Fg), (.int .i64 a.Bg), (.int .i64 a.Flags)])] w fun e w' => ∃ r0 : Slc, e = .returned (.slice r0.a r0.n r0.c) ∧ K r0 w'

/-- (phosphor/line.Line).Mend -/
def c_line_Line_Mend (l : Slc) (w : World) (K : Slc → World → Prop) : Prop :=
  Calls Tryd.prog 15 #[(.slice l.a l.n l.c)] w fun e w' => ∃ r0 : Slc, e = .returned (.slice r0.a r0.n r0.c) ∧ K r0 w'

/-- phosphor/phosphorref13.Same -/
def c_phosphorref13_Same (a : Slc) (b : Slc) (w : World) (K : Bool → World → Prop) : Prop :=
  Calls Tryd.prog 16 #[(.slice a.a a.n a.c), (.slice b.a b.n b.c)] w fun e w' => ∃ r0 : Bool, e = .returned (.bool r0) ∧ K r0 w'

/-- phosphor/phosphorref13.New -/
def c_phosphorref13_New (cols : Int) (a : T_api_Attr) (w : World) (K : Slc → World → Prop) : Prop :=
  Calls Tryd.prog 17 #[(.int .i64 cols), (.agg #[(.int .i64 a.Fg), (.int .i64 a.Bg), (.int .i64 a.Flags)])] w fun e w' => ∃ r0 : Slc, e = .returned (.slice r0.a r0.n r0.c) ∧ K r0 w'

/-- (phosphor/line.Line).Right -/
def c_line_Line_Right (l : Slc) (w : World) (K : Bool → World → Prop) : Prop :=
  Calls Tryd.prog 18 #[(.slice l.a l.n l.c)] w fun e w' => ∃ r0 : Bool, e = .returned (.bool r0) ∧ K r0 w'

/-- phosphor/phosphorref13.Right -/
def c_phosphorref13_Right (l : Slc) (w : World) (K : Bool → World → Prop) : Prop :=
  Calls Tryd.prog 19 #[(.slice l.a l.n l.c)] w fun e w' => ∃ r0 : Bool, e = .returned (.bool r0) ∧ K r0 w'

/-- phosphor/phosphorref13.Mend -/
def c_phosphorref13_Mend (l : Slc) (w : World) (K : Slc → World → Prop) : Prop :=
  Calls Tryd.prog 20 #[(.slice l.a l.n l.c)] w fun e w' => ∃ r0 : Slc, e = .returned (.slice r0.a r0.n r0.c) ∧ K r0 w'

/-- (phosphor/line.Line).Put -/
def c_line_Line_Put (l : Slc) (col : Int) (r : Int) (width : Int) (a : T_api_Attr) (w : World) (K : Slc → Bool → World → Prop) : Prop :=
  Calls Tryd.prog 21 #[(.slice l.a l.n l.c), (.int .i64 col), (.int .i32 r), (.int .i64 width), (.agg #[(.int .i64 a.Fg), (.int .i64 a.Bg), (.int .i64 a.Flags)])] w fun e w' => ∃ r0 : Slc, ∃ r1 : Bool, e = .returned (.tuple #[(.slice r0.a r0.n r0.c), (.bool r1)]) ∧ K r0 r1 w'

/-- (phosphor/line.Line).Text -/
def c_line_Line_Text (l : Slc) (w : World) (K : ByteArray → World → Prop) : Prop :=
  Calls Tryd.prog 22 #[(.slice l.a l.n l.c)] w fun e w' => ∃ r0 : ByteArray, e = .returned (.string r0) ∧ K r0 w'

/-- phosphor/line.Map[int] -/
def c_line_Map_int (l : Slc) (f : Value) (w : World) (K : Slc → World → Prop) : Prop :=
  Calls Tryd.prog 23 #[(.slice l.a l.n l.c), f] w fun e w' => ∃ r0 : Slc, e = .returned (.slice r0.a r0.n r0.c) ∧ K r0 w'

/-- phosphor/phosphorlaw13.LineMaps$1 -/
def c_phosphorlaw13_LineMaps_1 (c : T_api_Cell) (c0 : Addr) (w : World) (K : Int → World → Prop) : Prop :=
  Calls Tryd.prog 24 #[(.agg #[(.int .i32 c.R), (.int .i64 c.Kind), (.int .i64 c.A.Fg), (.int .i64 c.A.Bg), (.int .i64 c.A.Flags)]), (.pointer (some c0))] w fun e w' => ∃ r0 : Int, e = .returned (.int .i64 r0) ∧ K r0 w'

/-- phosphor/line.Map[bool] -/
def c_line_Map_bool (l : Slc) (f : Value) (w : World) (K : Slc → World → Prop) : Prop :=
  Calls Tryd.prog 25 #[(.slice l.a l.n l.c), f] w fun e w' => ∃ r0 : Slc, e = .returned (.slice r0.a r0.n r0.c) ∧ K r0 w'

/-- phosphor/phosphorlaw13.LineMaps$2 -/
def c_phosphorlaw13_LineMaps_2 (c : T_api_Cell) (w : World) (K : Bool → World → Prop) : Prop :=
  Calls Tryd.prog 26 #[(.agg #[(.int .i32 c.R), (.int .i64 c.Kind), (.int .i64 c.A.Fg), (.int .i64 c.A.Bg), (.int .i64 c.A.Flags)])] w fun e w' => ∃ r0 : Bool, e = .returned (.bool r0) ∧ K r0 w'

/-- (phosphor/line.Line).Insert -/
def c_line_Line_Insert (l : Slc) (col : Int) (n : Int) (a : T_api_Attr) (w : World) (K : Slc → World → Prop) : Prop :=
  Calls Tryd.prog 27 #[(.slice l.a l.n l.c), (.int .i64 col), (.int .i64 n), (.agg #[(.int .i64 a.Fg), (.int .i64 a.Bg), (.int .i64 a.Flags)])] w fun e w' => ∃ r0 : Slc, e = .returned (.slice r0.a r0.n r0.c) ∧ K r0 w'

/-- (phosphor/line.Line).Delete -/
def c_line_Line_Delete (l : Slc) (col : Int) (n : Int) (a : T_api_Attr) (w : World) (K : Slc → World → Prop) : Prop :=
  Calls Tryd.prog 28 #[(.slice l.a l.n l.c), (.int .i64 col), (.int .i64 n), (.agg #[(.int .i64 a.Fg), (.int .i64 a.Bg), (.int .i64 a.Flags)])] w fun e w' => ∃ r0 : Slc, e = .returned (.slice r0.a r0.n r0.c) ∧ K r0 w'

/-- phosphor/phosphorlaw13.step -/
def c_phosphorlaw13_step (l : Slc) (m : Slc) (a : T_phosphorlaw13_Act) (w : World) (K : Slc → Slc → Bool → World → Prop) : Prop :=
  Calls Tryd.prog 29 #[(.slice l.a l.n l.c), (.slice m.a m.n m.c), (.agg #[(.int .i64 a.Op), (.int .i64 a.Col), (.int .i64 a.N), (.int .i32 a.R), (.int .i64 a.Width), (.int .i64 a.A.Fg), (.int .i64 a.A.Bg), (.int .i64 a.A.Flags)])] w fun e w' => ∃ r0 : Slc, ∃ r1 : Slc, ∃ r2 : Bool, e = .returned (.tuple #[(.slice r0.a r0.n r0.c), (.slice r1.a r1.n r1.c), (.bool r2)]) ∧ K r0 r1 r2 w'

/-- phosphor/phosphorref13.Text -/
def c_phosphorref13_Text (l : Slc) (w : World) (K : ByteArray → World → Prop) : Prop :=
  Calls Tryd.prog 30 #[(.slice l.a l.n l.c)] w fun e w' => ∃ r0 : ByteArray, e = .returned (.string r0) ∧ K r0 w'

/-- phosphor/line.Same -/
def c_line_Same (a : Slc) (b : Slc) (w : World) (K : Bool → World → Prop) : Prop :=
  Calls Tryd.prog 31 #[(.slice a.a a.n a.c), (.slice b.a b.n b.c)] w fun e w' => ∃ r0 : Bool, e = .returned (.bool r0) ∧ K r0 w'

/-- phosphor/phosphorlaw16.known -/
def c_phosphorlaw16_known  (w : World) (K : Bool → World → Prop) : Prop :=
  Calls Tryd.prog 32 #[] w fun e w' => ∃ r0 : Bool, e = .returned (.bool r0) ∧ K r0 w'

/-- phosphor/grid.New -/
def c_grid_New (rows : Int) (cols : Int) (back : Int) (w : World) (K : Option Addr → Int → World → Prop) : Prop :=
  Calls Tryd.prog 33 #[(.int .i64 rows), (.int .i64 cols), (.int .i64 back)] w fun e w' => ∃ r0 : Option Addr, ∃ r1 : Int, e = .returned (.tuple #[(.pointer r0), (.int .i64 r1)]) ∧ K r0 r1 w'

/-- (*phosphor/grid.Grid).Set -/
def c_grid_Grid_Set (g : Option Addr) (row : Int) (l : Slc) (w : World) (K : Bool → World → Prop) : Prop :=
  Calls Tryd.prog 34 #[(.pointer g), (.int .i64 row), (.slice l.a l.n l.c)] w fun e w' => ∃ r0 : Bool, e = .returned (.bool r0) ∧ K r0 w'

/-- (*phosphor/grid.Grid).Scroll -/
def c_grid_Grid_Scroll (g : Option Addr) (top : Int) (past : Int) (n : Int) (a : T_api_Attr) (w : World) (K : Int → World → Prop) : Prop :=
  Calls Tryd.prog 35 #[(.pointer g), (.int .i64 top), (.int .i64 past), (.int .i64 n), (.agg #[(.int .i64 a.Fg), (.int .i64 a.Bg), (.int .i64 a.Flags)])] w fun e w' => ∃ r0 : Int, e = .returned (.int .i64 r0) ∧ K r0 w'

/-- (*phosphor/grid.Grid).Top -/
def c_grid_Grid_Top (g : Option Addr) (w : World) (K : Int → World → Prop) : Prop :=
  Calls Tryd.prog 36 #[(.pointer g)] w fun e w' => ∃ r0 : Int, e = .returned (.int .i64 r0) ∧ K r0 w'

/-- (*phosphor/grid.Grid).Line -/
def c_grid_Grid_Line (g : Option Addr) (row : Int) (w : World) (K : Slc → Bool → World → Prop) : Prop :=
  Calls Tryd.prog 37 #[(.pointer g), (.int .i64 row)] w fun e w' => ∃ r0 : Slc, ∃ r1 : Bool, e = .returned (.tuple #[(.slice r0.a r0.n r0.c), (.bool r1)]) ∧ K r0 r1 w'

/-- (*phosphor/grid.Grid).First -/
def c_grid_Grid_First (g : Option Addr) (w : World) (K : Int → World → Prop) : Prop :=
  Calls Tryd.prog 38 #[(.pointer g)] w fun e w' => ∃ r0 : Int, e = .returned (.int .i64 r0) ∧ K r0 w'

/-- (*phosphor/grid.Grid).Old -/
def c_grid_Grid_Old (g : Option Addr) (i : Int) (w : World) (K : Slc → Bool → World → Prop) : Prop :=
  Calls Tryd.prog 39 #[(.pointer g), (.int .i64 i)] w fun e w' => ∃ r0 : Slc, ∃ r1 : Bool, e = .returned (.tuple #[(.slice r0.a r0.n r0.c), (.bool r1)]) ∧ K r0 r1 w'

/-- (*phosphor/grid.Grid).Back -/
def c_grid_Grid_Back (g : Option Addr) (w : World) (K : Int → World → Prop) : Prop :=
  Calls Tryd.prog 40 #[(.pointer g)] w fun e w' => ∃ r0 : Int, e = .returned (.int .i64 r0) ∧ K r0 w'

/-- (*phosphor/grid.Grid).Resize -/
def c_grid_Grid_Resize (g : Option Addr) (rows : Int) (cols : Int) (row : Int) (w : World) (K : Int → Int → World → Prop) : Prop :=
  Calls Tryd.prog 41 #[(.pointer g), (.int .i64 rows), (.int .i64 cols), (.int .i64 row)] w fun e w' => ∃ r0 : Int, ∃ r1 : Int, e = .returned (.tuple #[(.int .i64 r0), (.int .i64 r1)]) ∧ K r0 r1 w'

/-- (*phosphor/grid.Grid).Text -/
def c_grid_Grid_Text (g : Option Addr) (w : World) (K : Slc → World → Prop) : Prop :=
  Calls Tryd.prog 42 #[(.pointer g)] w fun e w' => ∃ r0 : Slc, e = .returned (.slice r0.a r0.n r0.c) ∧ K r0 w'

/-- phosphor/phosphorlaw16.few -/
def c_phosphorlaw16_few (l : Slc) (w : World) (K : Bool → World → Prop) : Prop :=
  Calls Tryd.prog 43 #[(.slice l.a l.n l.c)] w fun e w' => ∃ r0 : Bool, e = .returned (.bool r0) ∧ K r0 w'

/-- phosphor/phosphorref16.New -/
def c_phosphorref16_New (rows : Int) (cols : Int) (back : Int) (w : World) (K : Option Addr → Int → World → Prop) : Prop :=
  Calls Tryd.prog 44 #[(.int .i64 rows), (.int .i64 cols), (.int .i64 back)] w fun e w' => ∃ r0 : Option Addr, ∃ r1 : Int, e = .returned (.tuple #[(.pointer r0), (.int .i64 r1)]) ∧ K r0 r1 w'

/-- (*phosphor/phosphorref16.Grid).Set -/
def c_phosphorref16_Grid_Set (g : Option Addr) (row : Int) (l : Slc) (w : World) (K : Bool → World → Prop) : Prop :=
  Calls Tryd.prog 45 #[(.pointer g), (.int .i64 row), (.slice l.a l.n l.c)] w fun e w' => ∃ r0 : Bool, e = .returned (.bool r0) ∧ K r0 w'

/-- (*phosphor/phosphorref16.Grid).Scroll -/
def c_phosphorref16_Grid_Scroll (g : Option Addr) (top : Int) (past : Int) (n : Int) (a : T_api_Attr) (w : World) (K : Int → World → Prop) : Prop :=
  Calls Tryd.prog 46 #[(.pointer g), (.int .i64 top), (.int .i64 past), (.int .i64 n), (.agg #[(.int .i64 a.Fg), (.int .i64 a.Bg), (.int .i64 a.Flags)])] w fun e w' => ∃ r0 : Int, e = .returned (.int .i64 r0) ∧ K r0 w'

/-- (*phosphor/grid.Grid).Fill -/
def c_grid_Grid_Fill (g : Option Addr) (row : Int) (from_ : Int) (to : Int) (a : T_api_Attr) (w : World) (K : Bool → World → Prop) : Prop :=
  Calls Tryd.prog 47 #[(.pointer g), (.int .i64 row), (.int .i64 from_), (.int .i64 to), (.agg #[(.int .i64 a.Fg), (.int .i64 a.Bg), (.int .i64 a.Flags)])] w fun e w' => ∃ r0 : Bool, e = .returned (.bool r0) ∧ K r0 w'

/-- (*phosphor/phosphorref16.Grid).Fill -/
def c_phosphorref16_Grid_Fill (g : Option Addr) (row : Int) (from_ : Int) (to : Int) (a : T_api_Attr) (w : World) (K : Bool → World → Prop) : Prop :=
  Calls Tryd.prog 48 #[(.pointer g), (.int .i64 row), (.int .i64 from_), (.int .i64 to), (.agg #[(.int .i64 a.Fg), (.int .i64 a.Bg), (.int .i64 a.Flags)])] w fun e w' => ∃ r0 : Bool, e = .returned (.bool r0) ∧ K r0 w'

/-- (*phosphor/phosphorref16.Grid).Resize -/
def c_phosphorref16_Grid_Resize (g : Option Addr) (rows : Int) (cols : Int) (row : Int) (w : World) (K : Int → Int → World → Prop) : Prop :=
  Calls Tryd.prog 49 #[(.pointer g), (.int .i64 rows), (.int .i64 cols), (.int .i64 row)] w fun e w' => ∃ r0 : Int, ∃ r1 : Int, e = .returned (.tuple #[(.int .i64 r0), (.int .i64 r1)]) ∧ K r0 r1 w'

/-- (*phosphor/grid.Grid).Clear -/
def c_grid_Grid_Clear (g : Option Addr) (a : T_api_Attr) (w : World) (K : World → Prop) : Prop :=
  Calls Tryd.prog 50 #[(.pointer g), (.agg #[(.int .i64 a.Fg), (.int .i64 a.Bg), (.int .i64 a.Flags)])] w fun e w' => e = .returned (.tuple #[]) ∧ K w'

/-- (*phosphor/phosphorref16.Grid).Clear -/
def c_phosphorref16_Grid_Clear (g : Option Addr) (a : T_api_Attr) (w : World) (K : World → Prop) : Prop :=
  Calls Tryd.prog 51 #[(.pointer g), (.agg #[(.int .i64 a.Fg), (.int .i64 a.Bg), (.int .i64 a.Flags)])] w fun e w' => e = .returned (.tuple #[]) ∧ K w'

/-- (*phosphor/grid.Grid).Forget -/
def c_grid_Grid_Forget (g : Option Addr) (w : World) (K : World → Prop) : Prop :=
  Calls Tryd.prog 52 #[(.pointer g)] w fun e w' => e = .returned (.tuple #[]) ∧ K w'

/-- phosphor/phosphorlaw16.looks -/
def c_phosphorlaw16_looks (g : Option Addr) (r : Option Addr) (i : Int) (w : World) (K : Bool → World → Prop) : Prop :=
  Calls Tryd.prog 53 #[(.pointer g), (.pointer r), (.int .i64 i)] w fun e w' => ∃ r0 : Bool, e = .returned (.bool r0) ∧ K r0 w'

/-- phosphor/line.blanks -/
def c_line_blanks (n : Int) (a : T_api_Attr) (w : World) (K : Slc → World → Prop) : Prop :=
  Calls Tryd.prog 54 #[(.int .i64 n), (.agg #[(.int .i64 a.Fg), (.int .i64 a.Bg), (.int .i64 a.Flags)])] w fun e w' => ∃ r0 : Slc, e = .returned (.slice r0.a r0.n r0.c) ∧ K r0 w'

/-- slices.Clone[phosphor/line.Line,phosphor/api.Cell] -/
def c_slices_Clone_line_Line_api_Cell (s : Slc) (w : World) (K : Slc → World → Prop) : Prop :=
  Calls Tryd.prog 55 #[(.slice s.a s.n s.c)] w fun e w' => ∃ r0 : Slc, e = .returned (.slice r0.a r0.n r0.c) ∧ K r0 w'

/-- (phosphor/line.Line).fits -/
def c_line_Line_fits (l : Slc) (col : Int) (w : World) (K : Bool → World → Prop) : Prop :=
  Calls Tryd.prog 56 #[(.slice l.a l.n l.c), (.int .i64 col)] w fun e w' => ∃ r0 : Bool, e = .returned (.bool r0) ∧ K r0 w'

/-- phosphor/phosphorref13.blank -/
def c_phosphorref13_blank (a : T_api_Attr) (w : World) (K : T_api_Cell → World → Prop) : Prop :=
  Calls Tryd.prog 57 #[(.agg #[(.int .i64 a.Fg), (.int .i64 a.Bg), (.int .i64 a.Flags)])] w fun e w' => ∃ r0 : T_api_Cell, e = .returned (.agg #[(.int .i32 r0.R), (.int .i64 r0.Kind), (.int .i64 r0.A.Fg), (.int .i64 r0.A.Bg), (.int .i64 r0.A.Flags)]) ∧ K r0 w'

/-- (phosphor/line.Line).halves -/
def c_line_Line_halves (l : Slc) (from_ : Int) (to : Int) (w : World) (K : Slc → World → Prop) : Prop :=
  Calls Tryd.prog 58 #[(.slice l.a l.n l.c), (.int .i64 from_), (.int .i64 to)] w fun e w' => ∃ r0 : Slc, e = .returned (.slice r0.a r0.n r0.c) ∧ K r0 w'

/-- (*strings.Builder).WriteByte -/
def c_strings_Builder_WriteByte (b : Option Addr) (c : Int) (w : World) (K : Value → World → Prop) : Prop :=
  Calls Tryd.prog 59 #[(.pointer b), (.int .u8 c)] w fun e w' => ∃ r0 : Value, e = .returned r0 ∧ K r0 w'

/-- (*strings.Builder).Write -/
def c_strings_Builder_Write (b : Option Addr) (p : Slc) (w : World) (K : Int → Value → World → Prop) : Prop :=
  Calls Tryd.prog 60 #[(.pointer b), (.slice p.a p.n p.c)] w fun e w' => ∃ r0 : Int, ∃ r1 : Value, e = .returned (.tuple #[(.int .i64 r0), r1]) ∧ K r0 r1 w'

/-- phosphor/utf.Encode -/
def c_utf_Encode (l : Slc) (w : World) (K : Slc → World → Prop) : Prop :=
  Calls Tryd.prog 61 #[(.slice l.a l.n l.c)] w fun e w' => ∃ r0 : Slc, e = .returned (.slice r0.a r0.n r0.c) ∧ K r0 w'

/-- strings.TrimRight -/
def c_strings_TrimRight (s : ByteArray) (cutset : ByteArray) (w : World) (K : ByteArray → World → Prop) : Prop :=
  Calls Tryd.prog 62 #[(.string s), (.string cutset)] w fun e w' => ∃ r0 : ByteArray, e = .returned (.string r0) ∧ K r0 w'

/-- (*strings.Builder).String -/
def c_strings_Builder_String (b : Option Addr) (w : World) (K : ByteArray → World → Prop) : Prop :=
  Calls Tryd.prog 63 #[(.pointer b)] w fun e w' => ∃ r0 : ByteArray, e = .returned (.string r0) ∧ K r0 w'

/-- (phosphor/line.Line).many -/
def c_line_Line_many (l : Slc) (col : Int) (n : Int) (w : World) (K : Int → World → Prop) : Prop :=
  Calls Tryd.prog 64 #[(.slice l.a l.n l.c), (.int .i64 col), (.int .i64 n)] w fun e w' => ∃ r0 : Int, e = .returned (.int .i64 r0) ∧ K r0 w'

/-- slices.Concat[phosphor/line.Line,phosphor/api.Cell] -/
def c_slices_Concat_line_Line_api_Cell (slices : Slc) (w : World) (K : Slc → World → Prop) : Prop :=
  Calls Tryd.prog 65 #[(.slice slices.a slices.n slices.c)] w fun e w' => ∃ r0 : Slc, e = .returned (.slice r0.a r0.n r0.c) ∧ K r0 w'

/-- phosphor/phosphorref13.Put -/
def c_phosphorref13_Put (l : Slc) (col : Int) (r : Int) (width : Int) (a : T_api_Attr) (w : World) (K : Slc → Bool → World → Prop) : Prop :=
  Calls Tryd.prog 66 #[(.slice l.a l.n l.c), (.int .i64 col), (.int .i64 r), (.int .i64 width), (.agg #[(.int .i64 a.Fg), (.int .i64 a.Bg), (.int .i64 a.Flags)])] w fun e w' => ∃ r0 : Slc, ∃ r1 : Bool, e = .returned (.tuple #[(.slice r0.a r0.n r0.c), (.bool r1)]) ∧ K r0 r1 w'

/-- phosphor/phosphorref13.Insert -/
def c_phosphorref13_Insert (l : Slc) (col : Int) (n : Int) (a : T_api_Attr) (w : World) (K : Slc → World → Prop) : Prop :=
  Calls Tryd.prog 67 #[(.slice l.a l.n l.c), (.int .i64 col), (.int .i64 n), (.agg #[(.int .i64 a.Fg), (.int .i64 a.Bg), (.int .i64 a.Flags)])] w fun e w' => ∃ r0 : Slc, e = .returned (.slice r0.a r0.n r0.c) ∧ K r0 w'

/-- phosphor/phosphorref13.Delete -/
def c_phosphorref13_Delete (l : Slc) (col : Int) (n : Int) (a : T_api_Attr) (w : World) (K : Slc → World → Prop) : Prop :=
  Calls Tryd.prog 68 #[(.slice l.a l.n l.c), (.int .i64 col), (.int .i64 n), (.agg #[(.int .i64 a.Fg), (.int .i64 a.Bg), (.int .i64 a.Flags)])] w fun e w' => ∃ r0 : Slc, e = .returned (.slice r0.a r0.n r0.c) ∧ K r0 w'

/-- (phosphor/line.Line).Erase -/
def c_line_Line_Erase (l : Slc) (from_ : Int) (to : Int) (a : T_api_Attr) (w : World) (K : Slc → World → Prop) : Prop :=
  Calls Tryd.prog 69 #[(.slice l.a l.n l.c), (.int .i64 from_), (.int .i64 to), (.agg #[(.int .i64 a.Fg), (.int .i64 a.Bg), (.int .i64 a.Flags)])] w fun e w' => ∃ r0 : Slc, e = .returned (.slice r0.a r0.n r0.c) ∧ K r0 w'

/-- phosphor/phosphorref13.Erase -/
def c_phosphorref13_Erase (l : Slc) (from_ : Int) (to : Int) (a : T_api_Attr) (w : World) (K : Slc → World → Prop) : Prop :=
  Calls Tryd.prog 70 #[(.slice l.a l.n l.c), (.int .i64 from_), (.int .i64 to), (.agg #[(.int .i64 a.Fg), (.int .i64 a.Bg), (.int .i64 a.Flags)])] w fun e w' => ∃ r0 : Slc, e = .returned (.slice r0.a r0.n r0.c) ∧ K r0 w'

/-- (phosphor/line.Line).Resize -/
def c_line_Line_Resize (l : Slc) (cols : Int) (w : World) (K : Slc → World → Prop) : Prop :=
  Calls Tryd.prog 71 #[(.slice l.a l.n l.c), (.int .i64 cols)] w fun e w' => ∃ r0 : Slc, e = .returned (.slice r0.a r0.n r0.c) ∧ K r0 w'

/-- phosphor/phosphorref13.Resize -/
def c_phosphorref13_Resize (l : Slc) (cols : Int) (w : World) (K : Slc → World → Prop) : Prop :=
  Calls Tryd.prog 72 #[(.slice l.a l.n l.c), (.int .i64 cols)] w fun e w' => ∃ r0 : Slc, e = .returned (.slice r0.a r0.n r0.c) ∧ K r0 w'

/-- phosphor/phosphorref10.Encode -/
def c_phosphorref10_Encode (r : Int) (w : World) (K : Slc → World → Prop) : Prop :=
  Calls Tryd.prog 73 #[(.int .i64 r)] w fun e w' => ∃ r0 : Slc, e = .returned (.slice r0.a r0.n r0.c) ∧ K r0 w'

/-- slices.Equal[phosphor/line.Line,phosphor/api.Cell] -/
def c_slices_Equal_line_Line_api_Cell (s1 : Slc) (s2 : Slc) (w : World) (K : Bool → World → Prop) : Prop :=
  Calls Tryd.prog 74 #[(.slice s1.a s1.n s1.c), (.slice s2.a s2.n s2.c)] w fun e w' => ∃ r0 : Bool, e = .returned (.bool r0) ∧ K r0 w'

/-- phosphor/grid.size -/
def c_grid_size (n : Int) (w : World) (K : Bool → World → Prop) : Prop :=
  Calls Tryd.prog 75 #[(.int .i64 n)] w fun e w' => ∃ r0 : Bool, e = .returned (.bool r0) ∧ K r0 w'

/-- phosphor/ring.New[phosphor/line.Line] -/
def c_ring_New_line_Line (most : Int) (w : World) (K : Option Addr → Int → World → Prop) : Prop :=
  Calls Tryd.prog 76 #[(.int .i64 most)] w fun e w' => ∃ r0 : Option Addr, ∃ r1 : Int, e = .returned (.tuple #[(.pointer r0), (.int .i64 r1)]) ∧ K r0 r1 w'

/-- (*phosphor/grid.Grid).is -/
def c_grid_Grid_is (g : Option Addr) (row : Int) (w : World) (K : Bool → World → Prop) : Prop :=
  Calls Tryd.prog 77 #[(.pointer g), (.int .i64 row)] w fun e w' => ∃ r0 : Bool, e = .returned (.bool r0) ∧ K r0 w'

/-- slices.Concat[[]phosphor/line.Line,phosphor/line.Line] -/
def c_slices_Concat_line_Line_line_Line (slices : Slc) (w : World) (K : Slc → World → Prop) : Prop :=
  Calls Tryd.prog 78 #[(.slice slices.a slices.n slices.c)] w fun e w' => ∃ r0 : Slc, e = .returned (.slice r0.a r0.n r0.c) ∧ K r0 w'

/-- (*phosphor/grid.Grid).blanks -/
def c_grid_Grid_blanks (g : Option Addr) (n : Int) (a : T_api_Attr) (w : World) (K : Slc → World → Prop) : Prop :=
  Calls Tryd.prog 79 #[(.pointer g), (.int .i64 n), (.agg #[(.int .i64 a.Fg), (.int .i64 a.Bg), (.int .i64 a.Flags)])] w fun e w' => ∃ r0 : Slc, e = .returned (.slice r0.a r0.n r0.c) ∧ K r0 w'

/-- (*phosphor/ring.Ring[phosphor/line.Line]).Push -/
def c_ring_Ring_line_Line_Push (r : Option Addr) (t : Slc) (w : World) (K : Slc → Bool → World → Prop) : Prop :=
  Calls Tryd.prog 80 #[(.pointer r), (.slice t.a t.n t.c)] w fun e w' => ∃ r0 : Slc, ∃ r1 : Bool, e = .returned (.tuple #[(.slice r0.a r0.n r0.c), (.bool r1)]) ∧ K r0 r1 w'

/-- (*phosphor/ring.Ring[phosphor/line.Line]).At -/
def c_ring_Ring_line_Line_At (r : Option Addr) (i : Int) (w : World) (K : Slc → Bool → World → Prop) : Prop :=
  Calls Tryd.prog 81 #[(.pointer r), (.int .i64 i)] w fun e w' => ∃ r0 : Slc, ∃ r1 : Bool, e = .returned (.tuple #[(.slice r0.a r0.n r0.c), (.bool r1)]) ∧ K r0 r1 w'

/-- (*phosphor/ring.Ring[phosphor/line.Line]).Len -/
def c_ring_Ring_line_Line_Len (r : Option Addr) (w : World) (K : Int → World → Prop) : Prop :=
  Calls Tryd.prog 82 #[(.pointer r)] w fun e w' => ∃ r0 : Int, e = .returned (.int .i64 r0) ∧ K r0 w'

/-- phosphor/phosphorref16.size -/
def c_phosphorref16_size (n : Int) (w : World) (K : Bool → World → Prop) : Prop :=
  Calls Tryd.prog 83 #[(.int .i64 n)] w fun e w' => ∃ r0 : Bool, e = .returned (.bool r0) ∧ K r0 w'

/-- (*phosphor/phosphorref16.Grid).Is -/
def c_phosphorref16_Grid_Is (g : Option Addr) (row : Int) (w : World) (K : Bool → World → Prop) : Prop :=
  Calls Tryd.prog 84 #[(.pointer g), (.int .i64 row)] w fun e w' => ∃ r0 : Bool, e = .returned (.bool r0) ∧ K r0 w'

/-- (*phosphor/phosphorref16.Grid).leave -/
def c_phosphorref16_Grid_leave (g : Option Addr) (l : Slc) (w : World) (K : World → Prop) : Prop :=
  Calls Tryd.prog 85 #[(.pointer g), (.slice l.a l.n l.c)] w fun e w' => e = .returned (.tuple #[]) ∧ K w'

/-- (*phosphor/grid.Grid).Change -/
def c_grid_Grid_Change (g : Option Addr) (row : Int) (f : Value) (w : World) (K : Bool → World → Prop) : Prop :=
  Calls Tryd.prog 86 #[(.pointer g), (.int .i64 row), f] w fun e w' => ∃ r0 : Bool, e = .returned (.bool r0) ∧ K r0 w'

/-- (*phosphor/grid.Grid).Fill$1 -/
def c_grid_Grid_Fill_1 (l : Slc) (c0 : Addr) (c1 : Addr) (c2 : Addr) (w : World) (K : Slc → World → Prop) : Prop :=
  Calls Tryd.prog 87 #[(.slice l.a l.n l.c), (.pointer (some c0)), (.pointer (some c1)), (.pointer (some c2))] w fun e w' => ∃ r0 : Slc, e = .returned (.slice r0.a r0.n r0.c) ∧ K r0 w'

/-- (*phosphor/ring.Ring[phosphor/line.Line]).Clear -/
def c_ring_Ring_line_Line_Clear (r : Option Addr) (w : World) (K : World → Prop) : Prop :=
  Calls Tryd.prog 88 #[(.pointer r)] w fun e w' => e = .returned (.tuple #[]) ∧ K w'

/-- (*phosphor/grid.Grid).Size -/
def c_grid_Grid_Size (g : Option Addr) (w : World) (K : Int → Int → World → Prop) : Prop :=
  Calls Tryd.prog 89 #[(.pointer g)] w fun e w' => ∃ r0 : Int, ∃ r1 : Int, e = .returned (.tuple #[(.int .i64 r0), (.int .i64 r1)]) ∧ K r0 r1 w'

/-- (phosphor/line.Line).is -/
def c_line_Line_is (l : Slc) (col : Int) (kind : Int) (w : World) (K : Bool → World → Prop) : Prop :=
  Calls Tryd.prog 90 #[(.slice l.a l.n l.c), (.int .i64 col), (.int .i64 kind)] w fun e w' => ∃ r0 : Bool, e = .returned (.bool r0) ∧ K r0 w'

/-- (*strings.Builder).copyCheck -/
def c_strings_Builder_copyCheck (b : Option Addr) (w : World) (K : World → Prop) : Prop :=
  Calls Tryd.prog 91 #[(.pointer b)] w fun e w' => e = .returned (.tuple #[]) ∧ K w'

/-- phosphor/utf.Is -/
def c_utf_Is (r : Int) (w : World) (K : Bool → World → Prop) : Prop :=
  Calls Tryd.prog 92 #[(.int .i32 r)] w fun e w' => ∃ r0 : Bool, e = .returned (.bool r0) ∧ K r0 w'

/-- strings.trimRightByte -/
def c_strings_trimRightByte (s : ByteArray) (c : Int) (w : World) (K : ByteArray → World → Prop) : Prop :=
  Calls Tryd.prog 93 #[(.string s), (.int .u8 c)] w fun e w' => ∃ r0 : ByteArray, e = .returned (.string r0) ∧ K r0 w'

/-- strings.trimRightASCII -/
def c_strings_trimRightASCII (s : ByteArray) (as_ : Option Addr) (w : World) (K : ByteArray → World → Prop) : Prop :=
  Calls Tryd.prog 95 #[(.string s), (.pointer as_)] w fun e w' => ∃ r0 : ByteArray, e = .returned (.string r0) ∧ K r0 w'

/-- strings.trimRightUnicode -/
def c_strings_trimRightUnicode (s : ByteArray) (cutset : ByteArray) (w : World) (K : ByteArray → World → Prop) : Prop :=
  Calls Tryd.prog 96 #[(.string s), (.string cutset)] w fun e w' => ∃ r0 : ByteArray, e = .returned (.string r0) ∧ K r0 w'

/-- slices.Grow[phosphor/line.Line,phosphor/api.Cell] -/
def c_slices_Grow_line_Line_api_Cell (s : Slc) (n : Int) (w : World) (K : Slc → World → Prop) : Prop :=
  Calls Tryd.prog 97 #[(.slice s.a s.n s.c), (.int .i64 n)] w fun e w' => ∃ r0 : Slc, e = .returned (.slice r0.a r0.n r0.c) ∧ K r0 w'

/-- phosphor/phosphorref13.over -/
def c_phosphorref13_over (l : Slc) (from_ : Int) (to : Int) (w : World) (K : Slc → World → Prop) : Prop :=
  Calls Tryd.prog 98 #[(.slice l.a l.n l.c), (.int .i64 from_), (.int .i64 to)] w fun e w' => ∃ r0 : Slc, e = .returned (.slice r0.a r0.n r0.c) ∧ K r0 w'

/-- phosphor/phosphorref13.count -/
def c_phosphorref13_count (l : Slc) (col : Int) (n : Int) (w : World) (K : Int → World → Prop) : Prop :=
  Calls Tryd.prog 99 #[(.slice l.a l.n l.c), (.int .i64 col), (.int .i64 n)] w fun e w' => ∃ r0 : Int, e = .returned (.int .i64 r0) ∧ K r0 w'

/-- phosphor/phosphorref10.none -/
def c_phosphorref10_none (r : Int) (w : World) (K : Bool → World → Prop) : Prop :=
  Calls Tryd.prog 100 #[(.int .i64 r)] w fun e w' => ∃ r0 : Bool, e = .returned (.bool r0) ∧ K r0 w'

/-- slices.Grow[[]phosphor/line.Line,phosphor/line.Line] -/
def c_slices_Grow_line_Line_line_Line (s : Slc) (n : Int) (w : World) (K : Slc → World → Prop) : Prop :=
  Calls Tryd.prog 101 #[(.slice s.a s.n s.c), (.int .i64 n)] w fun e w' => ∃ r0 : Slc, e = .returned (.slice r0.a r0.n r0.c) ∧ K r0 w'

/-- (*phosphor/ring.Ring[phosphor/line.Line]).even -/
def c_ring_Ring_line_Line_even (r : Option Addr) (w : World) (K : World → Prop) : Prop :=
  Calls Tryd.prog 102 #[(.pointer r)] w fun e w' => e = .returned (.tuple #[]) ∧ K w'

/-- (*strings.asciiSet).contains -/
def c_strings_asciiSet_contains (as_ : Option Addr) (c : Int) (w : World) (K : Bool → World → Prop) : Prop :=
  Calls Tryd.prog 104 #[(.pointer as_), (.int .u8 c)] w fun e w' => ∃ r0 : Bool, e = .returned (.bool r0) ∧ K r0 w'

/-- unicode/utf8.DecodeLastRuneInString -/
def c_unicode_utf8_DecodeLastRuneInString (s : ByteArray) (w : World) (K : Int → Int → World → Prop) : Prop :=
  Calls Tryd.prog 105 #[(.string s)] w fun e w' => ∃ r0 : Int, ∃ r1 : Int, e = .returned (.tuple #[(.int .i32 r0), (.int .i64 r1)]) ∧ K r0 r1 w'

/-- strings.ContainsRune -/
def c_strings_ContainsRune (s : ByteArray) (r : Int) (w : World) (K : Bool → World → Prop) : Prop :=
  Calls Tryd.prog 106 #[(.string s), (.int .i32 r)] w fun e w' => ∃ r0 : Bool, e = .returned (.bool r0) ∧ K r0 w'

/-- unicode/utf8.RuneStart -/
def c_unicode_utf8_RuneStart (b : Int) (w : World) (K : Bool → World → Prop) : Prop :=
  Calls Tryd.prog 107 #[(.int .u8 b)] w fun e w' => ∃ r0 : Bool, e = .returned (.bool r0) ∧ K r0 w'

/-- unicode/utf8.DecodeRuneInString -/
def c_unicode_utf8_DecodeRuneInString (s : ByteArray) (w : World) (K : Int → Int → World → Prop) : Prop :=
  Calls Tryd.prog 108 #[(.string s)] w fun e w' => ∃ r0 : Int, ∃ r1 : Int, e = .returned (.tuple #[(.int .i32 r0), (.int .i64 r1)]) ∧ K r0 r1 w'

/-- strings.IndexRune -/
def c_strings_IndexRune (s : ByteArray) (r : Int) (w : World) (K : Int → World → Prop) : Prop :=
  Calls Tryd.prog 109 #[(.string s), (.int .i32 r)] w fun e w' => ∃ r0 : Int, e = .returned (.int .i64 r0) ∧ K r0 w'

/-- unicode/utf8.decodeRuneInStringSlow -/
def c_unicode_utf8_decodeRuneInStringSlow (s : ByteArray) (w : World) (K : Int → Int → World → Prop) : Prop :=
  Calls Tryd.prog 110 #[(.string s)] w fun e w' => ∃ r0 : Int, ∃ r1 : Int, e = .returned (.tuple #[(.int .i32 r0), (.int .i64 r1)]) ∧ K r0 r1 w'

/-- strings.IndexByte -/
def c_strings_IndexByte (s : ByteArray) (c : Int) (w : World) (K : Int → World → Prop) : Prop :=
  Calls Tryd.prog 111 #[(.string s), (.int .u8 c)] w fun e w' => ∃ r0 : Int, e = .returned (.int .i64 r0) ∧ K r0 w'

/-- unicode/utf8.ValidRune -/
def c_unicode_utf8_ValidRune (r : Int) (w : World) (K : Bool → World → Prop) : Prop :=
  Calls Tryd.prog 112 #[(.int .i32 r)] w fun e w' => ∃ r0 : Bool, e = .returned (.bool r0) ∧ K r0 w'

/-- internal/bytealg.Cutover -/
def c_internal_bytealg_Cutover (n : Int) (w : World) (K : Int → World → Prop) : Prop :=
  Calls Tryd.prog 113 #[(.int .i64 n)] w fun e w' => ∃ r0 : Int, e = .returned (.int .i64 r0) ∧ K r0 w'

/-- internal/stringslite.IndexByte -/
def c_internal_stringslite_IndexByte (s : ByteArray) (c : Int) (w : World) (K : Int → World → Prop) : Prop :=
  Calls Tryd.prog 115 #[(.string s), (.int .u8 c)] w fun e w' => ∃ r0 : Int, e = .returned (.int .i64 r0) ∧ K r0 w'

end Go.Proofs.YtgejghejnibocaaDoor
