import Derived.Test.YtcigiaecigedmaaGreatDoorVc
import Derived.Test.YtcigiaecigedmaaGreatDoorChecked
import Derived.KernelRfl
set_option maxRecDepth 100000
set_option linter.unusedVariables false
namespace Go.Proofs.YtcigiaecigedmaaGreatDoor
open Go.Vc
structure qaa where
 W:Int
 H:Int
 P:Slc
def qaa.rep:Rep where
 T:=qaa
 cells x:=[(.int .i64 x.W),(.int .i64 x.H),(.slice x.P.a x.P.n x.P.c)]
 get l:=match l with
  | [.int .i64 v1,.int .i64 v2,.slice v3a v3n v3c]=>some ⟨v1,v2,⟨v3a,v3n,v3c⟩⟩
  | _=>none
 ok l c h:=by
  split at h
  ·injection h with h;subst h;rfl
  ·cases h
structure qau where
 Rows:Int
 Cols:Int
 CellW:Int
 CellH:Int
 Back:Int
 Quota:Int
def qau.rep:Rep where
 T:=qau
 cells x:=[(.int .i64 x.Rows),(.int .i64 x.Cols),(.int .i64 x.CellW),(.int .i64 x.CellH),(.int .i64 x.Back),(.int .i64 x.Quota)]
 get l:=match l with
  | [.int .i64 v1,.int .i64 v2,.int .i64 v3,.int .i64 v4,.int .i64 v5,.int .i64 v6]=>some ⟨v1,v2,v3,v4,v5,v6⟩
  | _=>none
 ok l c h:=by
  split at h
  ·injection h with h;subst h;rfl
  ·cases h
structure qli where
 addr:Option Addr
 buf:Slc
def qli.rep:Rep where
 T:=qli
 cells x:=[(.pointer x.addr),(.slice x.buf.a x.buf.n x.buf.c)]
 get l:=match l with
  | [.pointer v1,.slice v2a v2n v2c]=>some ⟨v1,⟨v2a,v2n,v2c⟩⟩
  | _=>none
 ok l c h:=by
  split at h
  ·injection h with h;subst h;rfl
  ·cases h
structure qac where
 Fg:Int
 Bg:Int
 Flags:Int
def qac.rep:Rep where
 T:=qac
 cells x:=[(.int .i64 x.Fg),(.int .i64 x.Bg),(.int .i64 x.Flags)]
 get l:=match l with
  | [.int .i64 v1,.int .i64 v2,.int .i64 v3]=>some ⟨v1,v2,v3⟩
  | _=>none
 ok l c h:=by
  split at h
  ·injection h with h;subst h;rfl
  ·cases h
structure qax where
 R:Int
 Kind:Int
 A:qac
def qax.rep:Rep where
 T:=qax
 cells x:=[(.int .i32 x.R),(.int .i64 x.Kind),(.int .i64 x.A.Fg),(.int .i64 x.A.Bg),(.int .i64 x.A.Flags)]
 get l:=match l with
  | [.int .i32 v1,.int .i64 v2,.int .i64 v3,.int .i64 v4,.int .i64 v5]=>some ⟨v1,v2,⟨v3,v4,v5⟩⟩
  | _=>none
 ok l c h:=by
  split at h
  ·injection h with h;subst h;rfl
  ·cases h
structure qfd where
 e0:Int
 e1:Int
def qfd.rep:Rep where
 T:=qfd
 cells x:=[(.int .i64 x.e0),(.int .i64 x.e1)]
 get l:=match l with
  | [.int .i64 v1,.int .i64 v2]=>some ⟨v1,v2⟩
  | _=>none
 ok l c h:=by
  split at h
  ·injection h with h;subst h;rfl
  ·cases h
structure qwp where
 c:qau
 s:Option Addr
 e:Option Addr
 p:Option Addr
 d:Option Addr
 command:Slc
 long:Bool
 replies:Slc
 firsts:qfd
def qwp.rep:Rep where
 T:=qwp
 cells x:=[(.int .i64 x.c.Rows),(.int .i64 x.c.Cols),(.int .i64 x.c.CellW),(.int .i64 x.c.CellH),(.int .i64 x.c.Back),(.int .i64 x.c.Quota),(.pointer x.s),(.pointer x.e),(.pointer x.p),(.pointer x.d),(.slice x.command.a x.command.n x.command.c),(.bool x.long),(.slice x.replies.a x.replies.n x.replies.c),(.int .i64 x.firsts.e0),(.int .i64 x.firsts.e1)]
 get l:=match l with
  | [.int .i64 v1,.int .i64 v2,.int .i64 v3,.int .i64 v4,.int .i64 v5,.int .i64 v6,.pointer v7,.pointer v8,.pointer v9,.pointer v10,.slice v11a v11n v11c,.bool v12,.slice v13a v13n v13c,.int .i64 v14,.int .i64 v15]=>some ⟨⟨v1,v2,v3,v4,v5,v6⟩,v7,v8,v9,v10,⟨v11a,v11n,v11c⟩,v12,⟨v13a,v13n,v13c⟩,⟨v14,v15⟩⟩
  | _=>none
 ok l c h:=by
  split at h
  ·injection h with h;subst h;rfl
  ·cases h
structure qaf where
 Rows:Int
 Cols:Int
 CellW:Int
 CellH:Int
 Lines:Slc
 Places:Slc
 Images:Option Nat
 Top:Int
 Cursor:Bool
 Row:Int
 Col:Int
def qaf.rep:Rep where
 T:=qaf
 cells x:=[(.int .i64 x.Rows),(.int .i64 x.Cols),(.int .i64 x.CellW),(.int .i64 x.CellH),(.slice x.Lines.a x.Lines.n x.Lines.c),(.slice x.Places.a x.Places.n x.Places.c),(.map x.Images),(.int .i64 x.Top),(.bool x.Cursor),(.int .i64 x.Row),(.int .i64 x.Col)]
 get l:=match l with
  | [.int .i64 v1,.int .i64 v2,.int .i64 v3,.int .i64 v4,.slice v5a v5n v5c,.slice v6a v6n v6c,.map v7,.int .i64 v8,.bool v9,.int .i64 v10,.int .i64 v11]=>some ⟨v1,v2,v3,v4,⟨v5a,v5n,v5c⟩,⟨v6a,v6n,v6c⟩,v7,v8,v9,v10,v11⟩
  | _=>none
 ok l c h:=by
  split at h
  ·injection h with h;subst h;rfl
  ·cases h
structure qbf where
 Kind:Int
 R:Int
 B:Int
 Private:Int
 Inter:ByteArray
 Params:Slc
 Data:Slc
def qbf.rep:Rep where
 T:=qbf
 cells x:=[(.int .i64 x.Kind),(.int .i32 x.R),(.int .u8 x.B),(.int .u8 x.Private),(.string x.Inter),(.slice x.Params.a x.Params.n x.Params.c),(.slice x.Data.a x.Data.n x.Data.c)]
 get l:=match l with
  | [.int .i64 v1,.int .i32 v2,.int .u8 v3,.int .u8 v4,.string v5,.slice v6a v6n v6c,.slice v7a v7n v7c]=>some ⟨v1,v2,v3,v4,v5,⟨v6a,v6n,v6c⟩,⟨v7a,v7n,v7c⟩⟩
  | _=>none
 ok l c h:=by
  split at h
  ·injection h with h;subst h;rfl
  ·cases h
structure qi0 where
 number:Int
 m:qaa
 stamp:Int
 born:Int
def qi0.rep:Rep where
 T:=qi0
 cells x:=[(.int .i64 x.number),(.int .i64 x.m.W),(.int .i64 x.m.H),(.slice x.m.P.a x.m.P.n x.m.P.c),(.int .i64 x.stamp),(.int .i64 x.born)]
 get l:=match l with
  | [.int .i64 v1,.int .i64 v2,.int .i64 v3,.slice v4a v4n v4c,.int .i64 v5,.int .i64 v6]=>some ⟨v1,⟨v2,v3,⟨v4a,v4n,v4c⟩⟩,v5,v6⟩
  | _=>none
 ok l c h:=by
  split at h
  ·injection h with h;subst h;rfl
  ·cases h
structure qa9 where
 Image:Int
 Id:Int
 Alt:Bool
 Line:Int
 Col:Int
 Rows:Int
 Cols:Int
 X:Int
 Y:Int
 W:Int
 H:Int
 DX:Int
 DY:Int
 Z:Int
def qa9.rep:Rep where
 T:=qa9
 cells x:=[(.int .i64 x.Image),(.int .i64 x.Id),(.bool x.Alt),(.int .i64 x.Line),(.int .i64 x.Col),(.int .i64 x.Rows),(.int .i64 x.Cols),(.int .i64 x.X),(.int .i64 x.Y),(.int .i64 x.W),(.int .i64 x.H),(.int .i64 x.DX),(.int .i64 x.DY),(.int .i64 x.Z)]
 get l:=match l with
  | [.int .i64 v1,.int .i64 v2,.bool v3,.int .i64 v4,.int .i64 v5,.int .i64 v6,.int .i64 v7,.int .i64 v8,.int .i64 v9,.int .i64 v10,.int .i64 v11,.int .i64 v12,.int .i64 v13,.int .i64 v14]=>some ⟨v1,v2,v3,v4,v5,v6,v7,v8,v9,v10,v11,v12,v13,v14⟩
  | _=>none
 ok l c h:=by
  split at h
  ·injection h with h;subst h;rfl
  ·cases h
structure qbs where
 Alt:Bool
 Line:Int
 Rows:Int
 From:Int
 To:Int
def qbs.rep:Rep where
 T:=qbs
 cells x:=[(.bool x.Alt),(.int .i64 x.Line),(.int .i64 x.Rows),(.int .i64 x.From),(.int .i64 x.To)]
 get l:=match l with
  | [.bool v1,.int .i64 v2,.int .i64 v3,.int .i64 v4,.int .i64 v5]=>some ⟨v1,v2,v3,v4,v5⟩
  | _=>none
 ok l c h:=by
  split at h
  ·injection h with h;subst h;rfl
  ·cases h
structure qew where
 e0:Option Addr
 e1:Option Addr
def qew.rep:Rep where
 T:=qew
 cells x:=[(.pointer x.e0),(.pointer x.e1)]
 get l:=match l with
  | [.pointer v1,.pointer v2]=>some ⟨v1,v2⟩
  | _=>none
 ok l c h:=by
  split at h
  ·injection h with h;subst h;rfl
  ·cases h
structure qd9 where
 e0:Int
 e1:Int
def qd9.rep:Rep where
 T:=qd9
 cells x:=[(.int .u8 x.e0),(.int .u8 x.e1)]
 get l:=match l with
  | [.int .u8 v1,.int .u8 v2]=>some ⟨v1,v2⟩
  | _=>none
 ok l c h:=by
  split at h
  ·injection h with h;subst h;rfl
  ·cases h
structure qak where
 Row:Int
 Col:Int
 Wrap:Bool
 A:qac
 Origin:Bool
 Sets:qd9
 Shift:Int
def qak.rep:Rep where
 T:=qak
 cells x:=[(.int .i64 x.Row),(.int .i64 x.Col),(.bool x.Wrap),(.int .i64 x.A.Fg),(.int .i64 x.A.Bg),(.int .i64 x.A.Flags),(.bool x.Origin),(.int .u8 x.Sets.e0),(.int .u8 x.Sets.e1),(.int .i64 x.Shift)]
 get l:=match l with
  | [.int .i64 v1,.int .i64 v2,.bool v3,.int .i64 v4,.int .i64 v5,.int .i64 v6,.bool v7,.int .u8 v8,.int .u8 v9,.int .i64 v10]=>some ⟨v1,v2,v3,⟨v4,v5,v6⟩,v7,⟨v8,v9⟩,v10⟩
  | _=>none
 ok l c h:=by
  split at h
  ·injection h with h;subst h;rfl
  ·cases h
structure qbr where
 c:qak
 is:Bool
def qbr.rep:Rep where
 T:=qbr
 cells x:=[(.int .i64 x.c.Row),(.int .i64 x.c.Col),(.bool x.c.Wrap),(.int .i64 x.c.A.Fg),(.int .i64 x.c.A.Bg),(.int .i64 x.c.A.Flags),(.bool x.c.Origin),(.int .u8 x.c.Sets.e0),(.int .u8 x.c.Sets.e1),(.int .i64 x.c.Shift),(.bool x.is)]
 get l:=match l with
  | [.int .i64 v1,.int .i64 v2,.bool v3,.int .i64 v4,.int .i64 v5,.int .i64 v6,.bool v7,.int .u8 v8,.int .u8 v9,.int .i64 v10,.bool v11]=>some ⟨⟨v1,v2,v3,⟨v4,v5,v6⟩,v7,⟨v8,v9⟩,v10⟩,v11⟩
  | _=>none
 ok l c h:=by
  split at h
  ·injection h with h;subst h;rfl
  ·cases h
structure qid where
 e0:qbr
 e1:qbr
def qid.rep:Rep where
 T:=qid
 cells x:=[(.int .i64 x.e0.c.Row),(.int .i64 x.e0.c.Col),(.bool x.e0.c.Wrap),(.int .i64 x.e0.c.A.Fg),(.int .i64 x.e0.c.A.Bg),(.int .i64 x.e0.c.A.Flags),(.bool x.e0.c.Origin),(.int .u8 x.e0.c.Sets.e0),(.int .u8 x.e0.c.Sets.e1),(.int .i64 x.e0.c.Shift),(.bool x.e0.is),(.int .i64 x.e1.c.Row),(.int .i64 x.e1.c.Col),(.bool x.e1.c.Wrap),(.int .i64 x.e1.c.A.Fg),(.int .i64 x.e1.c.A.Bg),(.int .i64 x.e1.c.A.Flags),(.bool x.e1.c.Origin),(.int .u8 x.e1.c.Sets.e0),(.int .u8 x.e1.c.Sets.e1),(.int .i64 x.e1.c.Shift),(.bool x.e1.is)]
 get l:=match l with
  | [.int .i64 v1,.int .i64 v2,.bool v3,.int .i64 v4,.int .i64 v5,.int .i64 v6,.bool v7,.int .u8 v8,.int .u8 v9,.int .i64 v10,.bool v11,.int .i64 v12,.int .i64 v13,.bool v14,.int .i64 v15,.int .i64 v16,.int .i64 v17,.bool v18,.int .u8 v19,.int .u8 v20,.int .i64 v21,.bool v22]=>some ⟨⟨⟨v1,v2,v3,⟨v4,v5,v6⟩,v7,⟨v8,v9⟩,v10⟩,v11⟩,⟨⟨v12,v13,v14,⟨v15,v16,v17⟩,v18,⟨v19,v20⟩,v21⟩,v22⟩⟩
  | _=>none
 ok l c h:=by
  split at h
  ·injection h with h;subst h;rfl
  ·cases h
structure qab where
 grids:qew
 now:Int
 c:qak
 saved:qid
 modes:Option Nat
 private_:Option Nat
 top:Int
 past:Int
 stops:Option Addr
 char:Int
 areas:Slc
def qab.rep:Rep where
 T:=qab
 cells x:=[(.pointer x.grids.e0),(.pointer x.grids.e1),(.int .i64 x.now),(.int .i64 x.c.Row),(.int .i64 x.c.Col),(.bool x.c.Wrap),(.int .i64 x.c.A.Fg),(.int .i64 x.c.A.Bg),(.int .i64 x.c.A.Flags),(.bool x.c.Origin),(.int .u8 x.c.Sets.e0),(.int .u8 x.c.Sets.e1),(.int .i64 x.c.Shift),(.int .i64 x.saved.e0.c.Row),(.int .i64 x.saved.e0.c.Col),(.bool x.saved.e0.c.Wrap),(.int .i64 x.saved.e0.c.A.Fg),(.int .i64 x.saved.e0.c.A.Bg),(.int .i64 x.saved.e0.c.A.Flags),(.bool x.saved.e0.c.Origin),(.int .u8 x.saved.e0.c.Sets.e0),(.int .u8 x.saved.e0.c.Sets.e1),(.int .i64 x.saved.e0.c.Shift),(.bool x.saved.e0.is),(.int .i64 x.saved.e1.c.Row),(.int .i64 x.saved.e1.c.Col),(.bool x.saved.e1.c.Wrap),(.int .i64 x.saved.e1.c.A.Fg),(.int .i64 x.saved.e1.c.A.Bg),(.int .i64 x.saved.e1.c.A.Flags),(.bool x.saved.e1.c.Origin),(.int .u8 x.saved.e1.c.Sets.e0),(.int .u8 x.saved.e1.c.Sets.e1),(.int .i64 x.saved.e1.c.Shift),(.bool x.saved.e1.is),(.map x.modes),(.map x.private_),(.int .i64 x.top),(.int .i64 x.past),(.pointer x.stops),(.int .i32 x.char),(.slice x.areas.a x.areas.n x.areas.c)]
 get l:=match l with
  | .pointer v1::.pointer v2::.int .i64 v3::.int .i64 v4::.int .i64 v5::.bool v6::.int .i64 v7::.int .i64 v8::.int .i64 v9::.bool v10::.int .u8 v11::.int .u8 v12::.int .i64 v13::.int .i64 v14::.int .i64 v15::.bool v16::.int .i64 v17::.int .i64 v18::.int .i64 v19::.bool v20::.int .u8 v21::.int .u8 v22::.int .i64 v23::.bool v24::.int .i64 v25::.int .i64 v26::.bool v27::.int .i64 v28::.int .i64 v29::.int .i64 v30::.bool v31::.int .u8 v32::.int .u8 v33::.int .i64 v34::.bool v35::.map v36::.map v37::.int .i64 v38::.int .i64 v39::.pointer v40::.int .i32 v41::.slice v42a v42n v42c::[]=>some ⟨⟨v1,v2⟩,v3,⟨v4,v5,v6,⟨v7,v8,v9⟩,v10,⟨v11,v12⟩,v13⟩,⟨⟨⟨v14,v15,v16,⟨v17,v18,v19⟩,v20,⟨v21,v22⟩,v23⟩,v24⟩,⟨⟨v25,v26,v27,⟨v28,v29,v30⟩,v31,⟨v32,v33⟩,v34⟩,v35⟩⟩,v36,v37,v38,v39,v40,v41,⟨v42a,v42n,v42c⟩⟩
  | _=>none
 ok l c h:=by
  split at h
  ·injection h with h;subst h;rfl
  ·cases h
structure qcn where
 Action:Int
 Medium:Int
 Zip:Int
 What:Int
 Quiet:Int
 Format:Int
 W:Int
 H:Int
 Id:Int
 Number:Int
 Place:Int
 More:Int
 X:Int
 Y:Int
 PW:Int
 PH:Int
 DX:Int
 DY:Int
 Rows:Int
 Cols:Int
 Z:Int
 Stay:Int
def qcn.rep:Rep where
 T:=qcn
 cells x:=[(.int .u8 x.Action),(.int .u8 x.Medium),(.int .u8 x.Zip),(.int .u8 x.What),(.int .i64 x.Quiet),(.int .i64 x.Format),(.int .i64 x.W),(.int .i64 x.H),(.int .i64 x.Id),(.int .i64 x.Number),(.int .i64 x.Place),(.int .i64 x.More),(.int .i64 x.X),(.int .i64 x.Y),(.int .i64 x.PW),(.int .i64 x.PH),(.int .i64 x.DX),(.int .i64 x.DY),(.int .i64 x.Rows),(.int .i64 x.Cols),(.int .i64 x.Z),(.int .i64 x.Stay)]
 get l:=match l with
  | [.int .u8 v1,.int .u8 v2,.int .u8 v3,.int .u8 v4,.int .i64 v5,.int .i64 v6,.int .i64 v7,.int .i64 v8,.int .i64 v9,.int .i64 v10,.int .i64 v11,.int .i64 v12,.int .i64 v13,.int .i64 v14,.int .i64 v15,.int .i64 v16,.int .i64 v17,.int .i64 v18,.int .i64 v19,.int .i64 v20,.int .i64 v21,.int .i64 v22]=>some ⟨v1,v2,v3,v4,v5,v6,v7,v8,v9,v10,v11,v12,v13,v14,v15,v16,v17,v18,v19,v20,v21,v22⟩
  | _=>none
 ok l c h:=by
  split at h
  ·injection h with h;subst h;rfl
  ·cases h
structure qp4 where
 quota:Int
 s:Option Addr
 t:Option Addr
 l:Option Addr
 first:qcn
def qp4.rep:Rep where
 T:=qp4
 cells x:=[(.int .i64 x.quota),(.pointer x.s),(.pointer x.t),(.pointer x.l),(.int .u8 x.first.Action),(.int .u8 x.first.Medium),(.int .u8 x.first.Zip),(.int .u8 x.first.What),(.int .i64 x.first.Quiet),(.int .i64 x.first.Format),(.int .i64 x.first.W),(.int .i64 x.first.H),(.int .i64 x.first.Id),(.int .i64 x.first.Number),(.int .i64 x.first.Place),(.int .i64 x.first.More),(.int .i64 x.first.X),(.int .i64 x.first.Y),(.int .i64 x.first.PW),(.int .i64 x.first.PH),(.int .i64 x.first.DX),(.int .i64 x.first.DY),(.int .i64 x.first.Rows),(.int .i64 x.first.Cols),(.int .i64 x.first.Z),(.int .i64 x.first.Stay)]
 get l:=match l with
  | [.int .i64 v1,.pointer v2,.pointer v3,.pointer v4,.int .u8 v5,.int .u8 v6,.int .u8 v7,.int .u8 v8,.int .i64 v9,.int .i64 v10,.int .i64 v11,.int .i64 v12,.int .i64 v13,.int .i64 v14,.int .i64 v15,.int .i64 v16,.int .i64 v17,.int .i64 v18,.int .i64 v19,.int .i64 v20,.int .i64 v21,.int .i64 v22,.int .i64 v23,.int .i64 v24,.int .i64 v25,.int .i64 v26]=>some ⟨v1,v2,v3,v4,⟨v5,v6,v7,v8,v9,v10,v11,v12,v13,v14,v15,v16,v17,v18,v19,v20,v21,v22,v23,v24,v25,v26⟩⟩
  | _=>none
 ok l c h:=by
  split at h
  ·injection h with h;subst h;rfl
  ·cases h
structure qp2 where
 state:Int
 ends:Bool
 chars:Option Addr
 private_:Int
 inter:Slc
 wrong:Bool
 first:Bool
 params:Slc
 some_:Bool
 last:Int
 data:Slc
 say:Value
def qp2.rep:Rep where
 T:=qp2
 cells x:=[(.int .i64 x.state),(.bool x.ends),(.pointer x.chars),(.int .u8 x.private_),(.slice x.inter.a x.inter.n x.inter.c),(.bool x.wrong),(.bool x.first),(.slice x.params.a x.params.n x.params.c),(.bool x.some_),(.int .i64 x.last),(.slice x.data.a x.data.n x.data.c),x.say]
 get l:=match l with
  | [.int .i64 v1,.bool v2,.pointer v3,.int .u8 v4,.slice v5a v5n v5c,.bool v6,.bool v7,.slice v8a v8n v8c,.bool v9,.int .i64 v10,.slice v11a v11n v11c,v12]=>some ⟨v1,v2,v3,v4,⟨v5a,v5n,v5c⟩,v6,v7,⟨v8a,v8n,v8c⟩,v9,v10,⟨v11a,v11n,v11c⟩,v12⟩
  | _=>none
 ok l c h:=by
  split at h
  ·injection h with h;subst h;rfl
  ·cases h
structure qam where
 s:qaf
def qam.rep:Rep where
 T:=qam
 cells x:=[(.int .i64 x.s.Rows),(.int .i64 x.s.Cols),(.int .i64 x.s.CellW),(.int .i64 x.s.CellH),(.slice x.s.Lines.a x.s.Lines.n x.s.Lines.c),(.slice x.s.Places.a x.s.Places.n x.s.Places.c),(.map x.s.Images),(.int .i64 x.s.Top),(.bool x.s.Cursor),(.int .i64 x.s.Row),(.int .i64 x.s.Col)]
 get l:=match l with
  | [.int .i64 v1,.int .i64 v2,.int .i64 v3,.int .i64 v4,.slice v5a v5n v5c,.slice v6a v6n v6c,.map v7,.int .i64 v8,.bool v9,.int .i64 v10,.int .i64 v11]=>some ⟨⟨v1,v2,v3,v4,⟨v5a,v5n,v5c⟩,⟨v6a,v6n,v6c⟩,v7,v8,v9,v10,v11⟩⟩
  | _=>none
 ok l c h:=by
  split at h
  ·injection h with h;subst h;rfl
  ·cases h
structure qb4 where
 s:qaf
 above:Bool
def qb4.rep:Rep where
 T:=qb4
 cells x:=[(.int .i64 x.s.Rows),(.int .i64 x.s.Cols),(.int .i64 x.s.CellW),(.int .i64 x.s.CellH),(.slice x.s.Lines.a x.s.Lines.n x.s.Lines.c),(.slice x.s.Places.a x.s.Places.n x.s.Places.c),(.map x.s.Images),(.int .i64 x.s.Top),(.bool x.s.Cursor),(.int .i64 x.s.Row),(.int .i64 x.s.Col),(.bool x.above)]
 get l:=match l with
  | [.int .i64 v1,.int .i64 v2,.int .i64 v3,.int .i64 v4,.slice v5a v5n v5c,.slice v6a v6n v6c,.map v7,.int .i64 v8,.bool v9,.int .i64 v10,.int .i64 v11,.bool v12]=>some ⟨⟨v1,v2,v3,v4,⟨v5a,v5n,v5c⟩,⟨v6a,v6n,v6c⟩,v7,v8,v9,v10,v11⟩,v12⟩
  | _=>none
 ok l c h:=by
  split at h
  ·injection h with h;subst h;rfl
  ·cases h
structure qap where
 Alt:Bool
 Top:Int
 Rows:Int
 Cols:Int
 Row:Int
 Col:Int
def qap.rep:Rep where
 T:=qap
 cells x:=[(.bool x.Alt),(.int .i64 x.Top),(.int .i64 x.Rows),(.int .i64 x.Cols),(.int .i64 x.Row),(.int .i64 x.Col)]
 get l:=match l with
  | [.bool v1,.int .i64 v2,.int .i64 v3,.int .i64 v4,.int .i64 v5,.int .i64 v6]=>some ⟨v1,v2,v3,v4,v5,v6⟩
  | _=>none
 ok l c h:=by
  split at h
  ·injection h with h;subst h;rfl
  ·cases h
structure qce where
 View:qap
 CellW:Int
 CellH:Int
def qce.rep:Rep where
 T:=qce
 cells x:=[(.bool x.View.Alt),(.int .i64 x.View.Top),(.int .i64 x.View.Rows),(.int .i64 x.View.Cols),(.int .i64 x.View.Row),(.int .i64 x.View.Col),(.int .i64 x.CellW),(.int .i64 x.CellH)]
 get l:=match l with
  | [.bool v1,.int .i64 v2,.int .i64 v3,.int .i64 v4,.int .i64 v5,.int .i64 v6,.int .i64 v7,.int .i64 v8]=>some ⟨⟨v1,v2,v3,v4,v5,v6⟩,v7,v8⟩
  | _=>none
 ok l c h:=by
  split at h
  ·injection h with h;subst h;rfl
  ·cases h
structure qp0 where
 Reply:Slc
 Rows:Int
 Cols:Int
 Moves:Bool
def qp0.rep:Rep where
 T:=qp0
 cells x:=[(.slice x.Reply.a x.Reply.n x.Reply.c),(.int .i64 x.Rows),(.int .i64 x.Cols),(.bool x.Moves)]
 get l:=match l with
  | [.slice v1a v1n v1c,.int .i64 v2,.int .i64 v3,.bool v4]=>some ⟨⟨v1a,v1n,v1c⟩,v2,v3,v4⟩
  | _=>none
 ok l c h:=by
  split at h
  ·injection h with h;subst h;rfl
  ·cases h
structure qdy where
 quota:Int
 reserved:Int
 used:Int
 clock:Int
 l:Option Nat
def qdy.rep:Rep where
 T:=qdy
 cells x:=[(.int .i64 x.quota),(.int .i64 x.reserved),(.int .i64 x.used),(.int .i64 x.clock),(.map x.l)]
 get l:=match l with
  | [.int .i64 v1,.int .i64 v2,.int .i64 v3,.int .i64 v4,.map v5]=>some ⟨v1,v2,v3,v4,v5⟩
  | _=>none
 ok l c h:=by
  split at h
  ·injection h with h;subst h;rfl
  ·cases h
structure qrh where
 l:Slc
def qrh.rep:Rep where
 T:=qrh
 cells x:=[(.slice x.l.a x.l.n x.l.c)]
 get l:=match l with
  | [.slice v1a v1n v1c]=>some ⟨⟨v1a,v1n,v1c⟩⟩
  | _=>none
 ok l c h:=by
  split at h
  ·injection h with h;subst h;rfl
  ·cases h
structure qfh where
 Ring:Option Addr
 rows:Int
 cols:Int
 l:Slc
 top:Int
def qfh.rep:Rep where
 T:=qfh
 cells x:=[(.pointer x.Ring),(.int .i64 x.rows),(.int .i64 x.cols),(.slice x.l.a x.l.n x.l.c),(.int .i64 x.top)]
 get l:=match l with
  | [.pointer v1,.int .i64 v2,.int .i64 v3,.slice v4a v4n v4c,.int .i64 v5]=>some ⟨v1,v2,v3,⟨v4a,v4n,v4c⟩,v5⟩
  | _=>none
 ok l c h:=by
  split at h
  ·injection h with h;subst h;rfl
  ·cases h
structure qru where
 r:Int
 left:Int
 lo:Int
 hi:Int
def qru.rep:Rep where
 T:=qru
 cells x:=[(.int .i32 x.r),(.int .i64 x.left),(.int .u8 x.lo),(.int .u8 x.hi)]
 get l:=match l with
  | [.int .i32 v1,.int .i64 v2,.int .u8 v3,.int .u8 v4]=>some ⟨v1,v2,v3,v4⟩
  | _=>none
 ok l c h:=by
  split at h
  ·injection h with h;subst h;rfl
  ·cases h
structure qad where
 e0:Int
 e1:Int
 e2:Int
def qad.rep:Rep where
 T:=qad
 cells x:=[(.int .u8 x.e0),(.int .u8 x.e1),(.int .u8 x.e2)]
 get l:=match l with
  | [.int .u8 v1,.int .u8 v2,.int .u8 v3]=>some ⟨v1,v2,v3⟩
  | _=>none
 ok l c h:=by
  split at h
  ·injection h with h;subst h;rfl
  ·cases h
structure qk1 where
 e0:Int
 e1:Int
 e2:Int
def qk1.rep:Rep where
 T:=qk1
 cells x:=[(.int .i64 x.e0),(.int .i64 x.e1),(.int .i64 x.e2)]
 get l:=match l with
  | [.int .i64 v1,.int .i64 v2,.int .i64 v3]=>some ⟨v1,v2,v3⟩
  | _=>none
 ok l c h:=by
  split at h
  ·injection h with h;subst h;rfl
  ·cases h
structure qrl where
 e0:Int
 e1:Int
 e2:Int
def qrl.rep:Rep where
 T:=qrl
 cells x:=[(.int .u8 x.e0),(.int .u8 x.e1),(.int .u8 x.e2)]
 get l:=match l with
  | [.int .u8 v1,.int .u8 v2,.int .u8 v3]=>some ⟨v1,v2,v3⟩
  | _=>none
 ok l c h:=by
  split at h
  ·injection h with h;subst h;rfl
  ·cases h
structure qbk where
 most:Int
 l:Slc
 at_:Int
 gone:Int
def qbk.rep:Rep where
 T:=qbk
 cells x:=[(.int .i64 x.most),(.slice x.l.a x.l.n x.l.c),(.int .i64 x.at_),(.int .i64 x.gone)]
 get l:=match l with
  | [.int .i64 v1,.slice v2a v2n v2c,.int .i64 v3,.int .i64 v4]=>some ⟨v1,⟨v2a,v2n,v2c⟩,v3,v4⟩
  | _=>none
 ok l c h:=by
  split at h
  ·injection h with h;subst h;rfl
  ·cases h
structure qs8 where
 cols:Int
 l:Option Nat
def qs8.rep:Rep where
 T:=qs8
 cells x:=[(.int .i64 x.cols),(.map x.l)]
 get l:=match l with
  | [.int .i64 v1,.map v2]=>some ⟨v1,v2⟩
  | _=>none
 ok l c h:=by
  split at h
  ·injection h with h;subst h;rfl
  ·cases h
structure qwo where
 What:Int
 Image:Int
 Place:Int
 X:Int
 Y:Int
 Z:Int
def qwo.rep:Rep where
 T:=qwo
 cells x:=[(.int .u8 x.What),(.int .i64 x.Image),(.int .i64 x.Place),(.int .i64 x.X),(.int .i64 x.Y),(.int .i64 x.Z)]
 get l:=match l with
  | [.int .u8 v1,.int .i64 v2,.int .i64 v3,.int .i64 v4,.int .i64 v5,.int .i64 v6]=>some ⟨v1,v2,v3,v4,v5,v6⟩
  | _=>none
 ok l c h:=by
  split at h
  ·injection h with h;subst h;rfl
  ·cases h
structure qrr where
 Decoder:Option Addr
 k:qcn
 most:Int
 need:Int
 pieces:Slc
 held:Int
 failed:Int
 over:Bool
def qrr.rep:Rep where
 T:=qrr
 cells x:=[(.pointer x.Decoder),(.int .u8 x.k.Action),(.int .u8 x.k.Medium),(.int .u8 x.k.Zip),(.int .u8 x.k.What),(.int .i64 x.k.Quiet),(.int .i64 x.k.Format),(.int .i64 x.k.W),(.int .i64 x.k.H),(.int .i64 x.k.Id),(.int .i64 x.k.Number),(.int .i64 x.k.Place),(.int .i64 x.k.More),(.int .i64 x.k.X),(.int .i64 x.k.Y),(.int .i64 x.k.PW),(.int .i64 x.k.PH),(.int .i64 x.k.DX),(.int .i64 x.k.DY),(.int .i64 x.k.Rows),(.int .i64 x.k.Cols),(.int .i64 x.k.Z),(.int .i64 x.k.Stay),(.int .i64 x.most),(.int .i64 x.need),(.slice x.pieces.a x.pieces.n x.pieces.c),(.int .i64 x.held),(.int .i64 x.failed),(.bool x.over)]
 get l:=match l with
  | [.pointer v1,.int .u8 v2,.int .u8 v3,.int .u8 v4,.int .u8 v5,.int .i64 v6,.int .i64 v7,.int .i64 v8,.int .i64 v9,.int .i64 v10,.int .i64 v11,.int .i64 v12,.int .i64 v13,.int .i64 v14,.int .i64 v15,.int .i64 v16,.int .i64 v17,.int .i64 v18,.int .i64 v19,.int .i64 v20,.int .i64 v21,.int .i64 v22,.int .i64 v23,.int .i64 v24,.int .i64 v25,.slice v26a v26n v26c,.int .i64 v27,.int .i64 v28,.bool v29]=>some ⟨v1,⟨v2,v3,v4,v5,v6,v7,v8,v9,v10,v11,v12,v13,v14,v15,v16,v17,v18,v19,v20,v21,v22,v23⟩,v24,v25,⟨v26a,v26n,v26c⟩,v27,v28,v29⟩
  | _=>none
 ok l c h:=by
  split at h
  ·injection h with h;subst h;rfl
  ·cases h
structure qe7 where
 key:ByteArray
 n:Int
def qe7.rep:Rep where
 T:=qe7
 cells x:=[(.string x.key),(.int .i64 x.n)]
 get l:=match l with
  | [.string v1,.int .i64 v2]=>some ⟨v1,v2⟩
  | _=>none
 ok l c h:=by
  split at h
  ·injection h with h;subst h;rfl
  ·cases h
structure qkl where
 lo:Int
 hi:Int
def qkl.rep:Rep where
 T:=qkl
 cells x:=[(.int .u8 x.lo),(.int .u8 x.hi)]
 get l:=match l with
  | [.int .u8 v1,.int .u8 v2]=>some ⟨v1,v2⟩
  | _=>none
 ok l c h:=by
  split at h
  ·injection h with h;subst h;rfl
  ·cases h
structure q1m where
 e0:qk1
 e1:qk1
 e2:qk1
 e3:qk1
 e4:qk1
 e5:qk1
def q1m.rep:Rep where
 T:=q1m
 cells x:=[(.int .i64 x.e0.e0),(.int .i64 x.e0.e1),(.int .i64 x.e0.e2),(.int .i64 x.e1.e0),(.int .i64 x.e1.e1),(.int .i64 x.e1.e2),(.int .i64 x.e2.e0),(.int .i64 x.e2.e1),(.int .i64 x.e2.e2),(.int .i64 x.e3.e0),(.int .i64 x.e3.e1),(.int .i64 x.e3.e2),(.int .i64 x.e4.e0),(.int .i64 x.e4.e1),(.int .i64 x.e4.e2),(.int .i64 x.e5.e0),(.int .i64 x.e5.e1),(.int .i64 x.e5.e2)]
 get l:=match l with
  | [.int .i64 v1,.int .i64 v2,.int .i64 v3,.int .i64 v4,.int .i64 v5,.int .i64 v6,.int .i64 v7,.int .i64 v8,.int .i64 v9,.int .i64 v10,.int .i64 v11,.int .i64 v12,.int .i64 v13,.int .i64 v14,.int .i64 v15,.int .i64 v16,.int .i64 v17,.int .i64 v18]=>some ⟨⟨v1,v2,v3⟩,⟨v4,v5,v6⟩,⟨v7,v8,v9⟩,⟨v10,v11,v12⟩,⟨v13,v14,v15⟩,⟨v16,v17,v18⟩⟩
  | _=>none
 ok l c h:=by
  split at h
  ·injection h with h;subst h;rfl
  ·cases h
structure qmm where
 v:Int
 n:Int
 fill:Int
 over:Bool
 bad:Bool
def qmm.rep:Rep where
 T:=qmm
 cells x:=[(.int .u32 x.v),(.int .i64 x.n),(.int .i64 x.fill),(.bool x.over),(.bool x.bad)]
 get l:=match l with
  | [.int .u32 v1,.int .i64 v2,.int .i64 v3,.bool v4,.bool v5]=>some ⟨v1,v2,v3,v4,v5⟩
  | _=>none
 ok l c h:=by
  split at h
  ·injection h with h;subst h;rfl
  ·cases h
structure qdb where
 lo:Int
 hi:Int
def qdb.rep:Rep where
 T:=qdb
 cells x:=[(.int .i32 x.lo),(.int .i32 x.hi)]
 get l:=match l with
  | [.int .i32 v1,.int .i32 v2]=>some ⟨v1,v2⟩
  | _=>none
 ok l c h:=by
  split at h
  ·injection h with h;subst h;rfl
  ·cases h
structure qsw where
 W:Int
 H:Int
 Depth:Int
 Color:Int
 Lace:Int
def qsw.rep:Rep where
 T:=qsw
 cells x:=[(.int .i64 x.W),(.int .i64 x.H),(.int .i64 x.Depth),(.int .i64 x.Color),(.int .i64 x.Lace)]
 get l:=match l with
  | [.int .i64 v1,.int .i64 v2,.int .i64 v3,.int .i64 v4,.int .i64 v5]=>some ⟨v1,v2,v3,v4,v5⟩
  | _=>none
 ok l c h:=by
  split at h
  ·injection h with h;subst h;rfl
  ·cases h
structure qpx where
 Decoder:Option Addr
 head:Slc
 tail:Slc
 sum:Value
 over:Int
 failed:Int
def qpx.rep:Rep where
 T:=qpx
 cells x:=[(.pointer x.Decoder),(.slice x.head.a x.head.n x.head.c),(.slice x.tail.a x.tail.n x.tail.c),x.sum,(.int .i64 x.over),(.int .i64 x.failed)]
 get l:=match l with
  | [.pointer v1,.slice v2a v2n v2c,.slice v3a v3n v3c,v4,.int .i64 v5,.int .i64 v6]=>some ⟨v1,⟨v2a,v2n,v2c⟩,⟨v3a,v3n,v3c⟩,v4,v5,v6⟩
  | _=>none
 ok l c h:=by
  split at h
  ·injection h with h;subst h;rfl
  ·cases h
structure qwa where
 Kind:ByteArray
 Data:Slc
def qwa.rep:Rep where
 T:=qwa
 cells x:=[(.string x.Kind),(.slice x.Data.a x.Data.n x.Data.c)]
 get l:=match l with
  | [.string v1,.slice v2a v2n v2c]=>some ⟨v1,⟨v2a,v2n,v2c⟩⟩
  | _=>none
 ok l c h:=by
  split at h
  ·injection h with h;subst h;rfl
  ·cases h
structure qye where
 Head:qsw
 palette:Slc
 trans:Slc
 hasPalette:Bool
 hasTr:Bool
 data:Slc
 hasData:Bool
 wasData:Bool
def qye.rep:Rep where
 T:=qye
 cells x:=[(.int .i64 x.Head.W),(.int .i64 x.Head.H),(.int .i64 x.Head.Depth),(.int .i64 x.Head.Color),(.int .i64 x.Head.Lace),(.slice x.palette.a x.palette.n x.palette.c),(.slice x.trans.a x.trans.n x.trans.c),(.bool x.hasPalette),(.bool x.hasTr),(.slice x.data.a x.data.n x.data.c),(.bool x.hasData),(.bool x.wasData)]
 get l:=match l with
  | [.int .i64 v1,.int .i64 v2,.int .i64 v3,.int .i64 v4,.int .i64 v5,.slice v6a v6n v6c,.slice v7a v7n v7c,.bool v8,.bool v9,.slice v10a v10n v10c,.bool v11,.bool v12]=>some ⟨⟨v1,v2,v3,v4,v5⟩,⟨v6a,v6n,v6c⟩,⟨v7a,v7n,v7c⟩,v8,v9,⟨v10a,v10n,v10c⟩,v11,v12⟩
  | _=>none
 ok l c h:=by
  split at h
  ·injection h with h;subst h;rfl
  ·cases h
structure qlh where
 most:Int
 state:Int
 last:Bool
 wait:Slc
 skip:Int
 left:Int
 signs:Option Addr
 dists:Option Addr
 ring:Slc
 total:Int
 told:Int
 took:Int
 given:Int
 failed:Int
 out:Slc
def qlh.rep:Rep where
 T:=qlh
 cells x:=[(.int .i64 x.most),(.int .i64 x.state),(.bool x.last),(.slice x.wait.a x.wait.n x.wait.c),(.int .i64 x.skip),(.int .i64 x.left),(.pointer x.signs),(.pointer x.dists),(.slice x.ring.a x.ring.n x.ring.c),(.int .i64 x.total),(.int .i64 x.told),(.int .i64 x.took),(.int .i64 x.given),(.int .i64 x.failed),(.slice x.out.a x.out.n x.out.c)]
 get l:=match l with
  | [.int .i64 v1,.int .i64 v2,.bool v3,.slice v4a v4n v4c,.int .i64 v5,.int .i64 v6,.pointer v7,.pointer v8,.slice v9a v9n v9c,.int .i64 v10,.int .i64 v11,.int .i64 v12,.int .i64 v13,.int .i64 v14,.slice v15a v15n v15c]=>some ⟨v1,v2,v3,⟨v4a,v4n,v4c⟩,v5,v6,v7,v8,⟨v9a,v9n,v9c⟩,v10,v11,v12,v13,v14,⟨v15a,v15n,v15c⟩⟩
  | _=>none
 ok l c h:=by
  split at h
  ·injection h with h;subst h;rfl
  ·cases h
structure qt6 where
 a:Int
 b:Int
def qt6.rep:Rep where
 T:=qt6
 cells x:=[(.int .u32 x.a),(.int .u32 x.b)]
 get l:=match l with
  | [.int .u32 v1,.int .u32 v2]=>some ⟨v1,v2⟩
  | _=>none
 ok l c h:=by
  split at h
  ·injection h with h;subst h;rfl
  ·cases h
structure qri where
 X:Int
 Y:Int
 DX:Int
 DY:Int
def qri.rep:Rep where
 T:=qri
 cells x:=[(.int .i64 x.X),(.int .i64 x.Y),(.int .i64 x.DX),(.int .i64 x.DY)]
 get l:=match l with
  | [.int .i64 v1,.int .i64 v2,.int .i64 v3,.int .i64 v4]=>some ⟨v1,v2,v3,v4⟩
  | _=>none
 ok l c h:=by
  split at h
  ·injection h with h;subst h;rfl
  ·cases h
structure qag where
 e0:Int
 e1:Int
 e2:Int
 e3:Int
def qag.rep:Rep where
 T:=qag
 cells x:=[(.int .u8 x.e0),(.int .u8 x.e1),(.int .u8 x.e2),(.int .u8 x.e3)]
 get l:=match l with
  | [.int .u8 v1,.int .u8 v2,.int .u8 v3,.int .u8 v4]=>some ⟨v1,v2,v3,v4⟩
  | _=>none
 ok l c h:=by
  split at h
  ·injection h with h;subst h;rfl
  ·cases h
structure qrk where
 b:Slc
 at_:Int
def qrk.rep:Rep where
 T:=qrk
 cells x:=[(.slice x.b.a x.b.n x.b.c),(.int .i64 x.at_)]
 get l:=match l with
  | [.slice v1a v1n v1c,.int .i64 v2]=>some ⟨⟨v1a,v1n,v1c⟩,v2⟩
  | _=>none
 ok l c h:=by
  split at h
  ·injection h with h;subst h;rfl
  ·cases h
structure q3z where
 e0:Int
 e1:Int
 e2:Int
 e3:Int
 e4:Int
 e5:Int
 e6:Int
 e7:Int
 e8:Int
 e9:Int
 e10:Int
 e11:Int
 e12:Int
 e13:Int
 e14:Int
 e15:Int
 e16:Int
 e17:Int
 e18:Int
def q3z.rep:Rep where
 T:=q3z
 cells x:=[(.int .i64 x.e0),(.int .i64 x.e1),(.int .i64 x.e2),(.int .i64 x.e3),(.int .i64 x.e4),(.int .i64 x.e5),(.int .i64 x.e6),(.int .i64 x.e7),(.int .i64 x.e8),(.int .i64 x.e9),(.int .i64 x.e10),(.int .i64 x.e11),(.int .i64 x.e12),(.int .i64 x.e13),(.int .i64 x.e14),(.int .i64 x.e15),(.int .i64 x.e16),(.int .i64 x.e17),(.int .i64 x.e18)]
 get l:=match l with
  | [.int .i64 v1,.int .i64 v2,.int .i64 v3,.int .i64 v4,.int .i64 v5,.int .i64 v6,.int .i64 v7,.int .i64 v8,.int .i64 v9,.int .i64 v10,.int .i64 v11,.int .i64 v12,.int .i64 v13,.int .i64 v14,.int .i64 v15,.int .i64 v16,.int .i64 v17,.int .i64 v18,.int .i64 v19]=>some ⟨v1,v2,v3,v4,v5,v6,v7,v8,v9,v10,v11,v12,v13,v14,v15,v16,v17,v18,v19⟩
  | _=>none
 ok l c h:=by
  split at h
  ·injection h with h;subst h;rfl
  ·cases h
structure qya where
 e0:Int
 e1:Int
 e2:Int
 e3:Int
 e4:Int
 e5:Int
 e6:Int
 e7:Int
 e8:Int
 e9:Int
 e10:Int
 e11:Int
 e12:Int
 e13:Int
 e14:Int
 e15:Int
def qya.rep:Rep where
 T:=qya
 cells x:=[(.int .i64 x.e0),(.int .i64 x.e1),(.int .i64 x.e2),(.int .i64 x.e3),(.int .i64 x.e4),(.int .i64 x.e5),(.int .i64 x.e6),(.int .i64 x.e7),(.int .i64 x.e8),(.int .i64 x.e9),(.int .i64 x.e10),(.int .i64 x.e11),(.int .i64 x.e12),(.int .i64 x.e13),(.int .i64 x.e14),(.int .i64 x.e15)]
 get l:=match l with
  | [.int .i64 v1,.int .i64 v2,.int .i64 v3,.int .i64 v4,.int .i64 v5,.int .i64 v6,.int .i64 v7,.int .i64 v8,.int .i64 v9,.int .i64 v10,.int .i64 v11,.int .i64 v12,.int .i64 v13,.int .i64 v14,.int .i64 v15,.int .i64 v16]=>some ⟨v1,v2,v3,v4,v5,v6,v7,v8,v9,v10,v11,v12,v13,v14,v15,v16⟩
  | _=>none
 ok l c h:=by
  split at h
  ·injection h with h;subst h;rfl
  ·cases h
structure qud where
 count:qya
 sorted:Slc
 codes:Slc
 lengths:Slc
 last:Int
def qud.rep:Rep where
 T:=qud
 cells x:=[(.int .i64 x.count.e0),(.int .i64 x.count.e1),(.int .i64 x.count.e2),(.int .i64 x.count.e3),(.int .i64 x.count.e4),(.int .i64 x.count.e5),(.int .i64 x.count.e6),(.int .i64 x.count.e7),(.int .i64 x.count.e8),(.int .i64 x.count.e9),(.int .i64 x.count.e10),(.int .i64 x.count.e11),(.int .i64 x.count.e12),(.int .i64 x.count.e13),(.int .i64 x.count.e14),(.int .i64 x.count.e15),(.slice x.sorted.a x.sorted.n x.sorted.c),(.slice x.codes.a x.codes.n x.codes.c),(.slice x.lengths.a x.lengths.n x.lengths.c),(.int .i64 x.last)]
 get l:=match l with
  | [.int .i64 v1,.int .i64 v2,.int .i64 v3,.int .i64 v4,.int .i64 v5,.int .i64 v6,.int .i64 v7,.int .i64 v8,.int .i64 v9,.int .i64 v10,.int .i64 v11,.int .i64 v12,.int .i64 v13,.int .i64 v14,.int .i64 v15,.int .i64 v16,.slice v17a v17n v17c,.slice v18a v18n v18c,.slice v19a v19n v19c,.int .i64 v20]=>some ⟨⟨v1,v2,v3,v4,v5,v6,v7,v8,v9,v10,v11,v12,v13,v14,v15,v16⟩,⟨v17a,v17n,v17c⟩,⟨v18a,v18n,v18c⟩,⟨v19a,v19n,v19c⟩,v20⟩
  | _=>none
 ok l c h:=by
  split at h
  ·injection h with h;subst h;rfl
  ·cases h
structure qy0 where
 v:Int
def qy0.rep:Rep where
 T:=qy0
 cells x:=[(.int .u32 x.v)]
 get l:=match l with
  | [.int .u32 v1]=>some ⟨v1⟩
  | _=>none
 ok l c h:=by
  split at h
  ·injection h with h;subst h;rfl
  ·cases h
structure q0m where
 e0:Int
 e1:Int
 e2:Int
 e3:Int
 e4:Int
 e5:Int
def q0m.rep:Rep where
 T:=q0m
 cells x:=[(.int .u8 x.e0),(.int .u8 x.e1),(.int .u8 x.e2),(.int .u8 x.e3),(.int .u8 x.e4),(.int .u8 x.e5)]
 get l:=match l with
  | [.int .u8 v1,.int .u8 v2,.int .u8 v3,.int .u8 v4,.int .u8 v5,.int .u8 v6]=>some ⟨v1,v2,v3,v4,v5,v6⟩
  | _=>none
 ok l c h:=by
  split at h
  ·injection h with h;subst h;rfl
  ·cases h
structure qv3 where
 e0:Int
 e1:Int
 e2:Int
 e3:Int
 e4:Int
 e5:Int
 e6:Int
 e7:Int
 e8:Int
 e9:Int
 e10:Int
 e11:Int
 e12:Int
 e13:Int
 e14:Int
 e15:Int
def qv3.rep:Rep where
 T:=qv3
 cells x:=[(.int .u32 x.e0),(.int .u32 x.e1),(.int .u32 x.e2),(.int .u32 x.e3),(.int .u32 x.e4),(.int .u32 x.e5),(.int .u32 x.e6),(.int .u32 x.e7),(.int .u32 x.e8),(.int .u32 x.e9),(.int .u32 x.e10),(.int .u32 x.e11),(.int .u32 x.e12),(.int .u32 x.e13),(.int .u32 x.e14),(.int .u32 x.e15)]
 get l:=match l with
  | [.int .u32 v1,.int .u32 v2,.int .u32 v3,.int .u32 v4,.int .u32 v5,.int .u32 v6,.int .u32 v7,.int .u32 v8,.int .u32 v9,.int .u32 v10,.int .u32 v11,.int .u32 v12,.int .u32 v13,.int .u32 v14,.int .u32 v15,.int .u32 v16]=>some ⟨v1,v2,v3,v4,v5,v6,v7,v8,v9,v10,v11,v12,v13,v14,v15,v16⟩
  | _=>none
 ok l c h:=by
  split at h
  ·injection h with h;subst h;rfl
  ·cases h
noncomputable abbrev PG:Program:=Tryz.prog
abbrev qs4:TypeId:=0
abbrev qbz:TypeId:=3
abbrev zbi:TypeId:=4
abbrev qa7:TypeId:=5
abbrev qb1:TypeId:=9
abbrev q8i:TypeId:=20
abbrev qeu:TypeId:=21
abbrev qjw:TypeId:=22
abbrev qaj:TypeId:=28
abbrev qa2:TypeId:=37
abbrev qlk:TypeId:=40
abbrev qkz:TypeId:=45
abbrev qaw:TypeId:=47
abbrev qa8:TypeId:=51
abbrev qro:TypeId:=59
abbrev qgw:TypeId:=65
abbrev zb0:TypeId:=69
abbrev qt0:TypeId:=71
abbrev qco:TypeId:=79
abbrev q5b:TypeId:=81
abbrev qkx:TypeId:=83
abbrev qxn:TypeId:=86
abbrev qn5:TypeId:=92
abbrev qbc:TypeId:=94
abbrev qa4:TypeId:=97
abbrev qao:TypeId:=99
abbrev qm4:TypeId:=113
abbrev qa5:TypeId:=115
abbrev qjl:TypeId:=119
abbrev qp1:TypeId:=123
abbrev qvk:TypeId:=137
abbrev qec:TypeId:=145
abbrev qir:TypeId:=150
abbrev qny:TypeId:=152
abbrev qas:TypeId:=154
abbrev qba:TypeId:=156
abbrev qa1:TypeId:=158
abbrev qd3:TypeId:=169
abbrev qv4:TypeId:=174
abbrev qih:TypeId:=183
abbrev qcx:TypeId:=193
abbrev qds:TypeId:=195
abbrev qcp:TypeId:=196
abbrev qel:TypeId:=197
abbrev qzi:TypeId:=199
abbrev qy7:TypeId:=201
abbrev qe5:TypeId:=211
abbrev qgk:TypeId:=236
abbrev qr6:TypeId:=241
abbrev qa0:TypeId:=247
abbrev qpz:TypeId:=255
abbrev qd4:TypeId:=258
abbrev q5g:TypeId:=358
abbrev qcc:TypeId:=385
abbrev q1x:TypeId:=405
abbrev qqb:TypeId:=415
abbrev qat:TypeId:=477
abbrev qqt:Nat:=29
abbrev q10:Nat:=40
abbrev q3s:Nat:=49
abbrev qzz:Nat:=56
abbrev ql6:Nat:=59
abbrev q5x:Nat:=101
abbrev qxf:Nat:=109
abbrev qwf:Nat:=233
abbrev qg0:Nat:=274
abbrev qf1:Nat:=275
abbrev qf2:Nat:=354
abbrev qfw:Nat:=355
abbrev qjd:Nat:=412
abbrev qt4:Nat:=526
abbrev qu3:Nat:=543
abbrev qst:Nat:=545
def reg (t:TypeId):Option Rep:=match t with
 | 37=>some qaa.rep
 | 59=>some qau.rep
 | 94=>some qli.rep
 | 97=>some qac.rep
 | 99=>some qax.rep
 | 69=>some qfd.rep
 | 71=>some qwp.rep
 | 115=>some qaf.rep
 | 123=>some qbf.rep
 | 81=>some qi0.rep
 | 45=>some qa9.rep
 | 169=>some qbs.rep
 | 147=>some qew.rep
 | 148=>some qd9.rep
 | 150=>some qak.rep
 | 152=>some qbr.rep
 | 153=>some qid.rep
 | 158=>some qab.rep
 | 135=>some qcn.rep
 | 137=>some qp4.rep
 | 119=>some qp2.rep
 | 193=>some qam.rep
 | 196=>some qam.rep
 | 197=>some qam.rep
 | 195=>some qb4.rep
 | 199=>some qap.rep
 | 201=>some qce.rep
 | 219=>some qp0.rep
 | 83=>some qdy.rep
 | 86=>some qrh.rep
 | 145=>some qfh.rep
 | 255=>some qru.rep
 | 211=>some qad.rep
 | 263=>some qk1.rep
 | 212=>some qrl.rep
 | 247=>some qbk.rep
 | 236=>some qs8.rep
 | 329=>some qwo.rep
 | 358=>some qrr.rep
 | 375=>some qe7.rep
 | 391=>some qkl.rep
 | 396=>some q1m.rep
 | 405=>some qmm.rep
 | 415=>some qdb.rep
 | 445=>some qsw.rep
 | 458=>some qpx.rep
 | 468=>some qwa.rep
 | 447=>some qye.rep
 | 484=>some qlh.rep
 | 486=>some qt6.rep
 | 472=>some qri.rep
 | 477=>some qag.rep
 | 502=>some qrk.rep
 | 512=>some q3z.rep
 | 522=>some qya.rep
 | 524=>some qud.rep
 | 527=>some qy0.rep
 | 549=>some q0m.rep
 | 559=>some qv3.rep
 | _=>none
def q8x:List Nat:=[2,3,4,5,6,7,8,9,10,11,12,13,14,15,16,17,18,19,20,21,22,23,24,25,26,27,28,29,30,31,32,33,34,35,36,37,38,39,40,41,42,43,44,45,46,47,48,49,50,51,52,53,54,55,56,57,58,59,60,61,62,63,64,65,66,67,68,69,70,71,72,73,74,75,76,77,78,79,80,81,82,83,84,85,86,87,88,89,90,91,92,93,94,95,96,97,98,99,100,101,102,103,104,105,106,107,108,109,110,111,112,113,114,115,116,117,118,119,120,121,122,123,124,125,126,127,128,129,130,131,132,133,134,135,136,137,138,139,140,141,142,143,144,145,146,147,148,149,151,152,153,154,155,156,157,158,159,160,161,162,163,164,165,166,167,168,169,170,171,172,173,174,175,176,177,178,179,180,181,182,183,184,185,186,187,188,189,190,191,192,193,194,195,196,197,198,199,200,201,202,203,205,206,207,208,209,210,211,212,213,214,215,216,217,218,219,220,221,222,223,224,225,226,227,228,229,230,231,232,233,234,235,236,237,238,239,240,241,242,243,244,245,246,247,248,249,250,251,252,253,254,255,256,257,258,259,260,261,262,263,264,265,266,267,268,269,270,271,272,273,274,275,276,277,278,279,280,281,282,283,284,285,286,287,288,289,290,291,292,293,294,295,296,297,298,299,300,301,302,303,304,305,306,307,308,309,310,311,312,314,315,316,317,318,319,320,321,322,323,324,325,326,327,328,329,330,331,332,333,334,335,336,337,338,339,340,341,342,343,344,345,346,347,348,349,350,351,352,353,354,355,356,357,358,359,360,361,362,363,364,365,366,367,368,369,370,372,373,374,375,376,377,378,379,380,381,382,383,384,385,386,387,388,389,390,391,392,393,394,396,398,399,401,402,403,404,405,406,407,408,409,410,411,412,413,414,415,416,417,418,419,420,421,422,423,424,425,426,427,428,429,431,432,433,434,435,436,437,438,439,440,441,442,443,444,445,446,447,448,449,450,451,452,453,454,455,456,457,458,459,460,461,462,463,464,465,466,467,468,469,470,471,472,473,474,475,476,477,478,479,480,481,482,483,484,485,486,487,488,489,490,491,492,493,494,495,496,497,498,499,500,501,502,503,523,524,525,526,527,528,529,530,531,532,533,534,535,536,537,538,539,540,541,542,543,544,545,546,547,548,549,550,559]
noncomputable def C:Cx:={ P:=Tryz.prog,reg:=reg,plain:=fun n=>q8x.elem n }
theorem C.plain_ok (g:Nat) (h:C.plain g=true):qfk C.P g=true:=by
 have h':g∈q8x:=by simpa [C] using h
 have:q8x.all (fun g=>qfk Tryz.prog g)=true:=by kernel_rfl
 exact List.all_eq_true.1 this g h'
theorem C.mixed:C.P.follows .mixedOrders=true:=by kernel_rfl
theorem fnOf {f:FuncId} {fn:Func} {n:List Ann} {ks:List Kind} {a:List Value} {w:World} {Q:DenL ks->World->Prop} {sh:Prop} {X:Ending->World->Prop} (hf:C.P.funcs[f]?=some fn) (hb:fn.body=some (fn.body.getD .skip)) (h:sh)
  (e:vcFn C (fn.body.getD .skip) fn.results.toList fn.ntmps n ks a w Q=sh) (m:∀s w',Q s w'->X (.returned (tup (encL ks s))) w'):Calls C.P f a.toArray w X:=by
 rw [<-e] at h;refine Calls.mono (cvc C.plain_ok C.mixed hf hb h) ?_;rintro e w' ⟨s,rfl,hK⟩;exact m s w' hK
def ql0 (rows:Int) (cols:Int) (more:Int) (wider:Int) (bad:Int) (text:Slc) (w:World) (K:Bool->World->Prop):Prop :=Calls PG 4 #[(.int .i64 rows),(.int .i64 cols),(.int .i64 more),(.int .i64 wider),(.int .i64 bad),(.slice text.a text.n text.c)] w fun e w'=>∃r0:Bool,e=.returned (.bool r0)/\K r0 w'
def qjc  (w:World) (K:Bool->World->Prop):Prop :=Calls PG 6 #[] w fun e w'=>∃r0:Bool,e=.returned (.bool r0)/\K r0 w'
def qc8 (n:Int) (many:Int) (w:World) (K:Int->World->Prop):Prop :=Calls PG 7 #[(.int .i64 n),(.int .i64 many)] w fun e w'=>∃r0:Int,e=.returned (.int .i64 r0)/\K r0 w'
def qf5 (rows:Int) (cols:Int) (quota:Int) (w:World) (K:Option Addr->World->Prop):Prop :=Calls PG 8 #[(.int .i64 rows),(.int .i64 cols),(.int .i64 quota)] w fun e w'=>∃r0:Option Addr,e=.returned (.pointer r0)/\K r0 w'
def qh9 (t:Option Addr) (b:Slc) (w:World) (K:World->Prop):Prop :=Calls PG 9 #[(.pointer t),(.slice b.a b.n b.c)] w fun e w'=>e=.returned (.tuple #[])/\K w'
def qkm (t:Option Addr) (w:World) (K:Option Addr->World->Prop):Prop :=Calls PG 13 #[(.pointer t)] w fun e w'=>∃r0:Option Addr,e=.returned (.pointer r0)/\K r0 w'
def qlf (s:Option Addr) (w:World) (K:Slc->World->Prop):Prop :=Calls PG 14 #[(.pointer s)] w fun e w'=>∃r0:Slc,e=.returned (.slice r0.a r0.n r0.c)/\K r0 w'
def qb3 (t:Option Addr) (w:World) (K:Slc->World->Prop):Prop :=Calls PG 19 #[(.pointer t)] w fun e w'=>∃r0:Slc,e=.returned (.slice r0.a r0.n r0.c)/\K r0 w'
def qdf (t:Option Addr) (rows:Int) (cols:Int) (w:World) (K:Bool->World->Prop):Prop :=Calls PG 20 #[(.pointer t),(.int .i64 rows),(.int .i64 cols)] w fun e w'=>∃r0:Bool,e=.returned (.bool r0)/\K r0 w'
def qfm (l:Slc) (w:World) (K:ByteArray->World->Prop):Prop :=Calls PG 21 #[(.slice l.a l.n l.c)] w fun e w'=>∃r0:ByteArray,e=.returned (.string r0)/\K r0 w'
def qo0 (t:Option Addr) (w:World) (K:Slc->World->Prop):Prop :=Calls PG 22 #[(.pointer t)] w fun e w'=>∃r0:Slc,e=.returned (.slice r0.a r0.n r0.c)/\K r0 w'
def qys (c:qau) (w:World) (K:Option Addr->Int->World->Prop):Prop :=Calls PG 24 #[(.agg #[(.int .i64 c.Rows),(.int .i64 c.Cols),(.int .i64 c.CellW),(.int .i64 c.CellH),(.int .i64 c.Back),(.int .i64 c.Quota)])] w fun e w'=>∃r0:Option Addr,∃r1:Int,e=.returned (.tuple #[(.pointer r0),(.int .i64 r1)])/\K r0 r1 w'
def qjf (t:Option Addr) (w:World) (K:Slc->World->Prop):Prop :=Calls PG 26 #[(.pointer t)] w fun e w'=>∃r0:Slc,e=.returned (.slice r0.a r0.n r0.c)/\K r0 w'
def qhw (t:Option Addr) (w:World) (K:qaa->Int->World->Prop):Prop :=Calls PG 27 #[(.pointer t)] w fun e w'=>∃r0:qaa,∃r1:Int,e=.returned (.tuple #[(.agg #[(.int .i64 r0.W),(.int .i64 r0.H),(.slice r0.P.a r0.P.n r0.P.c)]),(.int .i64 r1)])/\K r0 r1 w'
def qja (p:Option Addr) (b:Slc) (say:Value) (w:World) (K:World->Prop):Prop :=Calls PG 28 #[(.pointer p),(.slice b.a b.n b.c),say] w fun e w'=>e=.returned (.tuple #[])/\K w'
def qlm (t:Option Addr) (e:qbf) (w:World) (K:World->Prop):Prop :=Calls PG 29 #[(.pointer t),(.agg #[(.int .i64 e.Kind),(.int .i32 e.R),(.int .u8 e.B),(.int .u8 e.Private),(.string e.Inter),(.slice e.Params.a e.Params.n e.Params.c),(.slice e.Data.a e.Data.n e.Data.c)])] w fun e w'=>e=.returned (.tuple #[])/\K w'
def qiv (e:Option Addr) (w:World) (K:Option Addr->World->Prop):Prop :=Calls PG 31 #[(.pointer e)] w fun e w'=>∃r0:Option Addr,e=.returned (.pointer r0)/\K r0 w'
def qf4 (seq:Value) (w:World) (K:Slc->World->Prop):Prop :=Calls PG 32 #[seq] w fun e w'=>∃r0:Slc,e=.returned (.slice r0.a r0.n r0.c)/\K r0 w'
def qcy (m:Option Nat) (w:World) (K:Value->World->Prop):Prop :=Calls PG 33 #[(.map m)] w fun e w'=>∃r0:Value,e=.returned r0/\K r0 w'
def qdr (s:Slc) (w:World) (K:Slc->World->Prop):Prop :=Calls PG 35 #[(.slice s.a s.n s.c)] w fun e w'=>∃r0:Slc,e=.returned (.slice r0.a r0.n r0.c)/\K r0 w'
def qom (f:Value) (w:World) (K:Slc->World->Prop):Prop :=Calls PG 38 #[f] w fun e w'=>∃r0:Slc,e=.returned (.slice r0.a r0.n r0.c)/\K r0 w'
def qfb (s:Option Addr) (w:World) (K:Option Addr->World->Prop):Prop :=Calls PG 39 #[(.pointer s)] w fun e w'=>∃r0:Option Addr,e=.returned (.pointer r0)/\K r0 w'
def qmn (g:Option Addr) (row:Int) (w:World) (K:Slc->Bool->World->Prop):Prop :=Calls PG 40 #[(.pointer g),(.int .i64 row)] w fun e w'=>∃r0:Slc,∃r1:Bool,e=.returned (.tuple #[(.slice r0.a r0.n r0.c),(.bool r1)])/\K r0 r1 w'
def qg1 (s:Option Addr) (rows:Int) (cols:Int) (w:World) (K:Int->World->Prop):Prop :=Calls PG 41 #[(.pointer s),(.int .i64 rows),(.int .i64 cols)] w fun e w'=>∃r0:Int,e=.returned (.int .i64 r0)/\K r0 w'
def qbp (t:Option Addr) (w:World) (K:World->Prop):Prop :=Calls PG 42 #[(.pointer t)] w fun e w'=>e=.returned (.tuple #[])/\K w'
def qb0 (l:Slc) (w:World) (K:Slc->World->Prop):Prop :=Calls PG 43 #[(.slice l.a l.n l.c)] w fun e w'=>∃r0:Slc,e=.returned (.slice r0.a r0.n r0.c)/\K r0 w'
def qee (b:Option Addr) (c:Int) (w:World) (K:Value->World->Prop):Prop :=Calls PG 44 #[(.pointer b),(.int .u8 c)] w fun e w'=>∃r0:Value,e=.returned r0/\K r0 w'
def qgb (b:Option Addr) (p:Slc) (w:World) (K:Int->Value->World->Prop):Prop :=Calls PG 45 #[(.pointer b),(.slice p.a p.n p.c)] w fun e w'=>∃r0:Int,∃r1:Value,e=.returned (.tuple #[(.int .i64 r0),r1])/\K r0 r1 w'
def quk (l:Slc) (w:World) (K:Slc->World->Prop):Prop :=Calls PG 46 #[(.slice l.a l.n l.c)] w fun e w'=>∃r0:Slc,e=.returned (.slice r0.a r0.n r0.c)/\K r0 w'
def qi7 (s:ByteArray) (cutset:ByteArray) (w:World) (K:ByteArray->World->Prop):Prop :=Calls PG 47 #[(.string s),(.string cutset)] w fun e w'=>∃r0:ByteArray,e=.returned (.string r0)/\K r0 w'
def qfn (b:Option Addr) (w:World) (K:ByteArray->World->Prop):Prop :=Calls PG 48 #[(.pointer b)] w fun e w'=>∃r0:ByteArray,e=.returned (.string r0)/\K r0 w'
def qoq (g:Option Addr) (i:Int) (w:World) (K:Slc->Bool->World->Prop):Prop :=Calls PG 49 #[(.pointer g),(.int .i64 i)] w fun e w'=>∃r0:Slc,∃r1:Bool,e=.returned (.tuple #[(.slice r0.a r0.n r0.c),(.bool r1)])/\K r0 r1 w'
def qt7 (c:qau) (w:World) (K:Option Addr->Int->World->Prop):Prop :=Calls PG 50 #[(.agg #[(.int .i64 c.Rows),(.int .i64 c.Cols),(.int .i64 c.CellW),(.int .i64 c.CellH),(.int .i64 c.Back),(.int .i64 c.Quota)])] w fun e w'=>∃r0:Option Addr,∃r1:Int,e=.returned (.tuple #[(.pointer r0),(.int .i64 r1)])/\K r0 r1 w'
def qv1 (quota:Int) (w:World) (K:Option Addr->Int->World->Prop):Prop :=Calls PG 51 #[(.int .i64 quota)] w fun e w'=>∃r0:Option Addr,∃r1:Int,e=.returned (.tuple #[(.pointer r0),(.int .i64 r1)])/\K r0 r1 w'
def q3d  (w:World) (K:Option Addr->World->Prop):Prop :=Calls PG 52 #[] w fun e w'=>∃r0:Option Addr,e=.returned (.pointer r0)/\K r0 w'
def qge (s:Slc) (w:World) (K:Slc->World->Prop):Prop :=Calls PG 53 #[(.slice s.a s.n s.c)] w fun e w'=>∃r0:Slc,e=.returned (.slice r0.a r0.n r0.c)/\K r0 w'
def qtz (s:qaf) (w:World) (K:qaa->Int->World->Prop):Prop :=Calls PG 54 #[(.agg #[(.int .i64 s.Rows),(.int .i64 s.Cols),(.int .i64 s.CellW),(.int .i64 s.CellH),(.slice s.Lines.a s.Lines.n s.Lines.c),(.slice s.Places.a s.Places.n s.Places.c),(.map s.Images),(.int .i64 s.Top),(.bool s.Cursor),(.int .i64 s.Row),(.int .i64 s.Col)])] w fun e w'=>∃r0:qaa,∃r1:Int,e=.returned (.tuple #[(.agg #[(.int .i64 r0.W),(.int .i64 r0.H),(.slice r0.P.a r0.P.n r0.P.c)]),(.int .i64 r1)])/\K r0 r1 w'
def qlp (t:Option Addr) (image:Value) (w:World) (K:qaf->World->Prop):Prop :=Calls PG 55 #[(.pointer t),image] w fun e w'=>∃r0:qaf,e=.returned (.agg #[(.int .i64 r0.Rows),(.int .i64 r0.Cols),(.int .i64 r0.CellW),(.int .i64 r0.CellH),(.slice r0.Lines.a r0.Lines.n r0.Lines.c),(.slice r0.Places.a r0.Places.n r0.Places.c),(.map r0.Images),(.int .i64 r0.Top),(.bool r0.Cursor),(.int .i64 r0.Row),(.int .i64 r0.Col)])/\K r0 w'
def qkf (p:Option Addr) (b:Slc) (w:World) (K:Int->World->Prop):Prop :=Calls PG 57 #[(.pointer p),(.slice b.a b.n b.c)] w fun e w'=>∃r0:Int,e=.returned (.int .i64 r0)/\K r0 w'
def qi9 (p:Option Addr) (c:Int) (w:World) (K:World->Prop):Prop :=Calls PG 58 #[(.pointer p),(.int .u8 c)] w fun e w'=>e=.returned (.tuple #[])/\K w'
def q29 (clear:Bool) (most:Int) (w:World) (K:Option Addr->Int->World->Prop):Prop :=Calls PG 60 #[(.bool clear),(.int .i64 most)] w fun e w'=>∃r0:Option Addr,∃r1:Int,e=.returned (.tuple #[(.pointer r0),(.int .i64 r1)])/\K r0 r1 w'
def q3v (t:Option Addr) (b:Slc) (w:World) (K:World->Prop):Prop :=Calls PG 61 #[(.pointer t),(.slice b.a b.n b.c)] w fun e w'=>e=.returned (.tuple #[])/\K w'
def q11 (t:Option Addr) (ok:Bool) (w:World) (K:World->Prop):Prop :=Calls PG 62 #[(.pointer t),(.bool ok)] w fun e w'=>e=.returned (.tuple #[])/\K w'
def q39 (t:Option Addr) (b:Slc) (w:World) (K:World->Prop):Prop :=Calls PG 63 #[(.pointer t),(.slice b.a b.n b.c)] w fun e w'=>e=.returned (.tuple #[])/\K w'
def q3q (t:Option Addr) (ok:Bool) (w:World) (K:World->Prop):Prop :=Calls PG 64 #[(.pointer t),(.bool ok)] w fun e w'=>e=.returned (.tuple #[])/\K w'
def qx7 (e:Option Addr) (w:World) (K:World->Prop):Prop :=Calls PG 65 #[(.pointer e)] w fun e w'=>e=.returned (.tuple #[])/\K w'
def qj3 (s:Option Addr) (e:qbf) (w:World) (K:Slc->World->Prop):Prop :=Calls PG 66 #[(.pointer s),(.agg #[(.int .i64 e.Kind),(.int .i32 e.R),(.int .u8 e.B),(.int .u8 e.Private),(.string e.Inter),(.slice e.Params.a e.Params.n e.Params.c),(.slice e.Data.a e.Data.n e.Data.c)])] w fun e w'=>∃r0:Slc,e=.returned (.slice r0.a r0.n r0.c)/\K r0 w'
def qjr (s:Option Addr) (w:World) (K:Option Addr->World->Prop):Prop :=Calls PG 68 #[(.pointer s)] w fun e w'=>∃r0:Option Addr,e=.returned (.pointer r0)/\K r0 w'
def qa3 (s:Option Addr) (w:World) (K:Option Addr->World->Prop):Prop :=Calls PG 73 #[(.pointer s)] w fun e w'=>∃r0:Option Addr,e=.returned (.pointer r0)/\K r0 w'
def qmq (g:Option Addr) (w:World) (K:Option Addr->World->Prop):Prop :=Calls PG 74 #[(.pointer g)] w fun e w'=>∃r0:Option Addr,e=.returned (.pointer r0)/\K r0 w'
def qdj (g:Option Addr) (row:Int) (w:World) (K:Bool->World->Prop):Prop :=Calls PG 75 #[(.pointer g),(.int .i64 row)] w fun e w'=>∃r0:Bool,e=.returned (.bool r0)/\K r0 w'
def qbv (s:Slc) (w:World) (K:Slc->World->Prop):Prop :=Calls PG 76 #[(.slice s.a s.n s.c)] w fun e w'=>∃r0:Slc,e=.returned (.slice r0.a r0.n r0.c)/\K r0 w'
def qcb (v:Int) (lo:Int) (hi:Int) (w:World) (K:Bool->World->Prop):Prop :=Calls PG 77 #[(.int .i64 v),(.int .i64 lo),(.int .i64 hi)] w fun e w'=>∃r0:Bool,e=.returned (.bool r0)/\K r0 w'
def qct (g:Option Addr) (w:World) (K:Int->Int->World->Prop):Prop :=Calls PG 78 #[(.pointer g)] w fun e w'=>∃r0:Int,∃r1:Int,e=.returned (.tuple #[(.int .i64 r0),(.int .i64 r1)])/\K r0 r1 w'
def qgo (g:Option Addr) (rows:Int) (cols:Int) (row:Int) (w:World) (K:Int->Int->World->Prop):Prop :=Calls PG 79 #[(.pointer g),(.int .i64 rows),(.int .i64 cols),(.int .i64 row)] w fun e w'=>∃r0:Int,∃r1:Int,e=.returned (.tuple #[(.int .i64 r0),(.int .i64 r1)])/\K r0 r1 w'
def qbt (v:Int) (lo:Int) (hi:Int) (w:World) (K:Int->World->Prop):Prop :=Calls PG 80 #[(.int .i64 v),(.int .i64 lo),(.int .i64 hi)] w fun e w'=>∃r0:Int,e=.returned (.int .i64 r0)/\K r0 w'
def qan (s:Option Addr) (row:Int) (col:Int) (w:World) (K:World->Prop):Prop :=Calls PG 81 #[(.pointer s),(.int .i64 row),(.int .i64 col)] w fun e w'=>e=.returned (.tuple #[])/\K w'
def qf7 (s:Option Addr) (cols:Int) (w:World) (K:Int->World->Prop):Prop :=Calls PG 82 #[(.pointer s),(.int .i64 cols)] w fun e w'=>∃r0:Int,e=.returned (.int .i64 r0)/\K r0 w'
def qg8 (s:Option Addr) (w:World) (K:Slc->World->Prop):Prop :=Calls PG 83 #[(.pointer s)] w fun e w'=>∃r0:Slc,e=.returned (.slice r0.a r0.n r0.c)/\K r0 w'
def qx6 (e:Option Addr) (alt:Bool) (line:Int) (rows:Int) (from_:Int) (to:Int) (w:World) (K:World->Prop):Prop :=Calls PG 84 #[(.pointer e),(.bool alt),(.int .i64 line),(.int .i64 rows),(.int .i64 from_),(.int .i64 to)] w fun e w'=>e=.returned (.tuple #[])/\K w'
def qg2 (s:Option Addr) (w:World) (K:Int->Int->World->Prop):Prop :=Calls PG 85 #[(.pointer s)] w fun e w'=>∃r0:Int,∃r1:Int,e=.returned (.tuple #[(.int .i64 r0),(.int .i64 r1)])/\K r0 r1 w'
def qon (e:Option Addr) (alt:Bool) (first:Int) (w:World) (K:World->Prop):Prop :=Calls PG 86 #[(.pointer e),(.bool alt),(.int .i64 first)] w fun e w'=>e=.returned (.tuple #[])/\K w'
def qfv (l:Slc) (col:Int) (w:World) (K:Bool->World->Prop):Prop :=Calls PG 87 #[(.slice l.a l.n l.c),(.int .i64 col)] w fun e w'=>∃r0:Bool,e=.returned (.bool r0)/\K r0 w'
def qc7 (b:Option Addr) (w:World) (K:World->Prop):Prop :=Calls PG 88 #[(.pointer b)] w fun e w'=>e=.returned (.tuple #[])/\K w'
def quh (r:Int) (w:World) (K:Bool->World->Prop):Prop :=Calls PG 89 #[(.int .i32 r)] w fun e w'=>∃r0:Bool,e=.returned (.bool r0)/\K r0 w'
def qgd (s:ByteArray) (c:Int) (w:World) (K:ByteArray->World->Prop):Prop :=Calls PG 90 #[(.string s),(.int .u8 c)] w fun e w'=>∃r0:ByteArray,e=.returned (.string r0)/\K r0 w'
def qfy (r:Option Addr) (i:Int) (w:World) (K:Slc->Bool->World->Prop):Prop :=Calls PG 94 #[(.pointer r),(.int .i64 i)] w fun e w'=>∃r0:Slc,∃r1:Bool,e=.returned (.tuple #[(.slice r0.a r0.n r0.c),(.bool r1)])/\K r0 r1 w'
def qpv (c:qau) (w:World) (K:Int->World->Prop):Prop :=Calls PG 95 #[(.agg #[(.int .i64 c.Rows),(.int .i64 c.Cols),(.int .i64 c.CellW),(.int .i64 c.CellH),(.int .i64 c.Back),(.int .i64 c.Quota)])] w fun e w'=>∃r0:Int,e=.returned (.int .i64 r0)/\K r0 w'
def qsk (rows:Int) (cols:Int) (back:Int) (w:World) (K:Option Addr->Int->World->Prop):Prop :=Calls PG 96 #[(.int .i64 rows),(.int .i64 cols),(.int .i64 back)] w fun e w'=>∃r0:Option Addr,∃r1:Int,e=.returned (.tuple #[(.pointer r0),(.int .i64 r1)])/\K r0 r1 w'
def qdm (s:Option Addr) (w:World) (K:World->Prop):Prop :=Calls PG 97 #[(.pointer s)] w fun e w'=>e=.returned (.tuple #[])/\K w'
def qv8 (quota:Int) (w:World) (K:Option Addr->Int->World->Prop):Prop :=Calls PG 98 #[(.int .i64 quota)] w fun e w'=>∃r0:Option Addr,∃r1:Int,e=.returned (.tuple #[(.pointer r0),(.int .i64 r1)])/\K r0 r1 w'
def q24  (w:World) (K:Option Addr->World->Prop):Prop :=Calls PG 99 #[] w fun e w'=>∃r0:Option Addr,e=.returned (.pointer r0)/\K r0 w'
def q6b  (w:World) (K:Option Addr->World->Prop):Prop :=Calls PG 100 #[] w fun e w'=>∃r0:Option Addr,e=.returned (.pointer r0)/\K r0 w'
def qc6 (v:Int) (lo:Int) (hi:Int) (w:World) (K:Bool->World->Prop):Prop :=Calls PG 102 #[(.int .i64 v),(.int .i64 lo),(.int .i64 hi)] w fun e w'=>∃r0:Bool,e=.returned (.bool r0)/\K r0 w'
def qwu (wx:Int) (hx:Int) (w:World) (K:qaa->Int->World->Prop):Prop :=Calls PG 103 #[(.int .i64 wx),(.int .i64 hx)] w fun e w'=>∃r0:qaa,∃r1:Int,e=.returned (.tuple #[(.agg #[(.int .i64 r0.W),(.int .i64 r0.H),(.slice r0.P.a r0.P.n r0.P.c)]),(.int .i64 r1)])/\K r0 r1 w'
def qoj (m:qaa) (l:Slc) (w:World) (K:qaa->World->Prop):Prop :=Calls PG 104 #[(.agg #[(.int .i64 m.W),(.int .i64 m.H),(.slice m.P.a m.P.n m.P.c)]),(.slice l.a l.n l.c)] w fun e w'=>∃r0:qaa,e=.returned (.agg #[(.int .i64 r0.W),(.int .i64 r0.H),(.slice r0.P.a r0.P.n r0.P.c)])/\K r0 w'
def qmg (t:Option Addr) (w:World) (K:qce->World->Prop):Prop :=Calls PG 105 #[(.pointer t)] w fun e w'=>∃r0:qce,e=.returned (.agg #[(.bool r0.View.Alt),(.int .i64 r0.View.Top),(.int .i64 r0.View.Rows),(.int .i64 r0.View.Cols),(.int .i64 r0.View.Row),(.int .i64 r0.View.Col),(.int .i64 r0.CellW),(.int .i64 r0.CellH)])/\K r0 w'
def qbe (e:Option Addr) (v:qap) (w:World) (K:Slc->World->Prop):Prop :=Calls PG 106 #[(.pointer e),(.agg #[(.bool v.Alt),(.int .i64 v.Top),(.int .i64 v.Rows),(.int .i64 v.Cols),(.int .i64 v.Row),(.int .i64 v.Col)])] w fun e w'=>∃r0:Slc,e=.returned (.slice r0.a r0.n r0.c)/\K r0 w'
def qmp (t:Option Addr) (n:Int) (private_:Bool) (w:World) (K:Bool->World->Prop):Prop :=Calls PG 107 #[(.pointer t),(.int .i64 n),(.bool private_)] w fun e w'=>∃r0:Bool,e=.returned (.bool r0)/\K r0 w'
def qhh (s:Slc) (f:Value) (w:World) (K:Int->World->Prop):Prop :=Calls PG 108 #[(.slice s.a s.n s.c),f] w fun e w'=>∃r0:Int,e=.returned (.int .i64 r0)/\K r0 w'
def qnw (c:Int) (w:World) (K:Bool->World->Prop):Prop :=Calls PG 109 #[(.int .u8 c)] w fun e w'=>∃r0:Bool,e=.returned (.bool r0)/\K r0 w'
def qdg (p:Option Addr) (l:Slc) (w:World) (K:World->Prop):Prop :=Calls PG 110 #[(.pointer p),(.slice l.a l.n l.c)] w fun e w'=>e=.returned (.tuple #[])/\K w'
def qio (p:Option Addr) (c:Int) (w:World) (K:World->Prop):Prop :=Calls PG 111 #[(.pointer p),(.int .u8 c)] w fun e w'=>e=.returned (.tuple #[])/\K w'
def qib (p:Option Addr) (c:Int) (w:World) (K:World->Prop):Prop :=Calls PG 112 #[(.pointer p),(.int .u8 c)] w fun e w'=>e=.returned (.tuple #[])/\K w'
def qcj (p:Option Addr) (l:Slc) (w:World) (K:World->Prop):Prop :=Calls PG 113 #[(.pointer p),(.slice l.a l.n l.c)] w fun e w'=>e=.returned (.tuple #[])/\K w'
def qe1 (d:Option Addr) (w:World) (K:Slc->World->Prop):Prop :=Calls PG 114 #[(.pointer d)] w fun e w'=>∃r0:Slc,e=.returned (.slice r0.a r0.n r0.c)/\K r0 w'
def qdq (p:Option Addr) (b:Int) (w:World) (K:World->Prop):Prop :=Calls PG 115 #[(.pointer p),(.int .u8 b)] w fun e w'=>e=.returned (.tuple #[])/\K w'
def qc1 (p:Option Addr) (state:Int) (w:World) (K:World->Prop):Prop :=Calls PG 116 #[(.pointer p),(.int .i64 state)] w fun e w'=>e=.returned (.tuple #[])/\K w'
def qhr (s:Option Addr) (r:Int) (w:World) (K:World->Prop):Prop :=Calls PG 126 #[(.pointer s),(.int .i32 r)] w fun e w'=>e=.returned (.tuple #[])/\K w'
def qgc (s:Option Addr) (c:Int) (w:World) (K:World->Prop):Prop :=Calls PG 127 #[(.pointer s),(.int .u8 c)] w fun e w'=>e=.returned (.tuple #[])/\K w'
def qg9 (s:Option Addr) (inter:ByteArray) (c:Int) (w:World) (K:World->Prop):Prop :=Calls PG 128 #[(.pointer s),(.string inter),(.int .u8 c)] w fun e w'=>e=.returned (.tuple #[])/\K w'
def qfp (s:Option Addr) (e:qbf) (w:World) (K:Slc->World->Prop):Prop :=Calls PG 129 #[(.pointer s),(.agg #[(.int .i64 e.Kind),(.int .i32 e.R),(.int .u8 e.B),(.int .u8 e.Private),(.string e.Inter),(.slice e.Params.a e.Params.n e.Params.c),(.slice e.Data.a e.Data.n e.Data.c)])] w fun e w'=>∃r0:Slc,e=.returned (.slice r0.a r0.n r0.c)/\K r0 w'
def qby (m:Option Nat) (w:World) (K:Option Nat->World->Prop):Prop :=Calls PG 131 #[(.map m)] w fun e w'=>∃r0:Option Nat,e=.returned (.map r0)/\K r0 w'
def qi1 (r:Option Addr) (w:World) (K:Option Addr->World->Prop):Prop :=Calls PG 135 #[(.pointer r)] w fun e w'=>∃r0:Option Addr,e=.returned (.pointer r0)/\K r0 w'
def qcd (s:Slc) (w:World) (K:Slc->World->Prop):Prop :=Calls PG 136 #[(.slice s.a s.n s.c)] w fun e w'=>∃r0:Slc,e=.returned (.slice r0.a r0.n r0.c)/\K r0 w'
def qg5 (n:Int) (w:World) (K:Bool->World->Prop):Prop :=Calls PG 137 #[(.int .i64 n)] w fun e w'=>∃r0:Bool,e=.returned (.bool r0)/\K r0 w'
def qeh (l:Slc) (cols:Int) (w:World) (K:Slc->World->Prop):Prop :=Calls PG 138 #[(.slice l.a l.n l.c),(.int .i64 cols)] w fun e w'=>∃r0:Slc,e=.returned (.slice r0.a r0.n r0.c)/\K r0 w'
def qbw (g:Option Addr) (top:Int) (past:Int) (n:Int) (a:qac) (w:World) (K:Int->World->Prop):Prop :=Calls PG 139 #[(.pointer g),(.int .i64 top),(.int .i64 past),(.int .i64 n),(.agg #[(.int .i64 a.Fg),(.int .i64 a.Bg),(.int .i64 a.Flags)])] w fun e w'=>∃r0:Int,e=.returned (.int .i64 r0)/\K r0 w'
def qbh (slices:Slc) (w:World) (K:Slc->World->Prop):Prop :=Calls PG 140 #[(.slice slices.a slices.n slices.c)] w fun e w'=>∃r0:Slc,e=.returned (.slice r0.a r0.n r0.c)/\K r0 w'
def qdk (g:Option Addr) (n:Int) (a:qac) (w:World) (K:Slc->World->Prop):Prop :=Calls PG 141 #[(.pointer g),(.int .i64 n),(.agg #[(.int .i64 a.Fg),(.int .i64 a.Bg),(.int .i64 a.Flags)])] w fun e w'=>∃r0:Slc,e=.returned (.slice r0.a r0.n r0.c)/\K r0 w'
def qay (s:Option Addr) (w:World) (K:Int->Int->World->Prop):Prop :=Calls PG 142 #[(.pointer s)] w fun e w'=>∃r0:Int,∃r1:Int,e=.returned (.tuple #[(.int .i64 r0),(.int .i64 r1)])/\K r0 r1 w'
def qfx (s:Option Addr) (w:World) (K:Slc->World->Prop):Prop :=Calls PG 143 #[(.pointer s)] w fun e w'=>∃r0:Slc,e=.returned (.slice r0.a r0.n r0.c)/\K r0 w'
def qlj (g:Option Addr) (w:World) (K:Int->World->Prop):Prop :=Calls PG 146 #[(.pointer g)] w fun e w'=>∃r0:Int,e=.returned (.int .i64 r0)/\K r0 w'
def qc5 (g:Option Addr) (w:World) (K:Int->World->Prop):Prop :=Calls PG 147 #[(.pointer g)] w fun e w'=>∃r0:Int,e=.returned (.int .i64 r0)/\K r0 w'
def qkw (l:Slc) (col:Int) (kind:Int) (w:World) (K:Bool->World->Prop):Prop :=Calls PG 149 #[(.slice l.a l.n l.c),(.int .i64 col),(.int .i64 kind)] w fun e w'=>∃r0:Bool,e=.returned (.bool r0)/\K r0 w'
def qij (most:Int) (w:World) (K:Option Addr->Int->World->Prop):Prop :=Calls PG 154 #[(.int .i64 most)] w fun e w'=>∃r0:Option Addr,∃r1:Int,e=.returned (.tuple #[(.pointer r0),(.int .i64 r1)])/\K r0 r1 w'
def qdx (g:Option Addr) (a:qac) (w:World) (K:World->Prop):Prop :=Calls PG 155 #[(.pointer g),(.agg #[(.int .i64 a.Fg),(.int .i64 a.Bg),(.int .i64 a.Flags)])] w fun e w'=>e=.returned (.tuple #[])/\K w'
def qxy (cols:Int) (w:World) (K:Option Addr->Int->World->Prop):Prop :=Calls PG 156 #[(.int .i64 cols)] w fun e w'=>∃r0:Option Addr,∃r1:Int,e=.returned (.tuple #[(.pointer r0),(.int .i64 r1)])/\K r0 r1 w'
def qht  (w:World) (K:qak->World->Prop):Prop :=Calls PG 157 #[] w fun e w'=>∃r0:qak,e=.returned (.agg #[(.int .i64 r0.Row),(.int .i64 r0.Col),(.bool r0.Wrap),(.int .i64 r0.A.Fg),(.int .i64 r0.A.Bg),(.int .i64 r0.A.Flags),(.bool r0.Origin),(.int .u8 r0.Sets.e0),(.int .u8 r0.Sets.e1),(.int .i64 r0.Shift)])/\K r0 w'
def qeq (s:Option Addr) (w:World) (K:World->Prop):Prop :=Calls PG 158 #[(.pointer s)] w fun e w'=>e=.returned (.tuple #[])/\K w'
def qt9 (wx:Int) (hx:Int) (w:World) (K:Bool->World->Prop):Prop :=Calls PG 159 #[(.int .i64 wx),(.int .i64 hx)] w fun e w'=>∃r0:Bool,e=.returned (.bool r0)/\K r0 w'
def qex (l:Value) (w:World) (K:ByteArray->World->Prop):Prop :=Calls PG 160 #[l] w fun e w'=>∃r0:ByteArray,e=.returned (.string r0)/\K r0 w'
def qii (s:Option Addr) (w:World) (K:Int->Int->World->Prop):Prop :=Calls PG 161 #[(.pointer s)] w fun e w'=>∃r0:Int,∃r1:Int,e=.returned (.tuple #[(.int .i64 r0),(.int .i64 r1)])/\K r0 r1 w'
def qg4 (s:Option Addr) (w:World) (K:qak->World->Prop):Prop :=Calls PG 162 #[(.pointer s)] w fun e w'=>∃r0:qak,e=.returned (.agg #[(.int .i64 r0.Row),(.int .i64 r0.Col),(.bool r0.Wrap),(.int .i64 r0.A.Fg),(.int .i64 r0.A.Bg),(.int .i64 r0.A.Flags),(.bool r0.Origin),(.int .u8 r0.Sets.e0),(.int .u8 r0.Sets.e1),(.int .i64 r0.Shift)])/\K r0 w'
def qd0 (s:Option Addr) (w:World) (K:Bool->World->Prop):Prop :=Calls PG 163 #[(.pointer s)] w fun e w'=>∃r0:Bool,e=.returned (.bool r0)/\K r0 w'
def qi8 (s:Option Addr) (w:World) (K:Int->World->Prop):Prop :=Calls PG 164 #[(.pointer s)] w fun e w'=>∃r0:Int,e=.returned (.int .i64 r0)/\K r0 w'
def qpf (t:Option Addr) (v:qap) (w:World) (K:Slc->World->Prop):Prop :=Calls PG 165 #[(.pointer t),(.agg #[(.bool v.Alt),(.int .i64 v.Top),(.int .i64 v.Rows),(.int .i64 v.Cols),(.int .i64 v.Row),(.int .i64 v.Col)])] w fun e w'=>∃r0:Slc,e=.returned (.slice r0.a r0.n r0.c)/\K r0 w'
def qe8 (s:Option Addr) (n:Int) (private_:Bool) (w:World) (K:Bool->Bool->World->Prop):Prop :=Calls PG 166 #[(.pointer s),(.int .i64 n),(.bool private_)] w fun e w'=>∃r0:Bool,∃r1:Bool,e=.returned (.tuple #[(.bool r0),(.bool r1)])/\K r0 r1 w'
def qf6 (p:Option Addr) (w:World) (K:World->Prop):Prop :=Calls PG 167 #[(.pointer p)] w fun e w'=>e=.returned (.tuple #[])/\K w'
def qdz (p:Option Addr) (c:Int) (w:World) (K:World->Prop):Prop :=Calls PG 168 #[(.pointer p),(.int .u8 c)] w fun e w'=>e=.returned (.tuple #[])/\K w'
def qgg (p:Option Addr) (c:Int) (w:World) (K:World->Prop):Prop :=Calls PG 169 #[(.pointer p),(.int .u8 c)] w fun e w'=>e=.returned (.tuple #[])/\K w'
def qes (p:Option Addr) (c:Int) (w:World) (K:World->Prop):Prop :=Calls PG 170 #[(.pointer p),(.int .u8 c)] w fun e w'=>e=.returned (.tuple #[])/\K w'
def qhv (p:Option Addr) (c:Int) (w:World) (K:World->Prop):Prop :=Calls PG 171 #[(.pointer p),(.int .u8 c)] w fun e w'=>e=.returned (.tuple #[])/\K w'
def qpp (d:Option Addr) (w:World) (K:Bool->World->Prop):Prop :=Calls PG 172 #[(.pointer d)] w fun e w'=>∃r0:Bool,e=.returned (.bool r0)/\K r0 w'
def qbn (s:Option Addr) (w:World) (K:World->Prop):Prop :=Calls PG 182 #[(.pointer s)] w fun e w'=>e=.returned (.tuple #[])/\K w'
def qrs (set:Int) (b:Int) (w:World) (K:Int->World->Prop):Prop :=Calls PG 191 #[(.int .u8 set),(.int .u8 b)] w fun e w'=>∃r0:Int,e=.returned (.int .i32 r0)/\K r0 w'
def qd1 (s:Option Addr) (r:Int) (w:World) (K:World->Prop):Prop :=Calls PG 192 #[(.pointer s),(.int .i32 r)] w fun e w'=>e=.returned (.tuple #[])/\K w'
def qhe (s:Option Addr) (col:Int) (n:Int) (w:World) (K:Int->World->Prop):Prop :=Calls PG 193 #[(.pointer s),(.int .i64 col),(.int .i64 n)] w fun e w'=>∃r0:Int,e=.returned (.int .i64 r0)/\K r0 w'
def qil (s:Option Addr) (w:World) (K:World->Prop):Prop :=Calls PG 194 #[(.pointer s)] w fun e w'=>e=.returned (.tuple #[])/\K w'
def qhc (s:Option Addr) (c:Int) (w:World) (K:World->Prop):Prop :=Calls PG 195 #[(.pointer s),(.int .u8 c)] w fun e w'=>e=.returned (.tuple #[])/\K w'
def qdn (p:Slc) (i:Int) (none_:Int) (w:World) (K:Int->World->Prop):Prop :=Calls PG 196 #[(.slice p.a p.n p.c),(.int .i64 i),(.int .i64 none_)] w fun e w'=>∃r0:Int,e=.returned (.int .i64 r0)/\K r0 w'
def qim (s:Option Addr) (w:World) (K:World->Prop):Prop :=Calls PG 197 #[(.pointer s)] w fun e w'=>e=.returned (.tuple #[])/\K w'
def qe6 (s:Option Addr) (n:Int) (on:Bool) (w:World) (K:World->Prop):Prop :=Calls PG 198 #[(.pointer s),(.int .i64 n),(.bool on)] w fun e w'=>e=.returned (.tuple #[])/\K w'
def qdh (s:ByteArray) (w:World) (K:Slc->World->Prop):Prop :=Calls PG 199 #[(.string s)] w fun e w'=>∃r0:Slc,e=.returned (.slice r0.a r0.n r0.c)/\K r0 w'
def qep (s:Option Addr) (w:World) (K:ByteArray->World->Prop):Prop :=Calls PG 200 #[(.pointer s)] w fun e w'=>∃r0:ByteArray,e=.returned (.string r0)/\K r0 w'
def qh2 (i:Int) (w:World) (K:ByteArray->World->Prop):Prop :=Calls PG 201 #[(.int .i64 i)] w fun e w'=>∃r0:ByteArray,e=.returned (.string r0)/\K r0 w'
def qhg (s:Option Addr) (n:Int) (w:World) (K:Int->World->Prop):Prop :=Calls PG 202 #[(.pointer s),(.int .i64 n)] w fun e w'=>∃r0:Int,e=.returned (.int .i64 r0)/\K r0 w'
def qik (s:Option Addr) (p:Slc) (c:Int) (w:World) (K:Slc->World->Prop):Prop :=Calls PG 203 #[(.pointer s),(.slice p.a p.n p.c),(.int .u8 c)] w fun e w'=>∃r0:Slc,e=.returned (.slice r0.a r0.n r0.c)/\K r0 w'
def qbu (slices:Slc) (w:World) (K:Slc->World->Prop):Prop :=Calls PG 216 #[(.slice slices.a slices.n slices.c)] w fun e w'=>∃r0:Slc,e=.returned (.slice r0.a r0.n r0.c)/\K r0 w'
def qgj (n:Int) (a:qac) (w:World) (K:Slc->World->Prop):Prop :=Calls PG 217 #[(.int .i64 n),(.agg #[(.int .i64 a.Fg),(.int .i64 a.Bg),(.int .i64 a.Flags)])] w fun e w'=>∃r0:Slc,e=.returned (.slice r0.a r0.n r0.c)/\K r0 w'
def qdc (r:Option Addr) (t:Slc) (w:World) (K:Slc->Bool->World->Prop):Prop :=Calls PG 218 #[(.pointer r),(.slice t.a t.n t.c)] w fun e w'=>∃r0:Slc,∃r1:Bool,e=.returned (.tuple #[(.slice r0.a r0.n r0.c),(.bool r1)])/\K r0 r1 w'
def qda (s:Slc) (n:Int) (w:World) (K:Slc->World->Prop):Prop :=Calls PG 219 #[(.slice s.a s.n s.c),(.int .i64 n)] w fun e w'=>∃r0:Slc,e=.returned (.slice r0.a r0.n r0.c)/\K r0 w'
def qsi (cols:Int) (a:qac) (w:World) (K:Slc->World->Prop):Prop :=Calls PG 220 #[(.int .i64 cols),(.agg #[(.int .i64 a.Fg),(.int .i64 a.Bg),(.int .i64 a.Flags)])] w fun e w'=>∃r0:Slc,e=.returned (.slice r0.a r0.n r0.c)/\K r0 w'
def qff (m:Option Nat) (w:World) (K:Value->World->Prop):Prop :=Calls PG 221 #[(.map m)] w fun e w'=>∃r0:Value,e=.returned r0/\K r0 w'
def qz2 (p:qa9) (line:Int) (rows:Int) (from_:Int) (past:Int) (w:World) (K:Bool->World->Prop):Prop :=Calls PG 226 #[(.agg #[(.int .i64 p.Image),(.int .i64 p.Id),(.bool p.Alt),(.int .i64 p.Line),(.int .i64 p.Col),(.int .i64 p.Rows),(.int .i64 p.Cols),(.int .i64 p.X),(.int .i64 p.Y),(.int .i64 p.W),(.int .i64 p.H),(.int .i64 p.DX),(.int .i64 p.DY),(.int .i64 p.Z)]),(.int .i64 line),(.int .i64 rows),(.int .i64 from_),(.int .i64 past)] w fun e w'=>∃r0:Bool,e=.returned (.bool r0)/\K r0 w'
def qmh (g:Option Addr) (w:World) (K:Int->World->Prop):Prop :=Calls PG 227 #[(.pointer g)] w fun e w'=>∃r0:Int,e=.returned (.int .i64 r0)/\K r0 w'
def qb2 (x:Slc) (cmp:Value) (w:World) (K:World->Prop):Prop :=Calls PG 232 #[(.slice x.a x.n x.c),cmp] w fun e w'=>e=.returned (.tuple #[])/\K w'
def qdw (c:Int) (w:World) (K:Bool->World->Prop):Prop :=Calls PG 234 #[(.int .u8 c)] w fun e w'=>∃r0:Bool,e=.returned (.bool r0)/\K r0 w'
def qo9 (p:Option Addr) (c:Int) (w:World) (K:World->Prop):Prop :=Calls PG 235 #[(.pointer p),(.int .u8 c)] w fun e w'=>e=.returned (.tuple #[])/\K w'
def qf3 (p:Option Addr) (c:Int) (w:World) (K:World->Prop):Prop :=Calls PG 236 #[(.pointer p),(.int .u8 c)] w fun e w'=>e=.returned (.tuple #[])/\K w'
def qie (p:Option Addr) (c:Int) (w:World) (K:Bool->World->Prop):Prop :=Calls PG 237 #[(.pointer p),(.int .u8 c)] w fun e w'=>∃r0:Bool,e=.returned (.bool r0)/\K r0 w'
def qlg (d:Option Addr) (b:Int) (w:World) (K:Slc->World->Prop):Prop :=Calls PG 238 #[(.pointer d),(.int .u8 b)] w fun e w'=>∃r0:Slc,e=.returned (.slice r0.a r0.n r0.c)/\K r0 w'
def qf0 (p:Option Addr) (w:World) (K:World->Prop):Prop :=Calls PG 239 #[(.pointer p)] w fun e w'=>e=.returned (.tuple #[])/\K w'
def qis (p:Option Addr) (c:Int) (w:World) (K:World->Prop):Prop :=Calls PG 240 #[(.pointer p),(.int .u8 c)] w fun e w'=>e=.returned (.tuple #[])/\K w'
def qbl (s:Option Addr) (w:World) (K:qac->World->Prop):Prop :=Calls PG 256 #[(.pointer s)] w fun e w'=>∃r0:qac,e=.returned (.agg #[(.int .i64 r0.Fg),(.int .i64 r0.Bg),(.int .i64 r0.Flags)])/\K r0 w'
def q2g  (w:World) (K:Slc->World->Prop):Prop :=Calls PG 271 #[] w fun e w'=>∃r0:Slc,e=.returned (.slice r0.a r0.n r0.c)/\K r0 w'
def qws (r:Int) (w:World) (K:Int->World->Prop):Prop :=Calls PG 272 #[(.int .i32 r)] w fun e w'=>∃r0:Int,e=.returned (.int .i64 r0)/\K r0 w'
def qeg (g:Option Addr) (row:Int) (f:Value) (w:World) (K:Bool->World->Prop):Prop :=Calls PG 273 #[(.pointer g),(.int .i64 row),f] w fun e w'=>∃r0:Bool,e=.returned (.bool r0)/\K r0 w'
def qm6 (l:Slc) (c0:Addr) (c1:Addr) (c2:Addr) (w:World) (K:Slc->World->Prop):Prop :=Calls PG 274 #[(.slice l.a l.n l.c),(.pointer (some c0)),(.pointer (some c1)),(.pointer (some c2))] w fun e w'=>∃r0:Slc,e=.returned (.slice r0.a r0.n r0.c)/\K r0 w'
def qgr (l:Slc) (col:Int) (n:Int) (a:qac) (w:World) (K:Slc->World->Prop):Prop :=Calls PG 275 #[(.slice l.a l.n l.c),(.int .i64 col),(.int .i64 n),(.agg #[(.int .i64 a.Fg),(.int .i64 a.Bg),(.int .i64 a.Flags)])] w fun e w'=>∃r0:Slc,e=.returned (.slice r0.a r0.n r0.c)/\K r0 w'
def qot (l:Slc) (col:Int) (r:Int) (width:Int) (a:qac) (w:World) (K:Slc->Bool->World->Prop):Prop :=Calls PG 276 #[(.slice l.a l.n l.c),(.int .i64 col),(.int .i32 r),(.int .i64 width),(.agg #[(.int .i64 a.Fg),(.int .i64 a.Bg),(.int .i64 a.Flags)])] w fun e w'=>∃r0:Slc,∃r1:Bool,e=.returned (.tuple #[(.slice r0.a r0.n r0.c),(.bool r1)])/\K r0 r1 w'
def qgq (s:Option Addr) (col:Int) (w:World) (K:Bool->World->Prop):Prop :=Calls PG 277 #[(.pointer s),(.int .i64 col)] w fun e w'=>∃r0:Bool,e=.returned (.bool r0)/\K r0 w'
def qln (s:Option Addr) (col:Int) (w:World) (K:Int->World->Prop):Prop :=Calls PG 278 #[(.pointer s),(.int .i64 col)] w fun e w'=>∃r0:Int,e=.returned (.int .i64 r0)/\K r0 w'
def qor (g:Option Addr) (row:Int) (l:Slc) (w:World) (K:Bool->World->Prop):Prop :=Calls PG 279 #[(.pointer g),(.int .i64 row),(.slice l.a l.n l.c)] w fun e w'=>∃r0:Bool,e=.returned (.bool r0)/\K r0 w'
def qf8 (s:Option Addr) (w:World) (K:World->Prop):Prop :=Calls PG 280 #[(.pointer s)] w fun e w'=>e=.returned (.tuple #[])/\K w'
def qmk (s:Option Addr) (col:Int) (w:World) (K:Bool->World->Prop):Prop :=Calls PG 281 #[(.pointer s),(.int .i64 col)] w fun e w'=>∃r0:Bool,e=.returned (.bool r0)/\K r0 w'
def qdp (s:Option Addr) (w:World) (K:World->Prop):Prop :=Calls PG 282 #[(.pointer s)] w fun e w'=>e=.returned (.tuple #[])/\K w'
def qc3 (s:Option Addr) (w:World) (K:World->Prop):Prop :=Calls PG 283 #[(.pointer s)] w fun e w'=>e=.returned (.tuple #[])/\K w'
def qhu (s:Option Addr) (w:World) (K:World->Prop):Prop :=Calls PG 284 #[(.pointer s)] w fun e w'=>e=.returned (.tuple #[])/\K w'
def qe3 (s:Option Addr) (w:World) (K:World->Prop):Prop :=Calls PG 285 #[(.pointer s)] w fun e w'=>e=.returned (.tuple #[])/\K w'
def qfa (s:Option Addr) (to:Int) (all:Bool) (w:World) (K:World->Prop):Prop :=Calls PG 286 #[(.pointer s),(.int .i64 to),(.bool all)] w fun e w'=>e=.returned (.tuple #[])/\K w'
def qub (a:qac) (params:Slc) (w:World) (K:qac->World->Prop):Prop :=Calls PG 288 #[(.agg #[(.int .i64 a.Fg),(.int .i64 a.Bg),(.int .i64 a.Flags)]),(.slice params.a params.n params.c)] w fun e w'=>∃r0:qac,e=.returned (.agg #[(.int .i64 r0.Fg),(.int .i64 r0.Bg),(.int .i64 r0.Flags)])/\K r0 w'
def qga (s:Option Addr) (p:Slc) (w:World) (K:World->Prop):Prop :=Calls PG 289 #[(.pointer s),(.slice p.a p.n p.c)] w fun e w'=>e=.returned (.tuple #[])/\K w'
def qkg (s:Option Addr) (col:Int) (w:World) (K:Bool->World->Prop):Prop :=Calls PG 290 #[(.pointer s),(.int .i64 col)] w fun e w'=>∃r0:Bool,e=.returned (.bool r0)/\K r0 w'
def qlo (s:Option Addr) (w:World) (K:World->Prop):Prop :=Calls PG 291 #[(.pointer s)] w fun e w'=>e=.returned (.tuple #[])/\K w'
def qhk (s:Option Addr) (n:Int) (w:World) (K:World->Prop):Prop :=Calls PG 292 #[(.pointer s),(.int .i64 n)] w fun e w'=>e=.returned (.tuple #[])/\K w'
def qgf (s:Option Addr) (how:Int) (w:World) (K:World->Prop):Prop :=Calls PG 293 #[(.pointer s),(.int .i64 how)] w fun e w'=>e=.returned (.tuple #[])/\K w'
def qg3 (s:Option Addr) (how:Int) (w:World) (K:World->Prop):Prop :=Calls PG 294 #[(.pointer s),(.int .i64 how)] w fun e w'=>e=.returned (.tuple #[])/\K w'
def qdi (s:Option Addr) (c:Int) (n:Int) (w:World) (K:World->Prop):Prop :=Calls PG 295 #[(.pointer s),(.int .u8 c),(.int .i64 n)] w fun e w'=>e=.returned (.tuple #[])/\K w'
def qeo (s:Option Addr) (c:Int) (n:Int) (w:World) (K:World->Prop):Prop :=Calls PG 296 #[(.pointer s),(.int .u8 c),(.int .i64 n)] w fun e w'=>e=.returned (.tuple #[])/\K w'
def qic (s:Option Addr) (p:Slc) (c:Int) (n:Int) (w:World) (K:World->Prop):Prop :=Calls PG 297 #[(.pointer s),(.slice p.a p.n p.c),(.int .u8 c),(.int .i64 n)] w fun e w'=>e=.returned (.tuple #[])/\K w'
def qdd (s:Slc) (n:Int) (w:World) (K:Slc->World->Prop):Prop :=Calls PG 304 #[(.slice s.a s.n s.c),(.int .i64 n)] w fun e w'=>∃r0:Slc,e=.returned (.slice r0.a r0.n r0.c)/\K r0 w'
def qev (r:Option Addr) (w:World) (K:World->Prop):Prop :=Calls PG 305 #[(.pointer r)] w fun e w'=>e=.returned (.tuple #[])/\K w'
def qe9 (r:Option Addr) (w:World) (K:Int->World->Prop):Prop :=Calls PG 308 #[(.pointer r)] w fun e w'=>∃r0:Int,e=.returned (.int .i64 r0)/\K r0 w'
def qe2 (data:Slc) (n:Int) (cmp:Value) (w:World) (K:World->Prop):Prop :=Calls PG 314 #[(.slice data.a data.n data.c),(.int .i64 n),cmp] w fun e w'=>e=.returned (.tuple #[])/\K w'
def qi6 (d:Option Addr) (b:Int) (w:World) (K:Slc->World->Prop):Prop :=Calls PG 315 #[(.pointer d),(.int .u8 b)] w fun e w'=>∃r0:Slc,e=.returned (.slice r0.a r0.n r0.c)/\K r0 w'
def qd6 (s:Slc) (w:World) (K:Slc->World->Prop):Prop :=Calls PG 316 #[(.slice s.a s.n s.c)] w fun e w'=>∃r0:Slc,e=.returned (.slice r0.a r0.n r0.c)/\K r0 w'
def qx9 (r:Int) (l:Slc) (w:World) (K:Bool->World->Prop):Prop :=Calls PG 344 #[(.int .i32 r),(.slice l.a l.n l.c)] w fun e w'=>∃r0:Bool,e=.returned (.bool r0)/\K r0 w'
def qy1  (w:World) (K:Slc->World->Prop):Prop :=Calls PG 345 #[] w fun e w'=>∃r0:Slc,e=.returned (.slice r0.a r0.n r0.c)/\K r0 w'
def qyr  (w:World) (K:Slc->World->Prop):Prop :=Calls PG 346 #[] w fun e w'=>∃r0:Slc,e=.returned (.slice r0.a r0.n r0.c)/\K r0 w'
def qiw (l:Slc) (col:Int) (n:Int) (w:World) (K:Int->World->Prop):Prop :=Calls PG 347 #[(.slice l.a l.n l.c),(.int .i64 col),(.int .i64 n)] w fun e w'=>∃r0:Int,e=.returned (.int .i64 r0)/\K r0 w'
def qgu (l:Slc) (from_:Int) (to:Int) (w:World) (K:Slc->World->Prop):Prop :=Calls PG 348 #[(.slice l.a l.n l.c),(.int .i64 from_),(.int .i64 to)] w fun e w'=>∃r0:Slc,e=.returned (.slice r0.a r0.n r0.c)/\K r0 w'
def qcv (g:Option Addr) (w:World) (K:World->Prop):Prop :=Calls PG 349 #[(.pointer g)] w fun e w'=>e=.returned (.tuple #[])/\K w'
def qbm (s:Option Addr) (row:Int) (rows:Int) (from_:Int) (to:Int) (w:World) (K:World->Prop):Prop :=Calls PG 350 #[(.pointer s),(.int .i64 row),(.int .i64 rows),(.int .i64 from_),(.int .i64 to)] w fun e w'=>e=.returned (.tuple #[])/\K w'
def qqc (n:Int) (w:World) (K:Int->World->Prop):Prop :=Calls PG 352 #[(.int .i64 n)] w fun e w'=>∃r0:Int,e=.returned (.int .i64 r0)/\K r0 w'
def qsv (to:Option Addr) (l:Slc) (w:World) (K:Slc->World->Prop):Prop :=Calls PG 353 #[(.pointer to),(.slice l.a l.n l.c)] w fun e w'=>∃r0:Slc,e=.returned (.slice r0.a r0.n r0.c)/\K r0 w'
def qj5 (l:Slc) (col:Int) (n:Int) (a:qac) (w:World) (K:Slc->World->Prop):Prop :=Calls PG 354 #[(.slice l.a l.n l.c),(.int .i64 col),(.int .i64 n),(.agg #[(.int .i64 a.Fg),(.int .i64 a.Bg),(.int .i64 a.Flags)])] w fun e w'=>∃r0:Slc,e=.returned (.slice r0.a r0.n r0.c)/\K r0 w'
def qlb (l:Slc) (c0:Addr) (c1:Addr) (c2:Addr) (w:World) (K:Slc->World->Prop):Prop :=Calls PG 355 #[(.slice l.a l.n l.c),(.pointer (some c0)),(.pointer (some c1)),(.pointer (some c2))] w fun e w'=>∃r0:Slc,e=.returned (.slice r0.a r0.n r0.c)/\K r0 w'
def qkn (s:Option Addr) (n:Int) (w:World) (K:World->Prop):Prop :=Calls PG 356 #[(.pointer s),(.int .i64 n)] w fun e w'=>e=.returned (.tuple #[])/\K w'
def qiu (s:Option Addr) (n:Int) (w:World) (K:World->Prop):Prop :=Calls PG 357 #[(.pointer s),(.int .i64 n)] w fun e w'=>e=.returned (.tuple #[])/\K w'
def qet (s:Option Addr) (n:Int) (w:World) (K:Int->World->Prop):Prop :=Calls PG 358 #[(.pointer s),(.int .i64 n)] w fun e w'=>∃r0:Int,e=.returned (.int .i64 r0)/\K r0 w'
def qr5 (s:Option Addr) (col:Int) (n:Int) (w:World) (K:Int->World->Prop):Prop :=Calls PG 359 #[(.pointer s),(.int .i64 col),(.int .i64 n)] w fun e w'=>∃r0:Int,e=.returned (.int .i64 r0)/\K r0 w'
def qcf (data:Slc) (a:Int) (b:Int) (cmp:Value) (w:World) (K:World->Prop):Prop :=Calls PG 364 #[(.slice data.a data.n data.c),(.int .i64 a),(.int .i64 b),cmp] w fun e w'=>e=.returned (.tuple #[])/\K w'
def qei (data:Slc) (a:Int) (m:Int) (b:Int) (cmp:Value) (w:World) (K:World->Prop):Prop :=Calls PG 365 #[(.slice data.a data.n data.c),(.int .i64 a),(.int .i64 m),(.int .i64 b),cmp] w fun e w'=>e=.returned (.tuple #[])/\K w'
def qd8 (r:Option Addr) (w:World) (K:World->Prop):Prop :=Calls PG 386 #[(.pointer r)] w fun e w'=>e=.returned (.tuple #[])/\K w'
def qit (g:Option Addr) (row:Int) (from_:Int) (to:Int) (a:qac) (w:World) (K:Bool->World->Prop):Prop :=Calls PG 387 #[(.pointer g),(.int .i64 row),(.int .i64 from_),(.int .i64 to),(.agg #[(.int .i64 a.Fg),(.int .i64 a.Bg),(.int .i64 a.Flags)])] w fun e w'=>∃r0:Bool,e=.returned (.bool r0)/\K r0 w'
def qhj (v:Int) (w:World) (K:Bool->World->Prop):Prop :=Calls PG 392 #[(.int .i64 v)] w fun e w'=>∃r0:Bool,e=.returned (.bool r0)/\K r0 w'
def qq5 (l:Slc) (c0:Addr) (c1:Addr) (c2:Addr) (w:World) (K:Slc->World->Prop):Prop :=Calls PG 412 #[(.slice l.a l.n l.c),(.pointer (some c0)),(.pointer (some c1)),(.pointer (some c2))] w fun e w'=>∃r0:Slc,e=.returned (.slice r0.a r0.n r0.c)/\K r0 w'
def qlq (l:Slc) (from_:Int) (to:Int) (a:qac) (w:World) (K:Slc->World->Prop):Prop :=Calls PG 413 #[(.slice l.a l.n l.c),(.int .i64 from_),(.int .i64 to),(.agg #[(.int .i64 a.Fg),(.int .i64 a.Bg),(.int .i64 a.Flags)])] w fun e w'=>∃r0:Slc,e=.returned (.slice r0.a r0.n r0.c)/\K r0 w'
def qgt (s:qaf) (f:Value) (w:World) (K:World->Prop):Prop :=Calls PG 523 #[(.agg #[(.int .i64 s.Rows),(.int .i64 s.Cols),(.int .i64 s.CellW),(.int .i64 s.CellH),(.slice s.Lines.a s.Lines.n s.Lines.c),(.slice s.Places.a s.Places.n s.Places.c),(.map s.Images),(.int .i64 s.Top),(.bool s.Cursor),(.int .i64 s.Row),(.int .i64 s.Col)]),f] w fun e w'=>e=.returned (.tuple #[])/\K w'
def qhy (l:qam) (m:qaa) (w:World) (K:qaa->World->Prop):Prop :=Calls PG 525 #[(.agg #[(.int .i64 l.s.Rows),(.int .i64 l.s.Cols),(.int .i64 l.s.CellW),(.int .i64 l.s.CellH),(.slice l.s.Lines.a l.s.Lines.n l.s.Lines.c),(.slice l.s.Places.a l.s.Places.n l.s.Places.c),(.map l.s.Images),(.int .i64 l.s.Top),(.bool l.s.Cursor),(.int .i64 l.s.Row),(.int .i64 l.s.Col)]),(.agg #[(.int .i64 m.W),(.int .i64 m.H),(.slice m.P.a m.P.n m.P.c)])] w fun e w'=>∃r0:qaa,e=.returned (.agg #[(.int .i64 r0.W),(.int .i64 r0.H),(.slice r0.P.a r0.P.n r0.P.c)])/\K r0 w'
def qk2 (row:Int) (col:Int) (c:qax) (c0:Addr) (c1:Addr) (w:World) (K:World->Prop):Prop :=Calls PG 526 #[(.int .i64 row),(.int .i64 col),(.agg #[(.int .i32 c.R),(.int .i64 c.Kind),(.int .i64 c.A.Fg),(.int .i64 c.A.Bg),(.int .i64 c.A.Flags)]),(.pointer (some c0)),(.pointer (some c1))] w fun e w'=>e=.returned (.tuple #[])/\K w'
def qmd (a:qac) (w:World) (K:qad->qad->World->Prop):Prop :=Calls PG 527 #[(.agg #[(.int .i64 a.Fg),(.int .i64 a.Bg),(.int .i64 a.Flags)])] w fun e w'=>∃r0:qad,∃r1:qad,e=.returned (.tuple #[(.agg #[(.int .u8 r0.e0),(.int .u8 r0.e1),(.int .u8 r0.e2)]),(.agg #[(.int .u8 r1.e0),(.int .u8 r1.e1),(.int .u8 r1.e2)])])/\K r0 r1 w'
def qo1 (m:qaa) (x:Int) (y:Int) (wx:Int) (hx:Int) (c:qag) (w:World) (K:World->Prop):Prop :=Calls PG 528 #[(.agg #[(.int .i64 m.W),(.int .i64 m.H),(.slice m.P.a m.P.n m.P.c)]),(.int .i64 x),(.int .i64 y),(.int .i64 wx),(.int .i64 hx),(.agg #[(.int .u8 c.e0),(.int .u8 c.e1),(.int .u8 c.e2),(.int .u8 c.e3)])] w fun e w'=>e=.returned (.tuple #[])/\K w'
def qbd (c:qad) (w:World) (K:qag->World->Prop):Prop :=Calls PG 529 #[(.agg #[(.int .u8 c.e0),(.int .u8 c.e1),(.int .u8 c.e2)])] w fun e w'=>∃r0:qag,e=.returned (.agg #[(.int .u8 r0.e0),(.int .u8 r0.e1),(.int .u8 r0.e2),(.int .u8 r0.e3)])/\K r0 w'
def qkc (s:qaf) (row:Int) (col:Int) (w:World) (K:qax->World->Prop):Prop :=Calls PG 530 #[(.agg #[(.int .i64 s.Rows),(.int .i64 s.Cols),(.int .i64 s.CellW),(.int .i64 s.CellH),(.slice s.Lines.a s.Lines.n s.Lines.c),(.slice s.Places.a s.Places.n s.Places.c),(.map s.Images),(.int .i64 s.Top),(.bool s.Cursor),(.int .i64 s.Row),(.int .i64 s.Col)]),(.int .i64 row),(.int .i64 col)] w fun e w'=>∃r0:qax,e=.returned (.agg #[(.int .i32 r0.R),(.int .i64 r0.Kind),(.int .i64 r0.A.Fg),(.int .i64 r0.A.Bg),(.int .i64 r0.A.Flags)])/\K r0 w'
def qoh (c:Int) (fore:Bool) (w:World) (K:qad->World->Prop):Prop :=Calls PG 531 #[(.int .i64 c),(.bool fore)] w fun e w'=>∃r0:qad,e=.returned (.agg #[(.int .u8 r0.e0),(.int .u8 r0.e1),(.int .u8 r0.e2)])/\K r0 w'
def q0k (c:Int) (w:World) (K:Bool->World->Prop):Prop :=Calls PG 532 #[(.int .i64 c)] w fun e w'=>∃r0:Bool,e=.returned (.bool r0)/\K r0 w'
def qmf (v:Int) (w:World) (K:qad->World->Prop):Prop :=Calls PG 533 #[(.int .i64 v)] w fun e w'=>∃r0:qad,e=.returned (.agg #[(.int .u8 r0.e0),(.int .u8 r0.e1),(.int .u8 r0.e2)])/\K r0 w'
def q72 (n:Int) (w:World) (K:qad->World->Prop):Prop :=Calls PG 534 #[(.int .i64 n)] w fun e w'=>∃r0:qad,e=.returned (.agg #[(.int .u8 r0.e0),(.int .u8 r0.e1),(.int .u8 r0.e2)])/\K r0 w'
def qh8 (l:qb4) (m:qaa) (w:World) (K:qaa->World->Prop):Prop :=Calls PG 535 #[(.agg #[(.int .i64 l.s.Rows),(.int .i64 l.s.Cols),(.int .i64 l.s.CellW),(.int .i64 l.s.CellH),(.slice l.s.Lines.a l.s.Lines.n l.s.Lines.c),(.slice l.s.Places.a l.s.Places.n l.s.Places.c),(.map l.s.Images),(.int .i64 l.s.Top),(.bool l.s.Cursor),(.int .i64 l.s.Row),(.int .i64 l.s.Col),(.bool l.above)]),(.agg #[(.int .i64 m.W),(.int .i64 m.H),(.slice m.P.a m.P.n m.P.c)])] w fun e w'=>∃r0:qaa,e=.returned (.agg #[(.int .i64 r0.W),(.int .i64 r0.H),(.slice r0.P.a r0.P.n r0.P.c)])/\K r0 w'
def q5h (s:qaf) (p:qa9) (w:World) (K:Int->Int->Int->Int->World->Prop):Prop :=Calls PG 536 #[(.agg #[(.int .i64 s.Rows),(.int .i64 s.Cols),(.int .i64 s.CellW),(.int .i64 s.CellH),(.slice s.Lines.a s.Lines.n s.Lines.c),(.slice s.Places.a s.Places.n s.Places.c),(.map s.Images),(.int .i64 s.Top),(.bool s.Cursor),(.int .i64 s.Row),(.int .i64 s.Col)]),(.agg #[(.int .i64 p.Image),(.int .i64 p.Id),(.bool p.Alt),(.int .i64 p.Line),(.int .i64 p.Col),(.int .i64 p.Rows),(.int .i64 p.Cols),(.int .i64 p.X),(.int .i64 p.Y),(.int .i64 p.W),(.int .i64 p.H),(.int .i64 p.DX),(.int .i64 p.DY),(.int .i64 p.Z)])] w fun e w'=>∃r0:Int,∃r1:Int,∃r2:Int,∃r3:Int,e=.returned (.tuple #[(.int .i64 r0),(.int .i64 r1),(.int .i64 r2),(.int .i64 r3)])/\K r0 r1 r2 r3 w'
def q9i (m:qaa) (x:Int) (y:Int) (wx:Int) (hx:Int) (w:World) (K:qaa->World->Prop):Prop :=Calls PG 537 #[(.agg #[(.int .i64 m.W),(.int .i64 m.H),(.slice m.P.a m.P.n m.P.c)]),(.int .i64 x),(.int .i64 y),(.int .i64 wx),(.int .i64 hx)] w fun e w'=>∃r0:qaa,e=.returned (.agg #[(.int .i64 r0.W),(.int .i64 r0.H),(.slice r0.P.a r0.P.n r0.P.c)])/\K r0 w'
def q94 (out:qaa) (src:qaa) (x:Int) (y:Int) (wx:Int) (hx:Int) (w:World) (K:World->Prop):Prop :=Calls PG 538 #[(.agg #[(.int .i64 out.W),(.int .i64 out.H),(.slice out.P.a out.P.n out.P.c)]),(.agg #[(.int .i64 src.W),(.int .i64 src.H),(.slice src.P.a src.P.n src.P.c)]),(.int .i64 x),(.int .i64 y),(.int .i64 wx),(.int .i64 hx)] w fun e w'=>e=.returned (.tuple #[])/\K w'
def qif (l:qam) (m:qaa) (w:World) (K:qaa->World->Prop):Prop :=Calls PG 542 #[(.agg #[(.int .i64 l.s.Rows),(.int .i64 l.s.Cols),(.int .i64 l.s.CellW),(.int .i64 l.s.CellH),(.slice l.s.Lines.a l.s.Lines.n l.s.Lines.c),(.slice l.s.Places.a l.s.Places.n l.s.Places.c),(.map l.s.Images),(.int .i64 l.s.Top),(.bool l.s.Cursor),(.int .i64 l.s.Row),(.int .i64 l.s.Col)]),(.agg #[(.int .i64 m.W),(.int .i64 m.H),(.slice m.P.a m.P.n m.P.c)])] w fun e w'=>∃r0:qaa,e=.returned (.agg #[(.int .i64 r0.W),(.int .i64 r0.H),(.slice r0.P.a r0.P.n r0.P.c)])/\K r0 w'
def qls (row:Int) (col:Int) (c:qax) (c0:Addr) (c1:Addr) (w:World) (K:World->Prop):Prop :=Calls PG 543 #[(.int .i64 row),(.int .i64 col),(.agg #[(.int .i32 c.R),(.int .i64 c.Kind),(.int .i64 c.A.Fg),(.int .i64 c.A.Bg),(.int .i64 c.A.Flags)]),(.pointer (some c0)),(.pointer (some c1))] w fun e w'=>e=.returned (.tuple #[])/\K w'
def qwi (r:Int) (wx:Int) (hx:Int) (a:qac) (lay:Value) (w:World) (K:World->Prop):Prop :=Calls PG 544 #[(.int .i32 r),(.int .i64 wx),(.int .i64 hx),(.agg #[(.int .i64 a.Fg),(.int .i64 a.Bg),(.int .i64 a.Flags)]),lay] w fun e w'=>e=.returned (.tuple #[])/\K w'
def qj7 (x:Int) (y:Int) (wx:Int) (hx:Int) (k:qag) (c0:Addr) (c1:Addr) (c2:Addr) (c3:Addr) (w:World) (K:World->Prop):Prop :=Calls PG 545 #[(.int .i64 x),(.int .i64 y),(.int .i64 wx),(.int .i64 hx),(.agg #[(.int .u8 k.e0),(.int .u8 k.e1),(.int .u8 k.e2),(.int .u8 k.e3)]),(.pointer (some c0)),(.pointer (some c1)),(.pointer (some c2)),(.pointer (some c3))] w fun e w'=>e=.returned (.tuple #[])/\K w'
def qin (l:qam) (m:qaa) (w:World) (K:qaa->World->Prop):Prop :=Calls PG 546 #[(.agg #[(.int .i64 l.s.Rows),(.int .i64 l.s.Cols),(.int .i64 l.s.CellW),(.int .i64 l.s.CellH),(.slice l.s.Lines.a l.s.Lines.n l.s.Lines.c),(.slice l.s.Places.a l.s.Places.n l.s.Places.c),(.map l.s.Images),(.int .i64 l.s.Top),(.bool l.s.Cursor),(.int .i64 l.s.Row),(.int .i64 l.s.Col)]),(.agg #[(.int .i64 m.W),(.int .i64 m.H),(.slice m.P.a m.P.n m.P.c)])] w fun e w'=>∃r0:qaa,e=.returned (.agg #[(.int .i64 r0.W),(.int .i64 r0.H),(.slice r0.P.a r0.P.n r0.P.c)])/\K r0 w'
end Go.Proofs.YtcigiaecigedmaaGreatDoor
