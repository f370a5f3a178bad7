import Derived.Test.YtokfefnmpjohpaaGreatDoorVc
import Derived.Test.YtokfefnmpjohpaaGreatDoorChecked
import Derived.KernelRfl
set_option maxRecDepth 100000
set_option linter.unusedVariables false
namespace Go.Proofs.YtokfefnmpjohpaaGreatDoor
open Go.Vc
structure qa where
 W:Int
 H:Int
 P:Slc
def qa.rep:Rep where
 T:=qa
 cells x:=[Ua x.W,Ua x.H,.slice x.P.a x.P.n x.P.c]
 get:=jJ [.int .i64,.int .i64,.slice] qa.mk
 ok:=qV λ_=>rfl
structure qL where
 Rows:Int
 Cols:Int
 CellW:Int
 CellH:Int
 Back:Int
 Quota:Int
def qL.rep:Rep where
 T:=qL
 cells x:=[Ua x.Rows,Ua x.Cols,Ua x.CellW,Ua x.CellH,Ua x.Back,Ua x.Quota]
 get:=jJ [.int .i64,.int .i64,.int .i64,.int .i64,.int .i64,.int .i64] qL.mk
 ok:=qV λ_=>rfl
structure kx where
 e0:Int
 e1:Int
def kx.rep:Rep where
 T:=kx
 cells x:=[Ua x.e0,Ua x.e1]
 get:=jJ [.int .i64,.int .i64] kx.mk
 ok:=qV λ_=>rfl
structure qii where
 c:qL
 s:Option Addr
 e:Option Addr
 p:Option Addr
 d:Option Addr
 command:Slc
 long:Bool
 replies:Slc
 firsts:kx
def qii.rep:Rep where
 T:=qii
 cells x:=[Ua x.c.Rows,Ua x.c.Cols,Ua x.c.CellW,Ua x.c.CellH,Ua x.c.Back,Ua x.c.Quota,.pointer x.s,.pointer x.e,.pointer x.p,.pointer x.d,.slice x.command.a x.command.n x.command.c,.bool x.long,.slice x.replies.a x.replies.n x.replies.c,Ua x.firsts.e0,Ua x.firsts.e1]
 get:=jJ [.int .i64,.int .i64,.int .i64,.int .i64,.int .i64,.int .i64,.ptr,.ptr,.ptr,.ptr,.slice,.bool,.slice,.int .i64,.int .i64] (λv0 v1 v2 v3 v4 v5 v6 v7 v8 v9 v10 v11 v12 v13 v14=>⟨⟨v0,v1,v2,v3,v4,v5⟩,v6,v7,v8,v9,v10,v11,v12,⟨v13,v14⟩⟩)
 ok:=qV λ_=>rfl
structure qo where
 Rows:Int
 Cols:Int
 CellW:Int
 CellH:Int
 Lines:Slc
 Places:Slc
 Images:Option Nat
 Top:Int
 Cursor:Bool
 Row:Int
 Col:Int
def qo.rep:Rep where
 T:=qo
 cells x:=[Ua x.Rows,Ua x.Cols,Ua x.CellW,Ua x.CellH,.slice x.Lines.a x.Lines.n x.Lines.c,.slice x.Places.a x.Places.n x.Places.c,.map x.Images,Ua x.Top,.bool x.Cursor,Ua x.Row,Ua x.Col]
 get:=jJ [.int .i64,.int .i64,.int .i64,.int .i64,.slice,.slice,.map,.int .i64,.bool,.int .i64,.int .i64] qo.mk
 ok:=qV λ_=>rfl
structure yu where
 addr:Option Addr
 buf:Slc
def yu.rep:Rep where
 T:=yu
 cells x:=[.pointer x.addr,.slice x.buf.a x.buf.n x.buf.c]
 get:=jJ [.ptr,.slice] yu.mk
 ok:=qV λ_=>rfl
structure qt where
 Fg:Int
 Bg:Int
 Flags:Int
def qt.rep:Rep where
 T:=qt
 cells x:=[Ua x.Fg,Ua x.Bg,Ua x.Flags]
 get:=jJ [.int .i64,.int .i64,.int .i64] qt.mk
 ok:=qV λ_=>rfl
structure qW where
 R:Int
 Kind:Int
 A:qt
def qW.rep:Rep where
 T:=qW
 cells x:=[.int .i32 x.R,Ua x.Kind,Ua x.A.Fg,Ua x.A.Bg,Ua x.A.Flags]
 get:=jJ [.int .i32,.int .i64,.int .i64,.int .i64,.int .i64] (λv0 v1 v2 v3 v4=>⟨v0,v1,⟨v2,v3,v4⟩⟩)
 ok:=qV λ_=>rfl
structure za where
 Kind:Int
 R:Int
 B:Int
 Private:Int
 Inter:ByteArray
 Params:Slc
 Data:Slc
def za.rep:Rep where
 T:=za
 cells x:=[Ua x.Kind,.int .i32 x.R,.int .u8 x.B,.int .u8 x.Private,.string x.Inter,.slice x.Params.a x.Params.n x.Params.c,.slice x.Data.a x.Data.n x.Data.c]
 get:=jJ [.int .i64,.int .i32,.int .u8,.int .u8,.string,.slice,.slice] za.mk
 ok:=qV λ_=>rfl
structure q6 where
 number:Int
 m:qa
 stamp:Int
 born:Int
def q6.rep:Rep where
 T:=q6
 cells x:=[Ua x.number,Ua x.m.W,Ua x.m.H,.slice x.m.P.a x.m.P.n x.m.P.c,Ua x.stamp,Ua x.born]
 get:=jJ [.int .i64,.int .i64,.int .i64,.slice,.int .i64,.int .i64] (λv0 v1 v2 v3 v4 v5=>⟨v0,⟨v1,v2,v3⟩,v4,v5⟩)
 ok:=qV λ_=>rfl
structure qf where
 Image:Int
 Id:Int
 Alt:Bool
 Line:Int
 Col:Int
 Rows:Int
 Cols:Int
 X:Int
 Y:Int
 W:Int
 H:Int
 DX:Int
 DY:Int
 Z:Int
def qf.rep:Rep where
 T:=qf
 cells x:=[Ua x.Image,Ua x.Id,.bool x.Alt,Ua x.Line,Ua x.Col,Ua x.Rows,Ua x.Cols,Ua x.X,Ua x.Y,Ua x.W,Ua x.H,Ua x.DX,Ua x.DY,Ua x.Z]
 get:=jJ [.int .i64,.int .i64,.bool,.int .i64,.int .i64,.int .i64,.int .i64,.int .i64,.int .i64,.int .i64,.int .i64,.int .i64,.int .i64,.int .i64] qf.mk
 ok:=qV λ_=>rfl
structure vZ where
 e0:Option Addr
 e1:Option Addr
def vZ.rep:Rep where
 T:=vZ
 cells x:=[.pointer x.e0,.pointer x.e1]
 get:=jJ [.ptr,.ptr] vZ.mk
 ok:=qV λ_=>rfl
structure qc2 where
 e0:Int
 e1:Int
def qc2.rep:Rep where
 T:=qc2
 cells x:=[.int .u8 x.e0,.int .u8 x.e1]
 get:=jJ [.int .u8,.int .u8] qc2.mk
 ok:=qV λ_=>rfl
structure qI where
 Row:Int
 Col:Int
 Wrap:Bool
 A:qt
 Origin:Bool
 Sets:qc2
 Shift:Int
def qI.rep:Rep where
 T:=qI
 cells x:=[Ua x.Row,Ua x.Col,.bool x.Wrap,Ua x.A.Fg,Ua x.A.Bg,Ua x.A.Flags,.bool x.Origin,.int .u8 x.Sets.e0,.int .u8 x.Sets.e1,Ua x.Shift]
 get:=jJ [.int .i64,.int .i64,.bool,.int .i64,.int .i64,.int .i64,.bool,.int .u8,.int .u8,.int .i64] (λv0 v1 v2 v3 v4 v5 v6 v7 v8 v9=>⟨v0,v1,v2,⟨v3,v4,v5⟩,v6,⟨v7,v8⟩,v9⟩)
 ok:=qV λ_=>rfl
structure vm where
 c:qI
 is:Bool
def vm.rep:Rep where
 T:=vm
 cells x:=[Ua x.c.Row,Ua x.c.Col,.bool x.c.Wrap,Ua x.c.A.Fg,Ua x.c.A.Bg,Ua x.c.A.Flags,.bool x.c.Origin,.int .u8 x.c.Sets.e0,.int .u8 x.c.Sets.e1,Ua x.c.Shift,.bool x.is]
 get:=jJ [.int .i64,.int .i64,.bool,.int .i64,.int .i64,.int .i64,.bool,.int .u8,.int .u8,.int .i64,.bool] (λv0 v1 v2 v3 v4 v5 v6 v7 v8 v9 v10=>⟨⟨v0,v1,v2,⟨v3,v4,v5⟩,v6,⟨v7,v8⟩,v9⟩,v10⟩)
 ok:=qV λ_=>rfl
structure Qk where
 e0:vm
 e1:vm
def Qk.rep:Rep where
 T:=Qk
 cells x:=[Ua x.e0.c.Row,Ua x.e0.c.Col,.bool x.e0.c.Wrap,Ua x.e0.c.A.Fg,Ua x.e0.c.A.Bg,Ua x.e0.c.A.Flags,.bool x.e0.c.Origin,.int .u8 x.e0.c.Sets.e0,.int .u8 x.e0.c.Sets.e1,Ua x.e0.c.Shift,.bool x.e0.is,Ua x.e1.c.Row,Ua x.e1.c.Col,.bool x.e1.c.Wrap,Ua x.e1.c.A.Fg,Ua x.e1.c.A.Bg,Ua x.e1.c.A.Flags,.bool x.e1.c.Origin,.int .u8 x.e1.c.Sets.e0,.int .u8 x.e1.c.Sets.e1,Ua x.e1.c.Shift,.bool x.e1.is]
 get:=jJ [.int .i64,.int .i64,.bool,.int .i64,.int .i64,.int .i64,.bool,.int .u8,.int .u8,.int .i64,.bool,.int .i64,.int .i64,.bool,.int .i64,.int .i64,.int .i64,.bool,.int .u8,.int .u8,.int .i64,.bool] (λv0 v1 v2 v3 v4 v5 v6 v7 v8 v9 v10 v11 v12 v13 v14 v15 v16 v17 v18 v19 v20 v21=>⟨⟨⟨v0,v1,v2,⟨v3,v4,v5⟩,v6,⟨v7,v8⟩,v9⟩,v10⟩,⟨⟨v11,v12,v13,⟨v14,v15,v16⟩,v17,⟨v18,v19⟩,v20⟩,v21⟩⟩)
 ok:=qV λ_=>rfl
structure qu where
 grids:vZ
 now:Int
 c:qI
 saved:Qk
 modes:Option Nat
 private_:Option Nat
 top:Int
 past:Int
 stops:Option Addr
 char:Int
 areas:Slc
def qu.ks:List Kind:=[.ptr,.ptr,.int .i64,.int .i64,.int .i64,.bool,.int .i64,.int .i64,.int .i64,.bool,.int .u8,.int .u8,.int .i64,.int .i64,.int .i64,.bool,.int .i64,.int .i64,.int .i64,.bool,.int .u8,.int .u8,.int .i64,.bool,.int .i64,.int .i64,.bool,.int .i64,.int .i64,.int .i64,.bool,.int .u8,.int .u8,.int .i64,.bool,.map,.map,.int .i64,.int .i64,.ptr,.int .i32,.slice]
def qu.rep:Rep where
 T:=qu
 cells x:=[.pointer x.grids.e0,.pointer x.grids.e1,Ua x.now,Ua x.c.Row,Ua x.c.Col,.bool x.c.Wrap,Ua x.c.A.Fg,Ua x.c.A.Bg,Ua x.c.A.Flags,.bool x.c.Origin,.int .u8 x.c.Sets.e0,.int .u8 x.c.Sets.e1,Ua x.c.Shift,Ua x.saved.e0.c.Row,Ua x.saved.e0.c.Col,.bool x.saved.e0.c.Wrap,Ua x.saved.e0.c.A.Fg,Ua x.saved.e0.c.A.Bg,Ua x.saved.e0.c.A.Flags,.bool x.saved.e0.c.Origin,.int .u8 x.saved.e0.c.Sets.e0,.int .u8 x.saved.e0.c.Sets.e1,Ua x.saved.e0.c.Shift,.bool x.saved.e0.is,Ua x.saved.e1.c.Row,Ua x.saved.e1.c.Col,.bool x.saved.e1.c.Wrap,Ua x.saved.e1.c.A.Fg,Ua x.saved.e1.c.A.Bg,Ua x.saved.e1.c.A.Flags,.bool x.saved.e1.c.Origin,.int .u8 x.saved.e1.c.Sets.e0,.int .u8 x.saved.e1.c.Sets.e1,Ua x.saved.e1.c.Shift,.bool x.saved.e1.is,.map x.modes,.map x.private_,Ua x.top,Ua x.past,.pointer x.stops,.int .i32 x.char,.slice x.areas.a x.areas.n x.areas.c]
 get:=jJ qu.ks (λv0 v1 v2 v3 v4 v5 v6 v7 v8 v9 v10 v11 v12 v13 v14 v15 v16 v17 v18 v19 v20 v21 v22 v23 v24 v25 v26 v27 v28 v29 v30 v31 v32 v33 v34 v35 v36 v37 v38 v39 v40 v41=>⟨⟨v0,v1⟩,v2,⟨v3,v4,v5,⟨v6,v7,v8⟩,v9,⟨v10,v11⟩,v12⟩,⟨⟨⟨v13,v14,v15,⟨v16,v17,v18⟩,v19,⟨v20,v21⟩,v22⟩,v23⟩,⟨⟨v24,v25,v26,⟨v27,v28,v29⟩,v30,⟨v31,v32⟩,v33⟩,v34⟩⟩,v35,v36,v37,v38,v39,v40,v41⟩)
 ok:=qV λ_=>rfl
structure qb where
 Action:Int
 Medium:Int
 Zip:Int
 What:Int
 Quiet:Int
 Format:Int
 W:Int
 H:Int
 Id:Int
 Number:Int
 Place:Int
 More:Int
 X:Int
 Y:Int
 PW:Int
 PH:Int
 DX:Int
 DY:Int
 Rows:Int
 Cols:Int
 Z:Int
 Stay:Int
def qb.rep:Rep where
 T:=qb
 cells x:=[.int .u8 x.Action,.int .u8 x.Medium,.int .u8 x.Zip,.int .u8 x.What,Ua x.Quiet,Ua x.Format,Ua x.W,Ua x.H,Ua x.Id,Ua x.Number,Ua x.Place,Ua x.More,Ua x.X,Ua x.Y,Ua x.PW,Ua x.PH,Ua x.DX,Ua x.DY,Ua x.Rows,Ua x.Cols,Ua x.Z,Ua x.Stay]
 get:=jJ [.int .u8,.int .u8,.int .u8,.int .u8,.int .i64,.int .i64,.int .i64,.int .i64,.int .i64,.int .i64,.int .i64,.int .i64,.int .i64,.int .i64,.int .i64,.int .i64,.int .i64,.int .i64,.int .i64,.int .i64,.int .i64,.int .i64] qb.mk
 ok:=qV λ_=>rfl
structure YY where
 quota:Int
 s:Option Addr
 t:Option Addr
 l:Option Addr
 first:qb
def YY.rep:Rep where
 T:=YY
 cells x:=[Ua x.quota,.pointer x.s,.pointer x.t,.pointer x.l,.int .u8 x.first.Action,.int .u8 x.first.Medium,.int .u8 x.first.Zip,.int .u8 x.first.What,Ua x.first.Quiet,Ua x.first.Format,Ua x.first.W,Ua x.first.H,Ua x.first.Id,Ua x.first.Number,Ua x.first.Place,Ua x.first.More,Ua x.first.X,Ua x.first.Y,Ua x.first.PW,Ua x.first.PH,Ua x.first.DX,Ua x.first.DY,Ua x.first.Rows,Ua x.first.Cols,Ua x.first.Z,Ua x.first.Stay]
 get:=jJ [.int .i64,.ptr,.ptr,.ptr,.int .u8,.int .u8,.int .u8,.int .u8,.int .i64,.int .i64,.int .i64,.int .i64,.int .i64,.int .i64,.int .i64,.int .i64,.int .i64,.int .i64,.int .i64,.int .i64,.int .i64,.int .i64,.int .i64,.int .i64,.int .i64,.int .i64] (λv0 v1 v2 v3 v4 v5 v6 v7 v8 v9 v10 v11 v12 v13 v14 v15 v16 v17 v18 v19 v20 v21 v22 v23 v24 v25=>⟨v0,v1,v2,v3,⟨v4,v5,v6,v7,v8,v9,v10,v11,v12,v13,v14,v15,v16,v17,v18,v19,v20,v21,v22,v23,v24,v25⟩⟩)
 ok:=qV λ_=>rfl
structure JF where
 state:Int
 ends:Bool
 chars:Option Addr
 private_:Int
 inter:Slc
 wrong:Bool
 first:Bool
 params:Slc
 some_:Bool
 last:Int
 data:Slc
 say:Value
def JF.rep:Rep where
 T:=JF
 cells x:=[Ua x.state,.bool x.ends,.pointer x.chars,.int .u8 x.private_,.slice x.inter.a x.inter.n x.inter.c,.bool x.wrong,.bool x.first,.slice x.params.a x.params.n x.params.c,.bool x.some_,Ua x.last,.slice x.data.a x.data.n x.data.c,x.say]
 get:=jJ [.int .i64,.bool,.ptr,.int .u8,.slice,.bool,.bool,.slice,.bool,.int .i64,.slice,.raw] JF.mk
 ok:=qV λ_=>rfl
structure qB where
 s:qo
def qB.rep:Rep where
 T:=qB
 cells x:=[Ua x.s.Rows,Ua x.s.Cols,Ua x.s.CellW,Ua x.s.CellH,.slice x.s.Lines.a x.s.Lines.n x.s.Lines.c,.slice x.s.Places.a x.s.Places.n x.s.Places.c,.map x.s.Images,Ua x.s.Top,.bool x.s.Cursor,Ua x.s.Row,Ua x.s.Col]
 get:=jJ [.int .i64,.int .i64,.int .i64,.int .i64,.slice,.slice,.map,.int .i64,.bool,.int .i64,.int .i64] (λv0 v1 v2 v3 v4 v5 v6 v7 v8 v9 v10=>⟨⟨v0,v1,v2,v3,v4,v5,v6,v7,v8,v9,v10⟩⟩)
 ok:=qV λ_=>rfl
structure zO where
 s:qo
 above:Bool
def zO.rep:Rep where
 T:=zO
 cells x:=[Ua x.s.Rows,Ua x.s.Cols,Ua x.s.CellW,Ua x.s.CellH,.slice x.s.Lines.a x.s.Lines.n x.s.Lines.c,.slice x.s.Places.a x.s.Places.n x.s.Places.c,.map x.s.Images,Ua x.s.Top,.bool x.s.Cursor,Ua x.s.Row,Ua x.s.Col,.bool x.above]
 get:=jJ [.int .i64,.int .i64,.int .i64,.int .i64,.slice,.slice,.map,.int .i64,.bool,.int .i64,.int .i64,.bool] (λv0 v1 v2 v3 v4 v5 v6 v7 v8 v9 v10 v11=>⟨⟨v0,v1,v2,v3,v4,v5,v6,v7,v8,v9,v10⟩,v11⟩)
 ok:=qV λ_=>rfl
structure qG where
 Alt:Bool
 Top:Int
 Rows:Int
 Cols:Int
 Row:Int
 Col:Int
def qG.rep:Rep where
 T:=qG
 cells x:=[.bool x.Alt,Ua x.Top,Ua x.Rows,Ua x.Cols,Ua x.Row,Ua x.Col]
 get:=jJ [.bool,.int .i64,.int .i64,.int .i64,.int .i64,.int .i64] qG.mk
 ok:=qV λ_=>rfl
structure qh where
 View:qG
 CellW:Int
 CellH:Int
def qh.rep:Rep where
 T:=qh
 cells x:=[.bool x.View.Alt,Ua x.View.Top,Ua x.View.Rows,Ua x.View.Cols,Ua x.View.Row,Ua x.View.Col,Ua x.CellW,Ua x.CellH]
 get:=jJ [.bool,.int .i64,.int .i64,.int .i64,.int .i64,.int .i64,.int .i64,.int .i64] (λv0 v1 v2 v3 v4 v5 v6 v7=>⟨⟨v0,v1,v2,v3,v4,v5⟩,v6,v7⟩)
 ok:=qV λ_=>rfl
structure qc where
 Reply:Slc
 Rows:Int
 Cols:Int
 Moves:Bool
def qc.rep:Rep where
 T:=qc
 cells x:=[.slice x.Reply.a x.Reply.n x.Reply.c,Ua x.Rows,Ua x.Cols,.bool x.Moves]
 get:=jJ [.slice,.int .i64,.int .i64,.bool] qc.mk
 ok:=qV λ_=>rfl
structure zX where
 Alt:Bool
 Line:Int
 Rows:Int
 From:Int
 To:Int
def zX.rep:Rep where
 T:=zX
 cells x:=[.bool x.Alt,Ua x.Line,Ua x.Rows,Ua x.From,Ua x.To]
 get:=jJ [.bool,.int .i64,.int .i64,.int .i64,.int .i64] zX.mk
 ok:=qV λ_=>rfl
structure xm where
 quota:Int
 reserved:Int
 used:Int
 clock:Int
 l:Option Nat
def xm.rep:Rep where
 T:=xm
 cells x:=[Ua x.quota,Ua x.reserved,Ua x.used,Ua x.clock,.map x.l]
 get:=jJ [.int .i64,.int .i64,.int .i64,.int .i64,.map] xm.mk
 ok:=qV λ_=>rfl
structure XV where
 l:Slc
def XV.rep:Rep where
 T:=XV
 cells x:=[.slice x.l.a x.l.n x.l.c]
 get:=jJ [.slice] XV.mk
 ok:=qV λ_=>rfl
structure kA where
 Ring:Option Addr
 rows:Int
 cols:Int
 l:Slc
 top:Int
def kA.rep:Rep where
 T:=kA
 cells x:=[.pointer x.Ring,Ua x.rows,Ua x.cols,.slice x.l.a x.l.n x.l.c,Ua x.top]
 get:=jJ [.ptr,.int .i64,.int .i64,.slice,.int .i64] kA.mk
 ok:=qV λ_=>rfl
structure Kd where
 r:Int
 left:Int
 lo:Int
 hi:Int
def Kd.rep:Rep where
 T:=Kd
 cells x:=[.int .i32 x.r,Ua x.left,.int .u8 x.lo,.int .u8 x.hi]
 get:=jJ [.int .i32,.int .i64,.int .u8,.int .u8] Kd.mk
 ok:=qV λ_=>rfl
structure qn where
 e0:Int
 e1:Int
 e2:Int
def qn.rep:Rep where
 T:=qn
 cells x:=[.int .u8 x.e0,.int .u8 x.e1,.int .u8 x.e2]
 get:=jJ [.int .u8,.int .u8,.int .u8] qn.mk
 ok:=qV λ_=>rfl
structure XX where
 e0:Int
 e1:Int
 e2:Int
def XX.rep:Rep where
 T:=XX
 cells x:=[Ua x.e0,Ua x.e1,Ua x.e2]
 get:=jJ [.int .i64,.int .i64,.int .i64] XX.mk
 ok:=qV λ_=>rfl
structure Kb where
 e0:Int
 e1:Int
 e2:Int
def Kb.rep:Rep where
 T:=Kb
 cells x:=[.int .u8 x.e0,.int .u8 x.e1,.int .u8 x.e2]
 get:=jJ [.int .u8,.int .u8,.int .u8] Kb.mk
 ok:=qV λ_=>rfl
structure zh where
 most:Int
 l:Slc
 at_:Int
 gone:Int
def zh.rep:Rep where
 T:=zh
 cells x:=[Ua x.most,.slice x.l.a x.l.n x.l.c,Ua x.at_,Ua x.gone]
 get:=jJ [.int .i64,.slice,.int .i64,.int .i64] zh.mk
 ok:=qV λ_=>rfl
structure Ym where
 cols:Int
 l:Option Nat
def Ym.rep:Rep where
 T:=Ym
 cells x:=[Ua x.cols,.map x.l]
 get:=jJ [.int .i64,.map] Ym.mk
 ok:=qV λ_=>rfl
structure qbg where
 What:Int
 Image:Int
 Place:Int
 X:Int
 Y:Int
 Z:Int
def qbg.rep:Rep where
 T:=qbg
 cells x:=[.int .u8 x.What,Ua x.Image,Ua x.Place,Ua x.X,Ua x.Y,Ua x.Z]
 get:=jJ [.int .u8,.int .i64,.int .i64,.int .i64,.int .i64,.int .i64] qbg.mk
 ok:=qV λ_=>rfl
structure qcn where
 Decoder:Option Addr
 k:qb
 most:Int
 need:Int
 pieces:Slc
 held:Int
 failed:Int
 over:Bool
def qcn.rep:Rep where
 T:=qcn
 cells x:=[.pointer x.Decoder,.int .u8 x.k.Action,.int .u8 x.k.Medium,.int .u8 x.k.Zip,.int .u8 x.k.What,Ua x.k.Quiet,Ua x.k.Format,Ua x.k.W,Ua x.k.H,Ua x.k.Id,Ua x.k.Number,Ua x.k.Place,Ua x.k.More,Ua x.k.X,Ua x.k.Y,Ua x.k.PW,Ua x.k.PH,Ua x.k.DX,Ua x.k.DY,Ua x.k.Rows,Ua x.k.Cols,Ua x.k.Z,Ua x.k.Stay,Ua x.most,Ua x.need,.slice x.pieces.a x.pieces.n x.pieces.c,Ua x.held,Ua x.failed,.bool x.over]
 get:=jJ [.ptr,.int .u8,.int .u8,.int .u8,.int .u8,.int .i64,.int .i64,.int .i64,.int .i64,.int .i64,.int .i64,.int .i64,.int .i64,.int .i64,.int .i64,.int .i64,.int .i64,.int .i64,.int .i64,.int .i64,.int .i64,.int .i64,.int .i64,.int .i64,.int .i64,.slice,.int .i64,.int .i64,.bool] (λv0 v1 v2 v3 v4 v5 v6 v7 v8 v9 v10 v11 v12 v13 v14 v15 v16 v17 v18 v19 v20 v21 v22 v23 v24 v25 v26 v27 v28=>⟨v0,⟨v1,v2,v3,v4,v5,v6,v7,v8,v9,v10,v11,v12,v13,v14,v15,v16,v17,v18,v19,v20,v21,v22⟩,v23,v24,v25,v26,v27,v28⟩)
 ok:=qV λ_=>rfl
structure zg where
 key:ByteArray
 n:Int
def zg.rep:Rep where
 T:=zg
 cells x:=[.string x.key,Ua x.n]
 get:=jJ [.string,.int .i64] zg.mk
 ok:=qV λ_=>rfl
structure vB where
 lo:Int
 hi:Int
def vB.rep:Rep where
 T:=vB
 cells x:=[.int .u8 x.lo,.int .u8 x.hi]
 get:=jJ [.int .u8,.int .u8] vB.mk
 ok:=qV λ_=>rfl
structure qqm where
 e0:XX
 e1:XX
 e2:XX
 e3:XX
 e4:XX
 e5:XX
def qqm.rep:Rep where
 T:=qqm
 cells x:=[Ua x.e0.e0,Ua x.e0.e1,Ua x.e0.e2,Ua x.e1.e0,Ua x.e1.e1,Ua x.e1.e2,Ua x.e2.e0,Ua x.e2.e1,Ua x.e2.e2,Ua x.e3.e0,Ua x.e3.e1,Ua x.e3.e2,Ua x.e4.e0,Ua x.e4.e1,Ua x.e4.e2,Ua x.e5.e0,Ua x.e5.e1,Ua x.e5.e2]
 get:=jJ [.int .i64,.int .i64,.int .i64,.int .i64,.int .i64,.int .i64,.int .i64,.int .i64,.int .i64,.int .i64,.int .i64,.int .i64,.int .i64,.int .i64,.int .i64,.int .i64,.int .i64,.int .i64] (λv0 v1 v2 v3 v4 v5 v6 v7 v8 v9 v10 v11 v12 v13 v14 v15 v16 v17=>⟨⟨v0,v1,v2⟩,⟨v3,v4,v5⟩,⟨v6,v7,v8⟩,⟨v9,v10,v11⟩,⟨v12,v13,v14⟩,⟨v15,v16,v17⟩⟩)
 ok:=qV λ_=>rfl
structure Qa where
 v:Int
 n:Int
 fill:Int
 over:Bool
 bad:Bool
def Qa.rep:Rep where
 T:=Qa
 cells x:=[.int .u32 x.v,Ua x.n,Ua x.fill,.bool x.over,.bool x.bad]
 get:=jJ [.int .u32,.int .i64,.int .i64,.bool,.bool] Qa.mk
 ok:=qV λ_=>rfl
structure xf where
 lo:Int
 hi:Int
def xf.rep:Rep where
 T:=xf
 cells x:=[.int .i32 x.lo,.int .i32 x.hi]
 get:=jJ [.int .i32,.int .i32] xf.mk
 ok:=qV λ_=>rfl
structure Y8 where
 W:Int
 H:Int
 Depth:Int
 Color:Int
 Lace:Int
def Y8.rep:Rep where
 T:=Y8
 cells x:=[Ua x.W,Ua x.H,Ua x.Depth,Ua x.Color,Ua x.Lace]
 get:=jJ [.int .i64,.int .i64,.int .i64,.int .i64,.int .i64] Y8.mk
 ok:=qV λ_=>rfl
structure ZY where
 Decoder:Option Addr
 head:Slc
 tail:Slc
 sum:Value
 over:Int
 failed:Int
def ZY.rep:Rep where
 T:=ZY
 cells x:=[.pointer x.Decoder,.slice x.head.a x.head.n x.head.c,.slice x.tail.a x.tail.n x.tail.c,x.sum,Ua x.over,Ua x.failed]
 get:=jJ [.ptr,.slice,.slice,.raw,.int .i64,.int .i64] ZY.mk
 ok:=qV λ_=>rfl
structure qbm where
 Kind:ByteArray
 Data:Slc
def qbm.rep:Rep where
 T:=qbm
 cells x:=[.string x.Kind,.slice x.Data.a x.Data.n x.Data.c]
 get:=jJ [.string,.slice] qbm.mk
 ok:=qV λ_=>rfl
structure qm4 where
 Head:Y8
 palette:Slc
 trans:Slc
 hasPalette:Bool
 hasTr:Bool
 data:Slc
 hasData:Bool
 wasData:Bool
def qm4.rep:Rep where
 T:=qm4
 cells x:=[Ua x.Head.W,Ua x.Head.H,Ua x.Head.Depth,Ua x.Head.Color,Ua x.Head.Lace,.slice x.palette.a x.palette.n x.palette.c,.slice x.trans.a x.trans.n x.trans.c,.bool x.hasPalette,.bool x.hasTr,.slice x.data.a x.data.n x.data.c,.bool x.hasData,.bool x.wasData]
 get:=jJ [.int .i64,.int .i64,.int .i64,.int .i64,.int .i64,.slice,.slice,.bool,.bool,.slice,.bool,.bool] (λv0 v1 v2 v3 v4 v5 v6 v7 v8 v9 v10 v11=>⟨⟨v0,v1,v2,v3,v4⟩,v5,v6,v7,v8,v9,v10,v11⟩)
 ok:=qV λ_=>rfl
structure yo where
 most:Int
 state:Int
 last:Bool
 wait:Slc
 skip:Int
 left:Int
 signs:Option Addr
 dists:Option Addr
 ring:Slc
 total:Int
 told:Int
 took:Int
 given:Int
 failed:Int
 out:Slc
def yo.rep:Rep where
 T:=yo
 cells x:=[Ua x.most,Ua x.state,.bool x.last,.slice x.wait.a x.wait.n x.wait.c,Ua x.skip,Ua x.left,.pointer x.signs,.pointer x.dists,.slice x.ring.a x.ring.n x.ring.c,Ua x.total,Ua x.told,Ua x.took,Ua x.given,Ua x.failed,.slice x.out.a x.out.n x.out.c]
 get:=jJ [.int .i64,.int .i64,.bool,.slice,.int .i64,.int .i64,.ptr,.ptr,.slice,.int .i64,.int .i64,.int .i64,.int .i64,.int .i64,.slice] yo.mk
 ok:=qV λ_=>rfl
structure Yc where
 a:Int
 b:Int
def Yc.rep:Rep where
 T:=Yc
 cells x:=[.int .u32 x.a,.int .u32 x.b]
 get:=jJ [.int .u32,.int .u32] Yc.mk
 ok:=qV λ_=>rfl
structure XS where
 X:Int
 Y:Int
 DX:Int
 DY:Int
def XS.rep:Rep where
 T:=XS
 cells x:=[Ua x.X,Ua x.Y,Ua x.DX,Ua x.DY]
 get:=jJ [.int .i64,.int .i64,.int .i64,.int .i64] XS.mk
 ok:=qV λ_=>rfl
structure qs where
 e0:Int
 e1:Int
 e2:Int
 e3:Int
def qs.rep:Rep where
 T:=qs
 cells x:=[.int .u8 x.e0,.int .u8 x.e1,.int .u8 x.e2,.int .u8 x.e3]
 get:=jJ [.int .u8,.int .u8,.int .u8,.int .u8] qs.mk
 ok:=qV λ_=>rfl
structure XZ where
 b:Slc
 at_:Int
def XZ.rep:Rep where
 T:=XZ
 cells x:=[.slice x.b.a x.b.n x.b.c,Ua x.at_]
 get:=jJ [.slice,.int .i64] XZ.mk
 ok:=qV λ_=>rfl
structure qoi where
 e0:Int
 e1:Int
 e2:Int
 e3:Int
 e4:Int
 e5:Int
 e6:Int
 e7:Int
 e8:Int
 e9:Int
 e10:Int
 e11:Int
 e12:Int
 e13:Int
 e14:Int
 e15:Int
 e16:Int
 e17:Int
 e18:Int
def qoi.rep:Rep where
 T:=qoi
 cells x:=[Ua x.e0,Ua x.e1,Ua x.e2,Ua x.e3,Ua x.e4,Ua x.e5,Ua x.e6,Ua x.e7,Ua x.e8,Ua x.e9,Ua x.e10,Ua x.e11,Ua x.e12,Ua x.e13,Ua x.e14,Ua x.e15,Ua x.e16,Ua x.e17,Ua x.e18]
 get:=jJ [.int .i64,.int .i64,.int .i64,.int .i64,.int .i64,.int .i64,.int .i64,.int .i64,.int .i64,.int .i64,.int .i64,.int .i64,.int .i64,.int .i64,.int .i64,.int .i64,.int .i64,.int .i64,.int .i64] qoi.mk
 ok:=qV λ_=>rfl
structure qik where
 e0:Int
 e1:Int
 e2:Int
 e3:Int
 e4:Int
 e5:Int
 e6:Int
 e7:Int
 e8:Int
 e9:Int
 e10:Int
 e11:Int
 e12:Int
 e13:Int
 e14:Int
 e15:Int
def qik.rep:Rep where
 T:=qik
 cells x:=[Ua x.e0,Ua x.e1,Ua x.e2,Ua x.e3,Ua x.e4,Ua x.e5,Ua x.e6,Ua x.e7,Ua x.e8,Ua x.e9,Ua x.e10,Ua x.e11,Ua x.e12,Ua x.e13,Ua x.e14,Ua x.e15]
 get:=jJ [.int .i64,.int .i64,.int .i64,.int .i64,.int .i64,.int .i64,.int .i64,.int .i64,.int .i64,.int .i64,.int .i64,.int .i64,.int .i64,.int .i64,.int .i64,.int .i64] qik.mk
 ok:=qV λ_=>rfl
structure qgo where
 count:qik
 sorted:Slc
 codes:Slc
 lengths:Slc
 last:Int
def qgo.rep:Rep where
 T:=qgo
 cells x:=[Ua x.count.e0,Ua x.count.e1,Ua x.count.e2,Ua x.count.e3,Ua x.count.e4,Ua x.count.e5,Ua x.count.e6,Ua x.count.e7,Ua x.count.e8,Ua x.count.e9,Ua x.count.e10,Ua x.count.e11,Ua x.count.e12,Ua x.count.e13,Ua x.count.e14,Ua x.count.e15,.slice x.sorted.a x.sorted.n x.sorted.c,.slice x.codes.a x.codes.n x.codes.c,.slice x.lengths.a x.lengths.n x.lengths.c,Ua x.last]
 get:=jJ [.int .i64,.int .i64,.int .i64,.int .i64,.int .i64,.int .i64,.int .i64,.int .i64,.int .i64,.int .i64,.int .i64,.int .i64,.int .i64,.int .i64,.int .i64,.int .i64,.slice,.slice,.slice,.int .i64] (λv0 v1 v2 v3 v4 v5 v6 v7 v8 v9 v10 v11 v12 v13 v14 v15 v16 v17 v18 v19=>⟨⟨v0,v1,v2,v3,v4,v5,v6,v7,v8,v9,v10,v11,v12,v13,v14,v15⟩,v16,v17,v18,v19⟩)
 ok:=qV λ_=>rfl
structure qf8 where
 v:Int
def qf8.rep:Rep where
 T:=qf8
 cells x:=[.int .u32 x.v]
 get:=jJ [.int .u32] qf8.mk
 ok:=qV λ_=>rfl
structure qkp where
 e0:Int
 e1:Int
 e2:Int
 e3:Int
 e4:Int
 e5:Int
def qkp.rep:Rep where
 T:=qkp
 cells x:=[.int .u8 x.e0,.int .u8 x.e1,.int .u8 x.e2,.int .u8 x.e3,.int .u8 x.e4,.int .u8 x.e5]
 get:=jJ [.int .u8,.int .u8,.int .u8,.int .u8,.int .u8,.int .u8] qkp.mk
 ok:=qV λ_=>rfl
structure qbs where
 e0:Int
 e1:Int
 e2:Int
 e3:Int
 e4:Int
 e5:Int
 e6:Int
 e7:Int
 e8:Int
 e9:Int
 e10:Int
 e11:Int
 e12:Int
 e13:Int
 e14:Int
 e15:Int
def qbs.rep:Rep where
 T:=qbs
 cells x:=[.int .u32 x.e0,.int .u32 x.e1,.int .u32 x.e2,.int .u32 x.e3,.int .u32 x.e4,.int .u32 x.e5,.int .u32 x.e6,.int .u32 x.e7,.int .u32 x.e8,.int .u32 x.e9,.int .u32 x.e10,.int .u32 x.e11,.int .u32 x.e12,.int .u32 x.e13,.int .u32 x.e14,.int .u32 x.e15]
 get:=jJ [.int .u32,.int .u32,.int .u32,.int .u32,.int .u32,.int .u32,.int .u32,.int .u32,.int .u32,.int .u32,.int .u32,.int .u32,.int .u32,.int .u32,.int .u32,.int .u32] qbs.mk
 ok:=qV λ_=>rfl
noncomputable abbrev PG:Program:=Tryz.prog
abbrev qge:TypeId:=0
abbrev q4b:TypeId:=2
abbrev zd:TypeId:=3
abbrev qs9:TypeId:=4
abbrev qN:TypeId:=5
abbrev zo:TypeId:=9
abbrev qyw:TypeId:=20
abbrev vS:TypeId:=21
abbrev qU:TypeId:=22
abbrev qg:TypeId:=28
abbrev Ql:TypeId:=32
abbrev qq:TypeId:=37
abbrev zf:TypeId:=40
abbrev qA:TypeId:=45
abbrev qcl:TypeId:=52
abbrev qR:TypeId:=58
abbrev zk:TypeId:=61
abbrev YS:TypeId:=63
abbrev q6d:TypeId:=67
abbrev qf7:TypeId:=69
abbrev qC:TypeId:=77
abbrev je:TypeId:=79
abbrev zD:TypeId:=81
abbrev jm:TypeId:=84
abbrev JU:TypeId:=91
abbrev zb:TypeId:=93
abbrev K9:TypeId:=99
abbrev ze:TypeId:=101
abbrev jF:TypeId:=104
abbrev qT:TypeId:=106
abbrev Zh:TypeId:=116
abbrev YP:TypeId:=120
abbrev qM:TypeId:=132
abbrev zH:TypeId:=134
abbrev X5:TypeId:=142
abbrev zv:TypeId:=146
abbrev zu:TypeId:=150
abbrev jD:TypeId:=160
abbrev xy:TypeId:=162
abbrev jw:TypeId:=163
abbrev ky:TypeId:=164
abbrev qlp:TypeId:=166
abbrev zP:TypeId:=168
abbrev vH:TypeId:=176
abbrev qif:TypeId:=177
abbrev yH:TypeId:=186
abbrev vF:TypeId:=193
abbrev qz:TypeId:=202
abbrev qke:TypeId:=210
abbrev YW:TypeId:=229
abbrev xN:TypeId:=233
abbrev qbk:TypeId:=241
abbrev qQ:TypeId:=287
abbrev QJ:TypeId:=290
abbrev kE:TypeId:=306
abbrev zdm:TypeId:=334
abbrev JG:TypeId:=343
abbrev ju:TypeId:=345
abbrev jj:TypeId:=365
abbrev Jn:TypeId:=399
abbrev qbw:TypeId:=410
abbrev qJ:TypeId:=473
abbrev YO:Nat:=26
abbrev qlc:Nat:=41
abbrev qpr:Nat:=44
abbrev Jp:Nat:=53
abbrev qub:Nat:=74
abbrev qhy:Nat:=93
abbrev Yj:Nat:=118
abbrev qf6:Nat:=206
abbrev vA:Nat:=253
abbrev ZF:Nat:=279
abbrev Jz:Nat:=283
abbrev Xa:Nat:=298
abbrev X0:Nat:=301
abbrev KV:Nat:=307
abbrev KQ:Nat:=374
abbrev qoe:Nat:=400
abbrev qqp:Nat:=402
abbrev qco:Nat:=519
abbrev qdh:Nat:=536
abbrev qaz:Nat:=538
abbrev zis:Nat:=2
def reg (t:TypeId):Option Rep:=match t with
 | 37=>some qa.rep
 | 52=>some qL.rep
 | 67=>some kx.rep
 | 69=>some qii.rep
 | 93=>some qo.rep
 | 101=>some yu.rep
 | 104=>some qt.rep
 | 106=>some qW.rep
 | 120=>some za.rep
 | 79=>some q6.rep
 | 45=>some qf.rep
 | 139=>some vZ.rep
 | 140=>some qc2.rep
 | 142=>some qI.rep
 | 144=>some vm.rep
 | 145=>some Qk.rep
 | 150=>some qu.rep
 | 132=>some qb.rep
 | 134=>some YY.rep
 | 116=>some JF.rep
 | 160=>some qB.rep
 | 163=>some qB.rep
 | 164=>some qB.rep
 | 162=>some zO.rep
 | 166=>some qG.rep
 | 168=>some qh.rep
 | 202=>some qc.rep
 | 210=>some zX.rep
 | 81=>some xm.rep
 | 84=>some XV.rep
 | 176=>some kA.rep
 | 229=>some Kd.rep
 | 193=>some qn.rep
 | 246=>some XX.rep
 | 194=>some Kb.rep
 | 287=>some zh.rep
 | 290=>some Ym.rep
 | 313=>some qbg.rep
 | 345=>some qcn.rep
 | 365=>some zg.rep
 | 385=>some vB.rep
 | 388=>some qqm.rep
 | 399=>some Qa.rep
 | 410=>some xf.rep
 | 441=>some Y8.rep
 | 454=>some ZY.rep
 | 464=>some qbm.rep
 | 443=>some qm4.rep
 | 480=>some yo.rep
 | 482=>some Yc.rep
 | 468=>some XS.rep
 | 473=>some qs.rep
 | 498=>some XZ.rep
 | 508=>some qoi.rep
 | 518=>some qik.rep
 | 520=>some qgo.rep
 | 523=>some qf8.rep
 | 545=>some qkp.rep
 | 555=>some qbs.rep
 | _=>none
def q6y:List Nat:=[2,3,4,5,6,7,8,9,10,11,12,13,14,15,16,17,18,19,20,21,22,23,24,25,26,27,28,29,30,31,32,33,34,35,36,37,38,39,40,41,42,43,44,45,46,47,48,49,50,51,52,53,54,55,56,57,58,59,60,61,62,63,64,65,66,67,68,69,70,71,72,73,74,75,76,77,78,79,80,81,82,83,84,85,86,87,88,89,90,91,92,93,94,95,96,97,98,99,100,101,102,103,104,105,106,107,108,109,110,111,112,113,114,115,116,117,118,119,120,121,122,123,124,125,126,127,128,129,130,131,132,133,134,135,136,137,138,139,140,141,143,144,145,146,147,148,149,150,151,152,153,154,155,156,157,158,159,160,161,162,163,164,165,166,167,168,169,170,171,172,173,174,175,176,177,178,179,180,181,182,183,184,185,186,187,188,190,191,192,193,194,195,196,197,198,199,200,201,202,203,204,205,206,207,208,209,210,211,212,213,214,215,216,217,218,219,220,221,222,223,224,225,226,227,228,229,230,231,232,233,234,235,236,237,238,239,240,241,242,243,244,245,246,247,248,249,250,251,252,253,254,255,256,257,258,259,260,261,262,263,264,265,266,267,268,269,270,271,272,273,274,275,276,277,278,279,280,281,282,283,284,285,286,287,288,289,290,291,292,293,294,296,297,298,299,300,301,302,303,304,305,306,307,308,309,310,311,312,313,314,315,316,317,318,319,320,321,322,323,324,325,326,327,328,329,330,331,332,333,334,335,336,337,338,339,340,341,342,343,344,345,346,347,348,349,350,351,352,353,354,355,356,357,358,359,361,362,363,364,365,366,367,368,369,370,371,372,373,374,375,376,377,378,379,380,381,382,383,384,385,386,387,390,391,393,394,395,396,397,398,399,400,401,402,403,404,405,406,407,408,409,410,411,412,413,414,415,416,417,418,419,420,421,422,424,425,426,427,428,429,430,431,432,433,434,435,436,437,438,439,440,441,442,443,444,445,446,447,448,449,450,451,452,453,454,455,456,457,458,459,460,461,462,463,464,465,466,467,468,469,470,471,472,473,474,475,476,477,478,479,480,481,482,483,484,485,486,487,488,489,490,491,492,493,494,495,496,515,517,518,519,520,521,522,523,524,525,526,527,528,529,530,531,532,533,534,535,536,537,538,539,540,541,542,543,552]
noncomputable def C:Cx:={ P:=Tryz.prog,reg:=reg,plain:=λn=>q6y.elem n }
theorem C.plain_ok (g:Nat) (h:C.plain g=true):vD C.P g=true:=by
 have h':g∈q6y:=by simpa [C] using h
 have:q6y.all (λg=>vD Tryz.prog g)=true:=by kernel_rfl
 exact List.all_eq_true.1 this g h'
theorem C.mixed:C.P.follows .mixedOrders=true:=by kernel_rfl
theorem fnO {f:FuncId} {fn:Func} {ks:List Kind} {a:List Value} {w:World} {K:Go.Vc.Cur ks} {sh:Prop} (n:List Ann) (hf:C.P.funcs[f]?=some fn) (h:sh)
  (hb:fn.body=some (fn.body.getD .skip):=by rfl) (e:zgo C (fn.body.getD .skip) fn.results.toList fn.ntmps n ks a w (zed ks K)=sh:=by kernel_rfl):qj C.P f a ks w K:=by
 rw [<-e] at h;exact qrx C.plain_ok C.mixed hf hb h
def Jx (n room:Int)(uses:Slc)(w:World)(K:Bool->Ub):=qj PG 3 [Ua n,Ua room,.slice uses.a uses.n uses.c] [Kind.bool] w K
def Q7 (w:World)(K:Bool->Ub):=qj PG 5 [] [Kind.bool] w K
def jV (n many:Int)(w:World)(K:Int->Ub):=qj PG 6 [Ua n,Ua many] [Kind.int .i64] w K
def kX (rows cols quota:Int)(w:World)(K:Option Addr->Ub):=qj PG 7 [Ua rows,Ua cols,Ua quota] [Kind.ptr] w K
def jq (t:Option Addr)(b:Slc)(w:World)(K:Ub):=qj PG 8 [.pointer t,.slice b.a b.n b.c] [] w K
def j8 (head:ByteArray)(b:Slc)(size:Int)(w:World)(K:Slc->Ub):=qj PG 9 [.string head,.slice b.a b.n b.c,Ua size] [Kind.slice] w K
def zE (n:Int)(w:World)(K:ByteArray->Ub):=qj PG 10 [Ua n] [Kind.string] w K
def jZ (head:ByteArray)(text:Slc)(w:World)(K:Slc->Ub):=qj PG 11 [.string head,.slice text.a text.n text.c] [Kind.slice] w K
def zC (t:Option Addr)(w:World)(K:Option Addr->Ub):=qj PG 12 [.pointer t] [Kind.ptr] w K
def yr (s:Option Addr)(w:World)(K:Slc->Ub):=qj PG 13 [.pointer s] [Kind.slice] w K
def Zz (s:Option Addr)(w:World)(K:Int->Ub):=qj PG 14 [.pointer s] [Kind.int .i64] w K
def zK (s:Option Addr)(id:Int)(w:World)(K:qa->Bool->Ub):=qj PG 15 [.pointer s,Ua id] [Kind.struct qa.rep,Kind.bool] w K
def qag (t:Option Addr)(w:World)(K:Option Addr->Ub):=qj PG 16 [.pointer t] [Kind.ptr] w K
def Jg (t:Option Addr)(w:World)(K:Slc->Ub):=qj PG 17 [.pointer t] [Kind.slice] w K
def qmj (c:qL)(w:World)(K:Option Addr->Int->Ub):=qj PG 19 [ag qL.rep c] [Kind.ptr,Kind.int .i64] w K
def Qx (t:Option Addr)(w:World)(K:Slc->Ub):=qj PG 21 [.pointer t] [Kind.slice] w K
def yi (t:Option Addr)(w:World)(K:qa->Int->Ub):=qj PG 22 [.pointer t] [Kind.struct qa.rep,Kind.int .i64] w K
def js (t:Option Addr)(w:World)(K:Slc->Ub):=qj PG 23 [.pointer t] [Kind.slice] w K
def XD (l:Slc)(w:World)(K:ByteArray->Ub):=qj PG 24 [.slice l.a l.n l.c] [Kind.string] w K
def Q3 (p:Option Addr)(b:Slc)(say:Value)(w:World)(K:Ub):=qj PG 25 [.pointer p,.slice b.a b.n b.c,say] [] w K
def JL (t:Option Addr)(e:za)(w:World)(K:Ub):=qj PG 26 [.pointer t,ag za.rep e] [] w K
def qgz (b:Slc)(w:World)(K:Slc->Ub):=qj PG 27 [.slice b.a b.n b.c] [Kind.slice] w K
def y7 (e:Option Addr)(w:World)(K:Option Addr->Ub):=qj PG 28 [.pointer e] [Kind.ptr] w K
def vb (seq:Value)(w:World)(K:Slc->Ub):=qj PG 29 [seq] [Kind.slice] w K
def zL (m:Option Nat)(w:World)(K:Value->Ub):=qj PG 30 [.map m] [Kind.raw] w K
def xw (s:Option Addr)(id:Int)(w:World)(K:qa->Bool->Ub):=qj PG 31 [.pointer s,Ua id] [Kind.struct qa.rep,Kind.bool] w K
def zN (s:Slc)(w:World)(K:Slc->Ub):=qj PG 32 [.slice s.a s.n s.c] [Kind.slice] w K
def yf (e:Option Addr)(w:World)(K:Option Addr->Ub):=qj PG 33 [.pointer e] [Kind.ptr] w K
def zI (s:Slc)(w:World)(K:Slc->Ub):=qj PG 34 [.slice s.a s.n s.c] [Kind.slice] w K
def qe4 (c:qL)(w:World)(K:Option Addr->Int->Ub):=qj PG 35 [ag qL.rep c] [Kind.ptr,Kind.int .i64] w K
def qjo (quota:Int)(w:World)(K:Option Addr->Int->Ub):=qj PG 36 [Ua quota] [Kind.ptr,Kind.int .i64] w K
def qrp (w:World)(K:Option Addr->Ub):=qj PG 37 [] [Kind.ptr] w K
def jB (s:Slc)(w:World)(K:Slc->Ub):=qj PG 38 [.slice s.a s.n s.c] [Kind.slice] w K
def qfy (s:qo)(w:World)(K:qa->Int->Ub):=qj PG 39 [ag qo.rep s] [Kind.struct qa.rep,Kind.int .i64] w K
def JA (t:Option Addr)(image:Value)(w:World)(K:qo->Ub):=qj PG 40 [.pointer t,image] [Kind.struct qo.rep] w K
def qgy (f:Value)(w:World)(K:Slc->Ub):=qj PG 42 [f] [Kind.slice] w K
def y1 (s:Option Addr)(w:World)(K:Option Addr->Ub):=qj PG 43 [.pointer s] [Kind.ptr] w K
def XL (g:Option Addr)(row:Int)(w:World)(K:Slc->Bool->Ub):=qj PG 44 [.pointer g,Ua row] [Kind.slice,Kind.bool] w K
def jA (l:Slc)(w:World)(K:Slc->Ub):=qj PG 45 [.slice l.a l.n l.c] [Kind.slice] w K
def xB (b:Option Addr)(c:Int)(w:World)(K:Value->Ub):=qj PG 46 [.pointer b,.int .u8 c] [Kind.raw] w K
def vg (b:Option Addr)(p:Slc)(w:World)(K:Int->Value->Ub):=qj PG 47 [.pointer b,.slice p.a p.n p.c] [Kind.int .i64,Kind.raw] w K
def qff (l:Slc)(w:World)(K:Slc->Ub):=qj PG 48 [.slice l.a l.n l.c] [Kind.slice] w K
def Q5 (s cutset:ByteArray)(w:World)(K:ByteArray->Ub):=qj PG 49 [.string s,.string cutset] [Kind.string] w K
def kI (b:Option Addr)(w:World)(K:ByteArray->Ub):=qj PG 50 [.pointer b] [Kind.string] w K
def Zl (p:Option Addr)(b:Slc)(w:World)(K:Int->Ub):=qj PG 51 [.pointer p,.slice b.a b.n b.c] [Kind.int .i64] w K
def Q6 (p:Option Addr)(c:Int)(w:World)(K:Ub):=qj PG 52 [.pointer p,.int .u8 c] [] w K
def qq2 (clear:Bool)(most:Int)(w:World)(K:Option Addr->Int->Ub):=qj PG 54 [.bool clear,Ua most] [Kind.ptr,Kind.int .i64] w K
def qqg (t:Option Addr)(b:Slc)(w:World)(K:Ub):=qj PG 55 [.pointer t,.slice b.a b.n b.c] [] w K
def qps (t:Option Addr)(ok:Bool)(w:World)(K:Ub):=qj PG 56 [.pointer t,.bool ok] [] w K
def Vr (t:Option Addr)(b:Slc)(w:World)(K:Ub):=qj PG 57 [.pointer t,.slice b.a b.n b.c] [] w K
def XM (t:Option Addr)(ok:Bool)(w:World)(K:Ub):=qj PG 58 [.pointer t,.bool ok] [] w K
def qjm (e:Option Addr)(w:World)(K:Ub):=qj PG 59 [.pointer e] [] w K
def Zx (s:Option Addr)(e:za)(w:World)(K:Slc->Ub):=qj PG 60 [.pointer s,ag za.rep e] [Kind.slice] w K
def zA (t:Option Addr)(w:World)(K:Ub):=qj PG 61 [.pointer t] [] w K
def QP (s:Slc)(n:Int)(w:World)(K:Value->Ub):=qj PG 62 [.slice s.a s.n s.c,Ua n] [Kind.raw] w K
def Zo (s:Option Addr)(w:World)(K:Option Addr->Ub):=qj PG 63 [.pointer s] [Kind.ptr] w K
def KD (seq:Value)(w:World)(K:Slc->Ub):=qj PG 64 [seq] [Kind.slice] w K
def Y7 (t:Option Addr)(w:World)(K:Option Addr->Ub):=qj PG 67 [.pointer t] [Kind.ptr] w K
def YC (c:qL)(w:World)(K:Int->Ub):=qj PG 68 [ag qL.rep c] [Kind.int .i64] w K
def qgw (rows cols back:Int)(w:World)(K:Option Addr->Int->Ub):=qj PG 69 [Ua rows,Ua cols,Ua back] [Kind.ptr,Kind.int .i64] w K
def yk (s:Option Addr)(w:World)(K:Ub):=qj PG 70 [.pointer s] [] w K
def qj1 (quota:Int)(w:World)(K:Option Addr->Int->Ub):=qj PG 71 [Ua quota] [Kind.ptr,Kind.int .i64] w K
def qqw (w:World)(K:Option Addr->Ub):=qj PG 72 [] [Kind.ptr] w K
def qw7 (w:World)(K:Option Addr->Ub):=qj PG 73 [] [Kind.ptr] w K
def jW (v lo hi:Int)(w:World)(K:Bool->Ub):=qj PG 75 [Ua v,Ua lo,Ua hi] [Kind.bool] w K
def qa4 (wx hx:Int)(w:World)(K:qa->Int->Ub):=qj PG 76 [Ua wx,Ua hx] [Kind.struct qa.rep,Kind.int .i64] w K
def Vn (m:qa)(l:Slc)(w:World)(K:qa->Ub):=qj PG 77 [ag qa.rep m,.slice l.a l.n l.c] [Kind.struct qa.rep] w K
def vf (t:Option Addr)(w:World)(K:qh->Ub):=qj PG 78 [.pointer t] [Kind.struct qh.rep] w K
def zi (e:Option Addr)(v:qG)(w:World)(K:Slc->Ub):=qj PG 79 [.pointer e,ag qG.rep v] [Kind.slice] w K
def XN (t:Option Addr)(n:Int)(private_:Bool)(w:World)(K:Bool->Ub):=qj PG 80 [.pointer t,Ua n,.bool private_] [Kind.bool] w K
def jb (s:Option Addr)(w:World)(K:Option Addr->Ub):=qj PG 81 [.pointer s] [Kind.ptr] w K
def X7 (g:Option Addr)(w:World)(K:Option Addr->Ub):=qj PG 82 [.pointer g] [Kind.ptr] w K
def yE (g:Option Addr)(row:Int)(w:World)(K:Bool->Ub):=qj PG 83 [.pointer g,Ua row] [Kind.bool] w K
def zW (s:Slc)(w:World)(K:Slc->Ub):=qj PG 84 [.slice s.a s.n s.c] [Kind.slice] w K
def vo (l:Slc)(col:Int)(w:World)(K:Bool->Ub):=qj PG 85 [.slice l.a l.n l.c,Ua col] [Kind.bool] w K
def jH (b:Option Addr)(w:World)(K:Ub):=qj PG 86 [.pointer b] [] w K
def qj5 (r:Int)(w:World)(K:Bool->Ub):=qj PG 87 [.int .i32 r] [Kind.bool] w K
def vk (s:ByteArray)(c:Int)(w:World)(K:ByteArray->Ub):=qj PG 88 [.string s,.int .u8 c] [Kind.string] w K
def vU (s:Slc)(f:Value)(w:World)(K:Int->Ub):=qj PG 92 [.slice s.a s.n s.c,f] [Kind.int .i64] w K
def KX (c:Int)(w:World)(K:Bool->Ub):=qj PG 93 [.int .u8 c] [Kind.bool] w K
def xe (p:Option Addr)(l:Slc)(w:World)(K:Ub):=qj PG 94 [.pointer p,.slice l.a l.n l.c] [] w K
def yN (p:Option Addr)(c:Int)(w:World)(K:Ub):=qj PG 95 [.pointer p,.int .u8 c] [] w K
def yX (p:Option Addr)(c:Int)(w:World)(K:Ub):=qj PG 96 [.pointer p,.int .u8 c] [] w K
def jk (p:Option Addr)(l:Slc)(w:World)(K:Ub):=qj PG 97 [.pointer p,.slice l.a l.n l.c] [] w K
def kC (d:Option Addr)(w:World)(K:Slc->Ub):=qj PG 98 [.pointer d] [Kind.slice] w K
def xn (p:Option Addr)(b:Int)(w:World)(K:Ub):=qj PG 99 [.pointer p,.int .u8 b] [] w K
def jC (p:Option Addr)(state:Int)(w:World)(K:Ub):=qj PG 100 [.pointer p,Ua state] [] w K
def vw (e:Option Addr)(n:Int)(w:World)(K:Int->Ub):=qj PG 104 [.pointer e,Ua n] [Kind.int .i64] w K
def j9 (s:Option Addr)(rows cols:Int)(w:World)(K:Ub):=qj PG 108 [.pointer s,Ua rows,Ua cols] [] w K
def xx (e:Option Addr)(command:Slc)(v:qh)(w:World)(K:qc->Ub):=qj PG 109 [.pointer e,.slice command.a command.n command.c,ag qh.rep v] [Kind.struct qc.rep] w K
def yh (s:Option Addr)(r:Int)(w:World)(K:Ub):=qj PG 110 [.pointer s,.int .i32 r] [] w K
def qea (s:Option Addr)(c:Int)(w:World)(K:Ub):=qj PG 111 [.pointer s,.int .u8 c] [] w K
def qfz (s:Option Addr)(inter:ByteArray)(c:Int)(w:World)(K:Ub):=qj PG 112 [.pointer s,.string inter,.int .u8 c] [] w K
def kG (s:Option Addr)(e:za)(w:World)(K:Slc->Ub):=qj PG 113 [.pointer s,ag za.rep e] [Kind.slice] w K
def vO (s:Option Addr)(w:World)(K:Slc->Ub):=qj PG 114 [.pointer s] [Kind.slice] w K
def qj3 (e:Option Addr)(alt:Bool)(line rows from_ to:Int)(w:World)(K:Ub):=qj PG 115 [.pointer e,.bool alt,Ua line,Ua rows,Ua from_,Ua to] [] w K
def vx (s:Option Addr)(w:World)(K:Int->Int->Ub):=qj PG 116 [.pointer s] [Kind.int .i64,Kind.int .i64] w K
def k9 (e:Option Addr)(alt:Bool)(first:Int)(w:World)(K:Ub):=qj PG 117 [.pointer e,.bool alt,Ua first] [] w K
def zF (m:Option Nat)(w:World)(K:Option Nat->Ub):=qj PG 119 [.map m] [Kind.map] w K
def zY (v lo hi:Int)(w:World)(K:Bool->Ub):=qj PG 123 [Ua v,Ua lo,Ua hi] [Kind.bool] w K
def qb1 (n:Int)(w:World)(K:Bool->Ub):=qj PG 124 [Ua n] [Kind.bool] w K
def yZ (most:Int)(w:World)(K:Option Addr->Int->Ub):=qj PG 125 [Ua most] [Kind.ptr,Kind.int .i64] w K
def Jr (g:Option Addr)(a:qt)(w:World)(K:Ub):=qj PG 126 [.pointer g,ag qt.rep a] [] w K
def jd (s:Option Addr)(w:World)(K:Int->Int->Ub):=qj PG 127 [.pointer s] [Kind.int .i64,Kind.int .i64] w K
def qmk (cols:Int)(w:World)(K:Option Addr->Int->Ub):=qj PG 128 [Ua cols] [Kind.ptr,Kind.int .i64] w K
def qak (w:World)(K:qI->Ub):=qj PG 129 [] [Kind.struct qI.rep] w K
def JV (s:Option Addr)(w:World)(K:Ub):=qj PG 130 [.pointer s] [] w K
def ZP (wx hx:Int)(w:World)(K:Bool->Ub):=qj PG 131 [Ua wx,Ua hx] [Kind.bool] w K
def kJ (l:Value)(w:World)(K:ByteArray->Ub):=qj PG 132 [l] [Kind.string] w K
def y6 (s:Option Addr)(w:World)(K:Int->Int->Ub):=qj PG 133 [.pointer s] [Kind.int .i64,Kind.int .i64] w K
def vK (s:Option Addr)(w:World)(K:qI->Ub):=qj PG 134 [.pointer s] [Kind.struct qI.rep] w K
def kZ (s:Option Addr)(w:World)(K:Bool->Ub):=qj PG 135 [.pointer s] [Kind.bool] w K
def Q0 (s:Option Addr)(w:World)(K:Int->Ub):=qj PG 136 [.pointer s] [Kind.int .i64] w K
def VM (t:Option Addr)(v:qG)(w:World)(K:Slc->Ub):=qj PG 137 [.pointer t,ag qG.rep v] [Kind.slice] w K
def yO (s:Option Addr)(n:Int)(private_:Bool)(w:World)(K:Bool->Bool->Ub):=qj PG 138 [.pointer s,Ua n,.bool private_] [Kind.bool,Kind.bool] w K
def yM (r:Option Addr)(w:World)(K:Option Addr->Ub):=qj PG 139 [.pointer r] [Kind.ptr] w K
def zT (s:Slc)(w:World)(K:Slc->Ub):=qj PG 140 [.slice s.a s.n s.c] [Kind.slice] w K
def ZX (l:Slc)(col kind:Int)(w:World)(K:Bool->Ub):=qj PG 141 [.slice l.a l.n l.c,Ua col,Ua kind] [Kind.bool] w K
def kY (p:Option Addr)(w:World)(K:Ub):=qj PG 146 [.pointer p] [] w K
def xu (p:Option Addr)(c:Int)(w:World)(K:Ub):=qj PG 147 [.pointer p,.int .u8 c] [] w K
def vn (p:Option Addr)(c:Int)(w:World)(K:Ub):=qj PG 148 [.pointer p,.int .u8 c] [] w K
def kh (p:Option Addr)(c:Int)(w:World)(K:Ub):=qj PG 149 [.pointer p,.int .u8 c] [] w K
def yj (p:Option Addr)(c:Int)(w:World)(K:Ub):=qj PG 150 [.pointer p,.int .u8 c] [] w K
def VR (d:Option Addr)(w:World)(K:Bool->Ub):=qj PG 151 [.pointer d] [Kind.bool] w K
def ye (s:Option Addr)(n:Int)(w:World)(K:Slc->Int->Ub):=qj PG 154 [.pointer s,Ua n] [Kind.slice,Kind.int .i64] w K
def Qw (e:Option Addr)(w:World)(K:Int->Ub):=qj PG 155 [.pointer e] [Kind.int .i64] w K
def kU (e:Option Addr)(ids:Slc)(w:World)(K:Ub):=qj PG 156 [.pointer e,.slice ids.a ids.n ids.c] [] w K
def ZZ (s:Option Addr)(id number:Int)(m:qa)(w:World)(K:Int->Slc->Int->Ub):=qj PG 158 [.pointer s,Ua id,Ua number,ag qa.rep m] [Kind.int .i64,Kind.slice,Kind.int .i64] w K
def k6 (e:Option Addr)(k:qb)(id:Int)(v:qh)(w:World)(K:qc->Bool->Ub):=qj PG 159 [.pointer e,ag qb.rep k,Ua id,ag qh.rep v] [Kind.struct qc.rep,Kind.bool] w K
def qgi (w:World)(K:qb->Ub):=qj PG 160 [] [Kind.struct qb.rep] w K
def xc (s:Option Addr)(w:World)(K:Ub):=qj PG 161 [.pointer s] [] w K
def xk (s:Option Addr)(row col:Int)(w:World)(K:Ub):=qj PG 162 [.pointer s,Ua row,Ua col] [] w K
def qe8 (b:Slc)(w:World)(K:Slc->Slc->Ub):=qj PG 163 [.slice b.a b.n b.c] [Kind.slice,Kind.slice] w K
def qeu (b:Slc)(w:World)(K:qb->Int->Ub):=qj PG 164 [.slice b.a b.n b.c] [Kind.struct qb.rep,Kind.int .i64] w K
def kV (e:Option Addr)(k:qb)(text:Slc)(v:qh)(w:World)(K:qc->Ub):=qj PG 165 [.pointer e,ag qb.rep k,.slice text.a text.n text.c,ag qh.rep v] [Kind.struct qc.rep] w K
def x7 (e:Option Addr)(w:World)(K:Ub):=qj PG 166 [.pointer e] [] w K
def y2 (e:Option Addr)(k:qb)(text:Slc)(v:qh)(w:World)(K:qc->Ub):=qj PG 167 [.pointer e,ag qb.rep k,.slice text.a text.n text.c,ag qh.rep v] [Kind.struct qc.rep] w K
def Q1 (e:Option Addr)(k:qb)(v:qh)(w:World)(K:qc->Ub):=qj PG 168 [.pointer e,ag qb.rep k,ag qh.rep v] [Kind.struct qc.rep] w K
def qh3 (e:Option Addr)(k:qb)(v:qh)(w:World)(K:Ub):=qj PG 169 [.pointer e,ag qb.rep k,ag qh.rep v] [] w K
def zy (e:Option Addr)(k:qb)(x:Int)(word:ByteArray)(w:World)(K:qc->Ub):=qj PG 170 [.pointer e,ag qb.rep k,Ua x,.string word] [Kind.struct qc.rep] w K
def qca (set b:Int)(w:World)(K:Int->Ub):=qj PG 171 [.int .u8 set,.int .u8 b] [Kind.int .i32] w K
def kW (s:Option Addr)(r:Int)(w:World)(K:Ub):=qj PG 172 [.pointer s,.int .i32 r] [] w K
def yL (p:Slc)(i none_:Int)(w:World)(K:Int->Ub):=qj PG 176 [.slice p.a p.n p.c,Ua i,Ua none_] [Kind.int .i64] w K
def qiy (s:Option Addr)(w:World)(K:Ub):=qj PG 177 [.pointer s] [] w K
def qja (s:Option Addr)(n:Int)(on:Bool)(w:World)(K:Ub):=qj PG 178 [.pointer s,Ua n,.bool on] [] w K
def xp (s:ByteArray)(w:World)(K:Slc->Ub):=qj PG 179 [.string s] [Kind.slice] w K
def kg (s:Option Addr)(w:World)(K:ByteArray->Ub):=qj PG 180 [.pointer s] [Kind.string] w K
def vl (i:Int)(w:World)(K:ByteArray->Ub):=qj PG 181 [Ua i] [Kind.string] w K
def qia (s:Option Addr)(n:Int)(w:World)(K:Int->Ub):=qj PG 182 [.pointer s,Ua n] [Kind.int .i64] w K
def yD (s:Option Addr)(p:Slc)(c:Int)(w:World)(K:Slc->Ub):=qj PG 183 [.pointer s,.slice p.a p.n p.c,.int .u8 c] [Kind.slice] w K
def yJ (e:Option Addr)(l:Slc)(w:World)(K:Ub):=qj PG 184 [.pointer e,.slice l.a l.n l.c] [] w K
def Jw (g:Option Addr)(w:World)(K:Int->Ub):=qj PG 186 [.pointer g] [Kind.int .i64] w K
def Zg (g:Option Addr)(w:World)(K:Int->Ub):=qj PG 187 [.pointer g] [Kind.int .i64] w K
def Q4 (t:Option Addr)(alt:Bool)(first:Int)(w:World)(K:Slc->Ub):=qj PG 188 [.pointer t,.bool alt,Ua first] [Kind.slice] w K
def xR (g:Option Addr)(n:Int)(a:qt)(w:World)(K:Slc->Ub):=qj PG 201 [.pointer g,Ua n,ag qt.rep a] [Kind.slice] w K
def XH (g:Option Addr)(w:World)(K:Int->Int->Ub):=qj PG 202 [.pointer g] [Kind.int .i64,Kind.int .i64] w K
def Qz (s:Option Addr)(cols:Int)(w:World)(K:Int->Ub):=qj PG 203 [.pointer s,Ua cols] [Kind.int .i64] w K
def qk9 (p:qf)(line rows from_ past:Int)(w:World)(K:Bool->Ub):=qj PG 204 [ag qf.rep p,Ua line,Ua rows,Ua from_,Ua past] [Kind.bool] w K
def zJ (x:Slc)(cmp:Value)(w:World)(K:Ub):=qj PG 205 [.slice x.a x.n x.c,cmp] [] w K
def xr (c:Int)(w:World)(K:Bool->Ub):=qj PG 210 [.int .u8 c] [Kind.bool] w K
def Vy (p:Option Addr)(c:Int)(w:World)(K:Ub):=qj PG 211 [.pointer p,.int .u8 c] [] w K
def kT (p:Option Addr)(c:Int)(w:World)(K:Ub):=qj PG 212 [.pointer p,.int .u8 c] [] w K
def yB (p:Option Addr)(c:Int)(w:World)(K:Bool->Ub):=qj PG 213 [.pointer p,.int .u8 c] [Kind.bool] w K
def JJ (d:Option Addr)(b:Int)(w:World)(K:Slc->Ub):=qj PG 214 [.pointer d,.int .u8 b] [Kind.slice] w K
def vd (p:Option Addr)(w:World)(K:Ub):=qj PG 215 [.pointer p] [] w K
def yG (p:Option Addr)(c:Int)(w:World)(K:Ub):=qj PG 216 [.pointer p,.int .u8 c] [] w K
def vP (s:Option Addr)(n:Int)(w:World)(K:Slc->Ub):=qj PG 219 [.pointer s,Ua n] [Kind.slice] w K
def Zt (l:Option Addr)(w:World)(K:Int->Ub):=qj PG 220 [.pointer l] [Kind.int .i64] w K
def Zq (t:Option Addr)(image:Int)(w:World)(K:Int->Ub):=qj PG 221 [.pointer t,Ua image] [Kind.int .i64] w K
def qc1 (m:qa)(w:World)(K:Bool->Ub):=qj PG 225 [ag qa.rep m] [Kind.bool] w K
def Qd (n:Int)(w:World)(K:Bool->Ub):=qj PG 226 [Ua n] [Kind.bool] w K
def kf (s:Option Addr)(w:World)(K:Ub):=qj PG 227 [.pointer s] [] w K
def xY (s:Option Addr)(id:Int)(w:World)(K:Bool->Ub):=qj PG 228 [.pointer s,Ua id] [Kind.bool] w K
def XC (s:Option Addr)(id:Int)(w:World)(K:Bool->Ub):=qj PG 229 [.pointer s,Ua id] [Kind.bool] w K
def yW (e:Option Addr)(k:qb)(id:Int)(v:qh)(w:World)(K:qf->Int->Ub):=qj PG 230 [.pointer e,ag qb.rep k,Ua id,ag qh.rep v] [Kind.struct qf.rep,Kind.int .i64] w K
def JD (t:Option Addr)(p:qf)(w:World)(K:Int->Ub):=qj PG 231 [.pointer t,ag qf.rep p] [Kind.int .i64] w K
def xg (g:Option Addr)(top past n:Int)(a:qt)(w:World)(K:Int->Ub):=qj PG 232 [.pointer g,Ua top,Ua past,Ua n,ag qt.rep a] [Kind.int .i64] w K
def xb (s:Option Addr)(w:World)(K:qt->Ub):=qj PG 233 [.pointer s] [Kind.struct qt.rep] w K
def Yb (v lo hi:Int)(w:World)(K:Int->Ub):=qj PG 234 [Ua v,Ua lo,Ua hi] [Kind.int .i64] w K
def qkg (s sep:Slc)(w:World)(K:Slc->Slc->Bool->Ub):=qj PG 235 [.slice s.a s.n s.c,.slice sep.a sep.n sep.c] [Kind.slice,Kind.slice,Kind.bool] w K
def QI (b:Slc)(w:World)(K:Slc->Ub):=qj PG 236 [.slice b.a b.n b.c] [Kind.slice] w K
def Vk (s sep:ByteArray)(w:World)(K:Slc->Ub):=qj PG 237 [.string s,.string sep] [Kind.slice] w K
def Vt (k:Option Addr)(s:ByteArray)(w:World)(K:Bool->Ub):=qj PG 238 [.pointer k,.string s] [Kind.bool] w K
def J9 (l:Option Addr)(text:Slc)(w:World)(K:Int->Ub):=qj PG 239 [.pointer l,.slice text.a text.n text.c] [Kind.int .i64] w K
def Zk (e:Option Addr)(k:qb)(v:qh)(w:World)(K:qc->Ub):=qj PG 240 [.pointer e,ag qb.rep k,ag qh.rep v] [Kind.struct qc.rep] w K
def qnn (k:qb)(room:Int)(w:World)(K:Option Addr->Int->Ub):=qj PG 241 [ag qb.rep k,Ua room] [Kind.ptr,Kind.int .i64] w K
def yU (e:Option Addr)(k:qb)(w:World)(K:Int->Bool->Ub):=qj PG 242 [.pointer e,ag qb.rep k] [Kind.int .i64,Kind.bool] w K
def Jc (s:Option Addr)(id:Int)(w:World)(K:Bool->Ub):=qj PG 243 [.pointer s,Ua id] [Kind.bool] w K
def y9 (s:Option Addr)(n:Int)(w:World)(K:Int->Bool->Ub):=qj PG 244 [.pointer s,Ua n] [Kind.int .i64,Kind.bool] w K
def yx (e:Option Addr)(ids:Slc)(goes:Value)(w:World)(K:Ub):=qj PG 246 [.pointer e,.slice ids.a ids.n ids.c,goes] [] w K
def qr0 (e:Int)(w:World)(K:ByteArray->Ub):=qj PG 248 [Ua e] [Kind.string] w K
def qfl (k:qb)(word:ByteArray)(w:World)(K:Slc->Ub):=qj PG 249 [ag qb.rep k,.string word] [Kind.slice] w K
def qrj (w:World)(K:Slc->Ub):=qj PG 250 [] [Kind.slice] w K
def qip (r:Int)(w:World)(K:Int->Ub):=qj PG 251 [.int .i32 r] [Kind.int .i64] w K
def Zp (g:Option Addr)(row:Int)(f:Value)(w:World)(K:Bool->Ub):=qj PG 252 [.pointer g,Ua row,f] [Kind.bool] w K
def Xd (l:Slc)(c0 c1 c2:Addr)(w:World)(K:Slc->Ub):=qj PG 253 [.slice l.a l.n l.c,.pointer (some c0),.pointer (some c1),.pointer (some c2)] [Kind.slice] w K
def Zs (l:Slc)(col n:Int)(a:qt)(w:World)(K:Slc->Ub):=qj PG 254 [.slice l.a l.n l.c,Ua col,Ua n,ag qt.rep a] [Kind.slice] w K
def Vo (l:Slc)(col r width:Int)(a:qt)(w:World)(K:Slc->Bool->Ub):=qj PG 255 [.slice l.a l.n l.c,Ua col,.int .i32 r,Ua width,ag qt.rep a] [Kind.slice,Kind.bool] w K
def XO (s:Option Addr)(w:World)(K:Slc->Ub):=qj PG 258 [.pointer s] [Kind.slice] w K
def qmi (cols:Int)(a:qt)(w:World)(K:Slc->Ub):=qj PG 259 [Ua cols,ag qt.rep a] [Kind.slice] w K
def qjz (s:Option Addr)(w:World)(K:Ub):=qj PG 263 [.pointer s] [] w K
def qdx (s:Option Addr)(w:World)(K:Ub):=qj PG 264 [.pointer s] [] w K
def qyo (a:qt)(params:Slc)(w:World)(K:qt->Ub):=qj PG 269 [ag qt.rep a,.slice params.a params.n params.c] [Kind.struct qt.rep] w K
def qer (s:Option Addr)(p:Slc)(w:World)(K:Ub):=qj PG 270 [.pointer s,.slice p.a p.n p.c] [] w K
def qnj (s:Option Addr)(col:Int)(w:World)(K:Bool->Ub):=qj PG 271 [.pointer s,Ua col] [Kind.bool] w K
def qnw (s:Option Addr)(w:World)(K:Ub):=qj PG 272 [.pointer s] [] w K
def qho (s:Option Addr)(n:Int)(w:World)(K:Ub):=qj PG 273 [.pointer s,Ua n] [] w K
def qc7 (s:Option Addr)(how:Int)(w:World)(K:Ub):=qj PG 274 [.pointer s,Ua how] [] w K
def qgp (s:Option Addr)(how:Int)(w:World)(K:Ub):=qj PG 275 [.pointer s,Ua how] [] w K
def yl (s:Option Addr)(c n:Int)(w:World)(K:Ub):=qj PG 276 [.pointer s,.int .u8 c,Ua n] [] w K
def JR (s:Option Addr)(c n:Int)(w:World)(K:Ub):=qj PG 277 [.pointer s,.int .u8 c,Ua n] [] w K
def qih (s:Option Addr)(p:Slc)(c n:Int)(w:World)(K:Ub):=qj PG 278 [.pointer s,.slice p.a p.n p.c,.int .u8 c,Ua n] [] w K
def Jt (id:Int)(w:World)(K:Bool->Ub):=qj PG 279 [Ua id] [Kind.bool] w K
def ke (t:Option Addr)(goes:Value)(w:World)(K:Slc->Ub):=qj PG 280 [.pointer t,goes] [Kind.slice] w K
def XA (g:Option Addr)(w:World)(K:Int->Ub):=qj PG 282 [.pointer g] [Kind.int .i64] w K
def X1 (p:qf)(c0 c1:Addr)(w:World)(K:Bool->Ub):=qj PG 283 [ag qf.rep p,.pointer (some c0),.pointer (some c1)] [Kind.bool] w K
def xV (data:Slc)(n:Int)(cmp:Value)(w:World)(K:Ub):=qj PG 290 [.slice data.a data.n data.c,Ua n,cmp] [] w K
def x9 (s:ByteArray)(c:Int)(w:World)(K:Int->Ub):=qj PG 292 [.string s,.int .u8 c] [Kind.int .i64] w K
def Yt (n:Int)(w:World)(K:Int->Ub):=qj PG 294 [Ua n] [Kind.int .i64] w K
def Q9 (d:Option Addr)(b:Int)(w:World)(K:Slc->Ub):=qj PG 296 [.pointer d,.int .u8 b] [Kind.slice] w K
def xD (s:Slc)(w:World)(K:Slc->Ub):=qj PG 297 [.slice s.a s.n s.c] [Kind.slice] w K
def yR (a b:Int)(c0:Addr)(w:World)(K:Int->Ub):=qj PG 298 [Ua a,Ua b,.pointer (some c0)] [Kind.int .i64] w K
def va (x y:Int)(w:World)(K:Int->Ub):=qj PG 299 [Ua x,Ua y] [Kind.int .i64] w K
def kL (x:Slc)(cmp:Value)(w:World)(K:Int->Ub):=qj PG 300 [.slice x.a x.n x.c,cmp] [Kind.int .i64] w K
def K3 (p:qf)(c0:Addr)(w:World)(K:Bool->Ub):=qj PG 301 [ag qf.rep p,.pointer (some c0)] [Kind.bool] w K
def Yd (at_ n side:Int)(w:World)(K:Int->Ub):=qj PG 303 [Ua at_,Ua n,Ua side] [Kind.int .i64] w K
def qci (wx hx dx dy cw ch:Int)(w:World)(K:Int->Int->Ub):=qj PG 304 [Ua wx,Ua hx,Ua dx,Ua dy,Ua cw,Ua ch] [Kind.int .i64,Kind.int .i64] w K
def jz (v lo hi:Int)(w:World)(K:Bool->Ub):=qj PG 305 [Ua v,Ua lo,Ua hi] [Kind.bool] w K
def qj9 (p:qf)(w:World)(K:Bool->Ub):=qj PG 306 [ag qf.rep p] [Kind.bool] w K
def Vz (o:qf)(c0:Addr)(w:World)(K:Bool->Ub):=qj PG 307 [ag qf.rep o,.pointer (some c0)] [Kind.bool] w K
def zz (slices:Slc)(w:World)(K:Slc->Ub):=qj PG 308 [.slice slices.a slices.n slices.c] [Kind.slice] w K
def jQ (r:Option Addr)(t:Slc)(w:World)(K:Slc->Bool->Ub):=qj PG 309 [.pointer r,.slice t.a t.n t.c] [Kind.slice,Kind.bool] w K
def qcb (s sep:Slc)(w:World)(K:Int->Ub):=qj PG 310 [.slice s.a s.n s.c,.slice sep.a sep.n sep.c] [Kind.int .i64] w K
def YI (s sep:ByteArray)(sepSave n:Int)(w:World)(K:Slc->Ub):=qj PG 311 [.string s,.string sep,Ua sepSave,Ua n] [Kind.slice] w K
def qfd (s:ByteArray)(w:World)(K:Int->Bool->Ub):=qj PG 312 [.string s] [Kind.int .i64,Kind.bool] w K
def Qb (k:Option Addr)(c:Int)(w:World)(K:Option Addr->Ub):=qj PG 313 [.pointer k,.int .u8 c] [Kind.ptr] w K
def qal (c:Int)(w:World)(K:Bool->Ub):=qj PG 314 [.int .u8 c] [Kind.bool] w K
def vJ (k:Option Addr)(c:Int)(w:World)(K:Option Addr->Ub):=qj PG 315 [.pointer k,.int .u8 c] [Kind.ptr] w K
def qbf (s:ByteArray)(w:World)(K:Int->Bool->Ub):=qj PG 316 [.string s] [Kind.int .i64,Kind.bool] w K
def yz (d:Option Addr)(c:Int)(w:World)(K:Slc->Int->Ub):=qj PG 317 [.pointer d,.int .u8 c] [Kind.slice,Kind.int .i64] w K
def xW (l:Option Addr)(b:Slc)(w:World)(K:Int->Ub):=qj PG 318 [.pointer l,.slice b.a b.n b.c] [Kind.int .i64] w K
def jg (l:Option Addr)(e:Int)(w:World)(K:Ub):=qj PG 319 [.pointer l,Ua e] [] w K
def ZN (l:Option Addr)(w:World)(K:qa->Int->Ub):=qj PG 320 [.pointer l] [Kind.struct qa.rep,Kind.int .i64] w K
def QD (e:Option Addr)(k:qb)(m:qa)(v:qh)(w:World)(K:qc->Ub):=qj PG 321 [.pointer e,ag qb.rep k,ag qa.rep m,ag qh.rep v] [Kind.struct qc.rep] w K
def qgj (k:qb)(w:World)(K:Int->Int->Ub):=qj PG 322 [ag qb.rep k] [Kind.int .i64,Kind.int .i64] w K
def Vv (w:World)(K:Option Addr->Ub):=qj PG 323 [] [Kind.ptr] w K
def ZW (t:Option Addr)(image:Int)(w:World)(K:Bool->Ub):=qj PG 326 [.pointer t,Ua image] [Kind.bool] w K
def qjq (elems:Slc)(sep:ByteArray)(w:World)(K:ByteArray->Ub):=qj PG 327 [.slice elems.a elems.n elems.c,.string sep] [Kind.string] w K
def qox (r:Int)(l:Slc)(w:World)(K:Bool->Ub):=qj PG 328 [.int .i32 r,.slice l.a l.n l.c] [Kind.bool] w K
def qmw (w:World)(K:Slc->Ub):=qj PG 329 [] [Kind.slice] w K
def qm3 (w:World)(K:Slc->Ub):=qj PG 330 [] [Kind.slice] w K
def Zr (l:Slc)(cols:Int)(w:World)(K:Slc->Ub):=qj PG 331 [.slice l.a l.n l.c,Ua cols] [Kind.slice] w K
def XI (l:Slc)(col n:Int)(w:World)(K:Int->Ub):=qj PG 332 [.slice l.a l.n l.c,Ua col,Ua n] [Kind.int .i64] w K
def zS (slices:Slc)(w:World)(K:Slc->Ub):=qj PG 333 [.slice slices.a slices.n slices.c] [Kind.slice] w K
def QN (n:Int)(a:qt)(w:World)(K:Slc->Ub):=qj PG 334 [Ua n,ag qt.rep a] [Kind.slice] w K
def Zu (l:Slc)(from_ to:Int)(w:World)(K:Slc->Ub):=qj PG 335 [.slice l.a l.n l.c,Ua from_,Ua to] [Kind.slice] w K
def km (m:Option Nat)(w:World)(K:Value->Ub):=qj PG 336 [.map m] [Kind.raw] w K
def kq (r:Option Addr)(w:World)(K:Int->Ub):=qj PG 348 [.pointer r] [Kind.int .i64] w K
def zU (data:Slc)(a b:Int)(cmp:Value)(w:World)(K:Ub):=qj PG 350 [.slice data.a data.n data.c,Ua a,Ua b,cmp] [] w K
def x6 (data:Slc)(a m b:Int)(cmp:Value)(w:World)(K:Ub):=qj PG 351 [.slice data.a data.n data.c,Ua a,Ua m,Ua b,cmp] [] w K
def JI (x:Int)(w:World)(K:Bool->Ub):=qj PG 353 [Ua x] [Kind.bool] w K
def XT (n more size:Int)(w:World)(K:Int->Ub):=qj PG 354 [Ua n,Ua more,Ua size] [Kind.int .i64] w K
def zV (v lo hi:Int)(w:World)(K:Bool->Ub):=qj PG 355 [Ua v,Ua lo,Ua hi] [Kind.bool] w K
def jI (s:Slc)(n:Int)(w:World)(K:Slc->Ub):=qj PG 356 [.slice s.a s.n s.c,Ua n] [Kind.slice] w K
def xU (r:Option Addr)(w:World)(K:Ub):=qj PG 357 [.pointer r] [] w K
def Jf (b:Slc)(c:Int)(w:World)(K:Int->Ub):=qj PG 358 [.slice b.a b.n b.c,.int .u8 c] [Kind.int .i64] w K
def qb9 (a b:Slc)(w:World)(K:Bool->Ub):=qj PG 359 [.slice a.a a.n a.c,.slice b.a b.n b.c] [Kind.bool] w K
def yP (s sep:Slc)(w:World)(K:Int->Ub):=qj PG 361 [.slice s.a s.n s.c,.slice sep.a sep.n sep.c] [Kind.int .i64] w K
def qn0 (s:ByteArray)(n:Int)(w:World)(K:Slc->Ub):=qj PG 362 [.string s,Ua n] [Kind.slice] w K
def qg7 (s substr:ByteArray)(w:World)(K:Int->Ub):=qj PG 363 [.string s,.string substr] [Kind.int .i64] w K
def qhc (s substr:ByteArray)(w:World)(K:Int->Ub):=qj PG 364 [.string s,.string substr] [Kind.int .i64] w K
def QB (s prefix_:ByteArray)(w:World)(K:ByteArray->Bool->Ub):=qj PG 365 [.string s,.string prefix_] [Kind.string,Kind.bool] w K
def yS (d:Option Addr)(c:Int)(w:World)(K:Slc->Bool->Ub):=qj PG 366 [.pointer d,.int .u8 c] [Kind.slice,Kind.bool] w K
def Z1 (l:Option Addr)(w:World)(K:Ub):=qj PG 367 [.pointer l] [] w K
def yY (d:Option Addr)(w:World)(K:Slc->Int->Ub):=qj PG 368 [.pointer d] [Kind.slice,Kind.int .i64] w K
def jY (slices:Slc)(w:World)(K:Slc->Ub):=qj PG 369 [.slice slices.a slices.n slices.c] [Kind.slice] w K
def qjk (l:Option Addr)(b:Slc)(w:World)(K:Slc->Int->Ub):=qj PG 370 [.pointer l,.slice b.a b.n b.c] [Kind.slice,Kind.int .i64] w K
def Qv (l:Option Addr)(b:Slc)(w:World)(K:qa->Int->Ub):=qj PG 371 [.pointer l,.slice b.a b.n b.c] [Kind.struct qa.rep,Kind.int .i64] w K
def XW (n:Int)(w:World)(K:Bool->Ub):=qj PG 372 [Ua n] [Kind.bool] w K
def j6 (s:Slc)(f:Value)(w:World)(K:Bool->Ub):=qj PG 373 [.slice s.a s.n s.c,f] [Kind.bool] w K
def VP (p:qf)(c0:Addr)(w:World)(K:Bool->Ub):=qj PG 374 [ag qf.rep p,.pointer (some c0)] [Kind.bool] w K
def jL (s:Slc)(n:Int)(w:World)(K:Slc->Ub):=qj PG 377 [.slice s.a s.n s.c,Ua n] [Kind.slice] w K
def kD (s prefix_:ByteArray)(w:World)(K:ByteArray->Bool->Ub):=qj PG 394 [.string s,.string prefix_] [Kind.string,Kind.bool] w K
def xC (d:Option Addr)(w:World)(K:Bool->Ub):=qj PG 395 [.pointer d] [Kind.bool] w K
def xE (d:Option Addr)(w:World)(K:Slc->Ub):=qj PG 396 [.pointer d] [Kind.slice] w K
def Jd (d:Option Addr)(w:World)(K:Ub):=qj PG 397 [.pointer d] [] w K
def vq (s:Slc)(n:Int)(w:World)(K:Slc->Ub):=qj PG 398 [.slice s.a s.n s.c,Ua n] [Kind.slice] w K
def X8 (wx hx:Int)(b:Slc)(w:World)(K:qa->Int->Ub):=qj PG 400 [Ua wx,Ua hx,.slice b.a b.n b.c] [Kind.struct qa.rep,Kind.int .i64] w K
def qz9 (b:Slc)(pixels:Int)(w:World)(K:qa->Int->Ub):=qj PG 401 [.slice b.a b.n b.c,Ua pixels] [Kind.struct qa.rep,Kind.int .i64] w K
def Vp (wx hx:Int)(b:Slc)(w:World)(K:qa->Int->Ub):=qj PG 402 [Ua wx,Ua hx,.slice b.a b.n b.c] [Kind.struct qa.rep,Kind.int .i64] w K
def jS (s:Slc)(f:Value)(w:World)(K:Int->Ub):=qj PG 403 [.slice s.a s.n s.c,f] [Kind.int .i64] w K
def jM (s prefix_:ByteArray)(w:World)(K:Bool->Ub):=qj PG 414 [.string s,.string prefix_] [Kind.bool] w K
def Yh (wx hx per:Int)(b:Slc)(w:World)(K:qa->Int->Ub):=qj PG 419 [Ua wx,Ua hx,Ua per,.slice b.a b.n b.c] [Kind.struct qa.rep,Kind.int .i64] w K
def vC (s:qo)(f:Value)(w:World)(K:Ub):=qj PG 515 [ag qo.rep s,f] [] w K
def yd (l:qB)(m:qa)(w:World)(K:qa->Ub):=qj PG 518 [ag qB.rep l,ag qa.rep m] [Kind.struct qa.rep] w K
def ZC (row col:Int)(c:qW)(c0 c1:Addr)(w:World)(K:Ub):=qj PG 519 [Ua row,Ua col,ag qW.rep c,.pointer (some c0),.pointer (some c1)] [] w K
def XR (a:qt)(w:World)(K:qn->qn->Ub):=qj PG 520 [ag qt.rep a] [Kind.struct qn.rep,Kind.struct qn.rep] w K
def VY (m:qa)(x y wx hx:Int)(c:qs)(w:World)(K:Ub):=qj PG 521 [ag qa.rep m,Ua x,Ua y,Ua wx,Ua hx,ag qs.rep c] [] w K
def zj (c:qn)(w:World)(K:qs->Ub):=qj PG 522 [ag qn.rep c] [Kind.struct qs.rep] w K
def Zv (s:qo)(row col:Int)(w:World)(K:qW->Ub):=qj PG 523 [ag qo.rep s,Ua row,Ua col] [Kind.struct qW.rep] w K
def Yg (c:Int)(fore:Bool)(w:World)(K:qn->Ub):=qj PG 524 [Ua c,.bool fore] [Kind.struct qn.rep] w K
def qo0 (c:Int)(w:World)(K:Bool->Ub):=qj PG 525 [Ua c] [Kind.bool] w K
def Ke (v:Int)(w:World)(K:qn->Ub):=qj PG 526 [Ua v] [Kind.struct qn.rep] w K
def qzj (n:Int)(w:World)(K:qn->Ub):=qj PG 527 [Ua n] [Kind.struct qn.rep] w K
def yI (l:zO)(m:qa)(w:World)(K:qa->Ub):=qj PG 528 [ag zO.rep l,ag qa.rep m] [Kind.struct qa.rep] w K
def quw (s:qo)(p:qf)(w:World)(K:Int->Int->Int->Int->Ub):=qj PG 529 [ag qo.rep s,ag qf.rep p] [Kind.int .i64,Kind.int .i64,Kind.int .i64,Kind.int .i64] w K
def q1w (m:qa)(x y wx hx:Int)(w:World)(K:qa->Ub):=qj PG 530 [ag qa.rep m,Ua x,Ua y,Ua wx,Ua hx] [Kind.struct qa.rep] w K
def q1l (out src:qa)(x y wx hx:Int)(w:World)(K:Ub):=qj PG 531 [ag qa.rep out,ag qa.rep src,Ua x,Ua y,Ua wx,Ua hx] [] w K
def yQ (l:qB)(m:qa)(w:World)(K:qa->Ub):=qj PG 535 [ag qB.rep l,ag qa.rep m] [Kind.struct qa.rep] w K
def ZO (row col:Int)(c:qW)(c0 c1:Addr)(w:World)(K:Ub):=qj PG 536 [Ua row,Ua col,ag qW.rep c,.pointer (some c0),.pointer (some c1)] [] w K
def qj8 (r wx hx:Int)(a:qt)(lay:Value)(w:World)(K:Ub):=qj PG 537 [.int .i32 r,Ua wx,Ua hx,ag qt.rep a,lay] [] w K
def QF (x y wx hx:Int)(k:qs)(c0 c1 c2 c3:Addr)(w:World)(K:Ub):=qj PG 538 [Ua x,Ua y,Ua wx,Ua hx,ag qs.rep k,.pointer (some c0),.pointer (some c1),.pointer (some c2),.pointer (some c3)] [] w K
def yA (l:qB)(m:qa)(w:World)(K:qa->Ub):=qj PG 539 [ag qB.rep l,ag qa.rep m] [Kind.struct qa.rep] w K
end Go.Proofs.YtokfefnmpjohpaaGreatDoor
