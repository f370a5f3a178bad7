import Derived.Test.YtokfefnmpjohpaaGreatDoorVc
import Derived.Test.YtokfefnmpjohpaaGreatDoorChecked
import Derived.KernelRfl
set_option maxRecDepth 100000
set_option linter.unusedVariables false
namespace Go.Proofs.YtokfefnmpjohpaaGreatDoor
open Go.Vc
structure qa where
 W:Int
 H:Int
 P:Slc
def qa.rep:Rep where
 T:=qa
 cells x:=[Ua x.W,Ua x.H,.slice x.P.a x.P.n x.P.c]
 get:=jC [.int .i64,.int .i64,.slice] qa.mk
 ok:=qW λ_=>rfl
structure qI where
 Rows:Int
 Cols:Int
 CellW:Int
 CellH:Int
 Back:Int
 Quota:Int
def qI.rep:Rep where
 T:=qI
 cells x:=[Ua x.Rows,Ua x.Cols,Ua x.CellW,Ua x.CellH,Ua x.Back,Ua x.Quota]
 get:=jC [.int .i64,.int .i64,.int .i64,.int .i64,.int .i64,.int .i64] qI.mk
 ok:=qW λ_=>rfl
structure kj where
 e0:Int
 e1:Int
def kj.rep:Rep where
 T:=kj
 cells x:=[Ua x.e0,Ua x.e1]
 get:=jC [.int .i64,.int .i64] kj.mk
 ok:=qW λ_=>rfl
structure qih where
 c:qI
 s:Option Addr
 e:Option Addr
 p:Option Addr
 d:Option Addr
 command:Slc
 long:Bool
 replies:Slc
 firsts:kj
def qih.rep:Rep where
 T:=qih
 cells x:=[Ua x.c.Rows,Ua x.c.Cols,Ua x.c.CellW,Ua x.c.CellH,Ua x.c.Back,Ua x.c.Quota,.pointer x.s,.pointer x.e,.pointer x.p,.pointer x.d,.slice x.command.a x.command.n x.command.c,.bool x.long,.slice x.replies.a x.replies.n x.replies.c,Ua x.firsts.e0,Ua x.firsts.e1]
 get:=jC [.int .i64,.int .i64,.int .i64,.int .i64,.int .i64,.int .i64,.ptr,.ptr,.ptr,.ptr,.slice,.bool,.slice,.int .i64,.int .i64] (λv0 v1 v2 v3 v4 v5 v6 v7 v8 v9 v10 v11 v12 v13 v14=>⟨⟨v0,v1,v2,v3,v4,v5⟩,v6,v7,v8,v9,v10,v11,v12,⟨v13,v14⟩⟩)
 ok:=qW λ_=>rfl
structure qo where
 Rows:Int
 Cols:Int
 CellW:Int
 CellH:Int
 Lines:Slc
 Places:Slc
 Images:Option Nat
 Top:Int
 Cursor:Bool
 Row:Int
 Col:Int
def qo.rep:Rep where
 T:=qo
 cells x:=[Ua x.Rows,Ua x.Cols,Ua x.CellW,Ua x.CellH,.slice x.Lines.a x.Lines.n x.Lines.c,.slice x.Places.a x.Places.n x.Places.c,.map x.Images,Ua x.Top,.bool x.Cursor,Ua x.Row,Ua x.Col]
 get:=jC [.int .i64,.int .i64,.int .i64,.int .i64,.slice,.slice,.map,.int .i64,.bool,.int .i64,.int .i64] qo.mk
 ok:=qW λ_=>rfl
structure ye where
 addr:Option Addr
 buf:Slc
def ye.rep:Rep where
 T:=ye
 cells x:=[.pointer x.addr,.slice x.buf.a x.buf.n x.buf.c]
 get:=jC [.ptr,.slice] ye.mk
 ok:=qW λ_=>rfl
structure qu where
 Fg:Int
 Bg:Int
 Flags:Int
def qu.rep:Rep where
 T:=qu
 cells x:=[Ua x.Fg,Ua x.Bg,Ua x.Flags]
 get:=jC [.int .i64,.int .i64,.int .i64] qu.mk
 ok:=qW λ_=>rfl
structure qX where
 R:Int
 Kind:Int
 A:qu
def qX.rep:Rep where
 T:=qX
 cells x:=[.int .i32 x.R,Ua x.Kind,Ua x.A.Fg,Ua x.A.Bg,Ua x.A.Flags]
 get:=jC [.int .i32,.int .i64,.int .i64,.int .i64,.int .i64] (λv0 v1 v2 v3 v4=>⟨v0,v1,⟨v2,v3,v4⟩⟩)
 ok:=qW λ_=>rfl
structure zb where
 Kind:Int
 R:Int
 B:Int
 Private:Int
 Inter:ByteArray
 Params:Slc
 Data:Slc
def zb.rep:Rep where
 T:=zb
 cells x:=[Ua x.Kind,.int .i32 x.R,.int .u8 x.B,.int .u8 x.Private,.string x.Inter,.slice x.Params.a x.Params.n x.Params.c,.slice x.Data.a x.Data.n x.Data.c]
 get:=jC [.int .i64,.int .i32,.int .u8,.int .u8,.string,.slice,.slice] zb.mk
 ok:=qW λ_=>rfl
structure qD where
 number:Int
 m:qa
 stamp:Int
 born:Int
def qD.rep:Rep where
 T:=qD
 cells x:=[Ua x.number,Ua x.m.W,Ua x.m.H,.slice x.m.P.a x.m.P.n x.m.P.c,Ua x.stamp,Ua x.born]
 get:=jC [.int .i64,.int .i64,.int .i64,.slice,.int .i64,.int .i64] (λv0 v1 v2 v3 v4 v5=>⟨v0,⟨v1,v2,v3⟩,v4,v5⟩)
 ok:=qW λ_=>rfl
structure qf where
 Image:Int
 Id:Int
 Alt:Bool
 Line:Int
 Col:Int
 Rows:Int
 Cols:Int
 X:Int
 Y:Int
 W:Int
 H:Int
 DX:Int
 DY:Int
 Z:Int
def qf.rep:Rep where
 T:=qf
 cells x:=[Ua x.Image,Ua x.Id,.bool x.Alt,Ua x.Line,Ua x.Col,Ua x.Rows,Ua x.Cols,Ua x.X,Ua x.Y,Ua x.W,Ua x.H,Ua x.DX,Ua x.DY,Ua x.Z]
 get:=jC [.int .i64,.int .i64,.bool,.int .i64,.int .i64,.int .i64,.int .i64,.int .i64,.int .i64,.int .i64,.int .i64,.int .i64,.int .i64,.int .i64] qf.mk
 ok:=qW λ_=>rfl
structure vP where
 e0:Option Addr
 e1:Option Addr
def vP.rep:Rep where
 T:=vP
 cells x:=[.pointer x.e0,.pointer x.e1]
 get:=jC [.ptr,.ptr] vP.mk
 ok:=qW λ_=>rfl
structure qcu where
 e0:Int
 e1:Int
def qcu.rep:Rep where
 T:=qcu
 cells x:=[.int .u8 x.e0,.int .u8 x.e1]
 get:=jC [.int .u8,.int .u8] qcu.mk
 ok:=qW λ_=>rfl
structure qK where
 Row:Int
 Col:Int
 Wrap:Bool
 A:qu
 Origin:Bool
 Sets:qcu
 Shift:Int
def qK.rep:Rep where
 T:=qK
 cells x:=[Ua x.Row,Ua x.Col,.bool x.Wrap,Ua x.A.Fg,Ua x.A.Bg,Ua x.A.Flags,.bool x.Origin,.int .u8 x.Sets.e0,.int .u8 x.Sets.e1,Ua x.Shift]
 get:=jC [.int .i64,.int .i64,.bool,.int .i64,.int .i64,.int .i64,.bool,.int .u8,.int .u8,.int .i64] (λv0 v1 v2 v3 v4 v5 v6 v7 v8 v9=>⟨v0,v1,v2,⟨v3,v4,v5⟩,v6,⟨v7,v8⟩,v9⟩)
 ok:=qW λ_=>rfl
structure vg where
 c:qK
 is:Bool
def vg.rep:Rep where
 T:=vg
 cells x:=[Ua x.c.Row,Ua x.c.Col,.bool x.c.Wrap,Ua x.c.A.Fg,Ua x.c.A.Bg,Ua x.c.A.Flags,.bool x.c.Origin,.int .u8 x.c.Sets.e0,.int .u8 x.c.Sets.e1,Ua x.c.Shift,.bool x.is]
 get:=jC [.int .i64,.int .i64,.bool,.int .i64,.int .i64,.int .i64,.bool,.int .u8,.int .u8,.int .i64,.bool] (λv0 v1 v2 v3 v4 v5 v6 v7 v8 v9 v10=>⟨⟨v0,v1,v2,⟨v3,v4,v5⟩,v6,⟨v7,v8⟩,v9⟩,v10⟩)
 ok:=qW λ_=>rfl
structure Qg where
 e0:vg
 e1:vg
def Qg.rep:Rep where
 T:=Qg
 cells x:=[Ua x.e0.c.Row,Ua x.e0.c.Col,.bool x.e0.c.Wrap,Ua x.e0.c.A.Fg,Ua x.e0.c.A.Bg,Ua x.e0.c.A.Flags,.bool x.e0.c.Origin,.int .u8 x.e0.c.Sets.e0,.int .u8 x.e0.c.Sets.e1,Ua x.e0.c.Shift,.bool x.e0.is,Ua x.e1.c.Row,Ua x.e1.c.Col,.bool x.e1.c.Wrap,Ua x.e1.c.A.Fg,Ua x.e1.c.A.Bg,Ua x.e1.c.A.Flags,.bool x.e1.c.Origin,.int .u8 x.e1.c.Sets.e0,.int .u8 x.e1.c.Sets.e1,Ua x.e1.c.Shift,.bool x.e1.is]
 get:=jC [.int .i64,.int .i64,.bool,.int .i64,.int .i64,.int .i64,.bool,.int .u8,.int .u8,.int .i64,.bool,.int .i64,.int .i64,.bool,.int .i64,.int .i64,.int .i64,.bool,.int .u8,.int .u8,.int .i64,.bool] (λv0 v1 v2 v3 v4 v5 v6 v7 v8 v9 v10 v11 v12 v13 v14 v15 v16 v17 v18 v19 v20 v21=>⟨⟨⟨v0,v1,v2,⟨v3,v4,v5⟩,v6,⟨v7,v8⟩,v9⟩,v10⟩,⟨⟨v11,v12,v13,⟨v14,v15,v16⟩,v17,⟨v18,v19⟩,v20⟩,v21⟩⟩)
 ok:=qW λ_=>rfl
structure qy where
 grids:vP
 now:Int
 c:qK
 saved:Qg
 modes:Option Nat
 private_:Option Nat
 top:Int
 past:Int
 stops:Option Addr
 char:Int
 areas:Slc
def qy.ks:List Kind:=[.ptr,.ptr,.int .i64,.int .i64,.int .i64,.bool,.int .i64,.int .i64,.int .i64,.bool,.int .u8,.int .u8,.int .i64,.int .i64,.int .i64,.bool,.int .i64,.int .i64,.int .i64,.bool,.int .u8,.int .u8,.int .i64,.bool,.int .i64,.int .i64,.bool,.int .i64,.int .i64,.int .i64,.bool,.int .u8,.int .u8,.int .i64,.bool,.map,.map,.int .i64,.int .i64,.ptr,.int .i32,.slice]
def qy.rep:Rep where
 T:=qy
 cells x:=[.pointer x.grids.e0,.pointer x.grids.e1,Ua x.now,Ua x.c.Row,Ua x.c.Col,.bool x.c.Wrap,Ua x.c.A.Fg,Ua x.c.A.Bg,Ua x.c.A.Flags,.bool x.c.Origin,.int .u8 x.c.Sets.e0,.int .u8 x.c.Sets.e1,Ua x.c.Shift,Ua x.saved.e0.c.Row,Ua x.saved.e0.c.Col,.bool x.saved.e0.c.Wrap,Ua x.saved.e0.c.A.Fg,Ua x.saved.e0.c.A.Bg,Ua x.saved.e0.c.A.Flags,.bool x.saved.e0.c.Origin,.int .u8 x.saved.e0.c.Sets.e0,.int .u8 x.saved.e0.c.Sets.e1,Ua x.saved.e0.c.Shift,.bool x.saved.e0.is,Ua x.saved.e1.c.Row,Ua x.saved.e1.c.Col,.bool x.saved.e1.c.Wrap,Ua x.saved.e1.c.A.Fg,Ua x.saved.e1.c.A.Bg,Ua x.saved.e1.c.A.Flags,.bool x.saved.e1.c.Origin,.int .u8 x.saved.e1.c.Sets.e0,.int .u8 x.saved.e1.c.Sets.e1,Ua x.saved.e1.c.Shift,.bool x.saved.e1.is,.map x.modes,.map x.private_,Ua x.top,Ua x.past,.pointer x.stops,.int .i32 x.char,.slice x.areas.a x.areas.n x.areas.c]
 get:=jC qy.ks (λv0 v1 v2 v3 v4 v5 v6 v7 v8 v9 v10 v11 v12 v13 v14 v15 v16 v17 v18 v19 v20 v21 v22 v23 v24 v25 v26 v27 v28 v29 v30 v31 v32 v33 v34 v35 v36 v37 v38 v39 v40 v41=>⟨⟨v0,v1⟩,v2,⟨v3,v4,v5,⟨v6,v7,v8⟩,v9,⟨v10,v11⟩,v12⟩,⟨⟨⟨v13,v14,v15,⟨v16,v17,v18⟩,v19,⟨v20,v21⟩,v22⟩,v23⟩,⟨⟨v24,v25,v26,⟨v27,v28,v29⟩,v30,⟨v31,v32⟩,v33⟩,v34⟩⟩,v35,v36,v37,v38,v39,v40,v41⟩)
 ok:=qW λ_=>rfl
structure qb where
 Action:Int
 Medium:Int
 Zip:Int
 What:Int
 Quiet:Int
 Format:Int
 W:Int
 H:Int
 Id:Int
 Number:Int
 Place:Int
 More:Int
 X:Int
 Y:Int
 PW:Int
 PH:Int
 DX:Int
 DY:Int
 Rows:Int
 Cols:Int
 Z:Int
 Stay:Int
def qb.rep:Rep where
 T:=qb
 cells x:=[.int .u8 x.Action,.int .u8 x.Medium,.int .u8 x.Zip,.int .u8 x.What,Ua x.Quiet,Ua x.Format,Ua x.W,Ua x.H,Ua x.Id,Ua x.Number,Ua x.Place,Ua x.More,Ua x.X,Ua x.Y,Ua x.PW,Ua x.PH,Ua x.DX,Ua x.DY,Ua x.Rows,Ua x.Cols,Ua x.Z,Ua x.Stay]
 get:=jC [.int .u8,.int .u8,.int .u8,.int .u8,.int .i64,.int .i64,.int .i64,.int .i64,.int .i64,.int .i64,.int .i64,.int .i64,.int .i64,.int .i64,.int .i64,.int .i64,.int .i64,.int .i64,.int .i64,.int .i64,.int .i64,.int .i64] qb.mk
 ok:=qW λ_=>rfl
structure Yh where
 quota:Int
 s:Option Addr
 t:Option Addr
 l:Option Addr
 first:qb
def Yh.rep:Rep where
 T:=Yh
 cells x:=[Ua x.quota,.pointer x.s,.pointer x.t,.pointer x.l,.int .u8 x.first.Action,.int .u8 x.first.Medium,.int .u8 x.first.Zip,.int .u8 x.first.What,Ua x.first.Quiet,Ua x.first.Format,Ua x.first.W,Ua x.first.H,Ua x.first.Id,Ua x.first.Number,Ua x.first.Place,Ua x.first.More,Ua x.first.X,Ua x.first.Y,Ua x.first.PW,Ua x.first.PH,Ua x.first.DX,Ua x.first.DY,Ua x.first.Rows,Ua x.first.Cols,Ua x.first.Z,Ua x.first.Stay]
 get:=jC [.int .i64,.ptr,.ptr,.ptr,.int .u8,.int .u8,.int .u8,.int .u8,.int .i64,.int .i64,.int .i64,.int .i64,.int .i64,.int .i64,.int .i64,.int .i64,.int .i64,.int .i64,.int .i64,.int .i64,.int .i64,.int .i64,.int .i64,.int .i64,.int .i64,.int .i64] (λv0 v1 v2 v3 v4 v5 v6 v7 v8 v9 v10 v11 v12 v13 v14 v15 v16 v17 v18 v19 v20 v21 v22 v23 v24 v25=>⟨v0,v1,v2,v3,⟨v4,v5,v6,v7,v8,v9,v10,v11,v12,v13,v14,v15,v16,v17,v18,v19,v20,v21,v22,v23,v24,v25⟩⟩)
 ok:=qW λ_=>rfl
structure Jb where
 state:Int
 ends:Bool
 chars:Option Addr
 private_:Int
 inter:Slc
 wrong:Bool
 first:Bool
 params:Slc
 some_:Bool
 last:Int
 data:Slc
 say:Value
def Jb.rep:Rep where
 T:=Jb
 cells x:=[Ua x.state,.bool x.ends,.pointer x.chars,.int .u8 x.private_,.slice x.inter.a x.inter.n x.inter.c,.bool x.wrong,.bool x.first,.slice x.params.a x.params.n x.params.c,.bool x.some_,Ua x.last,.slice x.data.a x.data.n x.data.c,x.say]
 get:=jC [.int .i64,.bool,.ptr,.int .u8,.slice,.bool,.bool,.slice,.bool,.int .i64,.slice,.raw] Jb.mk
 ok:=qW λ_=>rfl
structure qE where
 s:qo
def qE.rep:Rep where
 T:=qE
 cells x:=[Ua x.s.Rows,Ua x.s.Cols,Ua x.s.CellW,Ua x.s.CellH,.slice x.s.Lines.a x.s.Lines.n x.s.Lines.c,.slice x.s.Places.a x.s.Places.n x.s.Places.c,.map x.s.Images,Ua x.s.Top,.bool x.s.Cursor,Ua x.s.Row,Ua x.s.Col]
 get:=jC [.int .i64,.int .i64,.int .i64,.int .i64,.slice,.slice,.map,.int .i64,.bool,.int .i64,.int .i64] (λv0 v1 v2 v3 v4 v5 v6 v7 v8 v9 v10=>⟨⟨v0,v1,v2,v3,v4,v5,v6,v7,v8,v9,v10⟩⟩)
 ok:=qW λ_=>rfl
structure zD where
 s:qo
 above:Bool
def zD.rep:Rep where
 T:=zD
 cells x:=[Ua x.s.Rows,Ua x.s.Cols,Ua x.s.CellW,Ua x.s.CellH,.slice x.s.Lines.a x.s.Lines.n x.s.Lines.c,.slice x.s.Places.a x.s.Places.n x.s.Places.c,.map x.s.Images,Ua x.s.Top,.bool x.s.Cursor,Ua x.s.Row,Ua x.s.Col,.bool x.above]
 get:=jC [.int .i64,.int .i64,.int .i64,.int .i64,.slice,.slice,.map,.int .i64,.bool,.int .i64,.int .i64,.bool] (λv0 v1 v2 v3 v4 v5 v6 v7 v8 v9 v10 v11=>⟨⟨v0,v1,v2,v3,v4,v5,v6,v7,v8,v9,v10⟩,v11⟩)
 ok:=qW λ_=>rfl
structure qH where
 Alt:Bool
 Top:Int
 Rows:Int
 Cols:Int
 Row:Int
 Col:Int
def qH.rep:Rep where
 T:=qH
 cells x:=[.bool x.Alt,Ua x.Top,Ua x.Rows,Ua x.Cols,Ua x.Row,Ua x.Col]
 get:=jC [.bool,.int .i64,.int .i64,.int .i64,.int .i64,.int .i64] qH.mk
 ok:=qW λ_=>rfl
structure qj where
 View:qH
 CellW:Int
 CellH:Int
def qj.rep:Rep where
 T:=qj
 cells x:=[.bool x.View.Alt,Ua x.View.Top,Ua x.View.Rows,Ua x.View.Cols,Ua x.View.Row,Ua x.View.Col,Ua x.CellW,Ua x.CellH]
 get:=jC [.bool,.int .i64,.int .i64,.int .i64,.int .i64,.int .i64,.int .i64,.int .i64] (λv0 v1 v2 v3 v4 v5 v6 v7=>⟨⟨v0,v1,v2,v3,v4,v5⟩,v6,v7⟩)
 ok:=qW λ_=>rfl
structure qc where
 Reply:Slc
 Rows:Int
 Cols:Int
 Moves:Bool
def qc.rep:Rep where
 T:=qc
 cells x:=[.slice x.Reply.a x.Reply.n x.Reply.c,Ua x.Rows,Ua x.Cols,.bool x.Moves]
 get:=jC [.slice,.int .i64,.int .i64,.bool] qc.mk
 ok:=qW λ_=>rfl
structure zQ where
 Alt:Bool
 Line:Int
 Rows:Int
 From:Int
 To:Int
def zQ.rep:Rep where
 T:=zQ
 cells x:=[.bool x.Alt,Ua x.Line,Ua x.Rows,Ua x.From,Ua x.To]
 get:=jC [.bool,.int .i64,.int .i64,.int .i64,.int .i64] zQ.mk
 ok:=qW λ_=>rfl
structure xb where
 quota:Int
 reserved:Int
 used:Int
 clock:Int
 l:Option Nat
def xb.rep:Rep where
 T:=xb
 cells x:=[Ua x.quota,Ua x.reserved,Ua x.used,Ua x.clock,.map x.l]
 get:=jC [.int .i64,.int .i64,.int .i64,.int .i64,.map] xb.mk
 ok:=qW λ_=>rfl
structure XB where
 l:Slc
def XB.rep:Rep where
 T:=XB
 cells x:=[.slice x.l.a x.l.n x.l.c]
 get:=jC [.slice] XB.mk
 ok:=qW λ_=>rfl
structure kq where
 Ring:Option Addr
 rows:Int
 cols:Int
 l:Slc
 top:Int
def kq.rep:Rep where
 T:=kq
 cells x:=[.pointer x.Ring,Ua x.rows,Ua x.cols,.slice x.l.a x.l.n x.l.c,Ua x.top]
 get:=jC [.ptr,.int .i64,.int .i64,.slice,.int .i64] kq.mk
 ok:=qW λ_=>rfl
structure X9 where
 r:Int
 left:Int
 lo:Int
 hi:Int
def X9.rep:Rep where
 T:=X9
 cells x:=[.int .i32 x.r,Ua x.left,.int .u8 x.lo,.int .u8 x.hi]
 get:=jC [.int .i32,.int .i64,.int .u8,.int .u8] X9.mk
 ok:=qW λ_=>rfl
structure qs where
 e0:Int
 e1:Int
 e2:Int
def qs.rep:Rep where
 T:=qs
 cells x:=[.int .u8 x.e0,.int .u8 x.e1,.int .u8 x.e2]
 get:=jC [.int .u8,.int .u8,.int .u8] qs.mk
 ok:=qW λ_=>rfl
structure XL where
 e0:Int
 e1:Int
 e2:Int
def XL.rep:Rep where
 T:=XL
 cells x:=[Ua x.e0,Ua x.e1,Ua x.e2]
 get:=jC [.int .i64,.int .i64,.int .i64] XL.mk
 ok:=qW λ_=>rfl
structure XC where
 e0:Int
 e1:Int
 e2:Int
def XC.rep:Rep where
 T:=XC
 cells x:=[.int .u8 x.e0,.int .u8 x.e1,.int .u8 x.e2]
 get:=jC [.int .u8,.int .u8,.int .u8] XC.mk
 ok:=qW λ_=>rfl
structure zf where
 most:Int
 l:Slc
 at_:Int
 gone:Int
def zf.rep:Rep where
 T:=zf
 cells x:=[Ua x.most,.slice x.l.a x.l.n x.l.c,Ua x.at_,Ua x.gone]
 get:=jC [.int .i64,.slice,.int .i64,.int .i64] zf.mk
 ok:=qW λ_=>rfl
structure VB where
 cols:Int
 l:Option Nat
def VB.rep:Rep where
 T:=VB
 cells x:=[Ua x.cols,.map x.l]
 get:=jC [.int .i64,.map] VB.mk
 ok:=qW λ_=>rfl
structure qau where
 What:Int
 Image:Int
 Place:Int
 X:Int
 Y:Int
 Z:Int
def qau.rep:Rep where
 T:=qau
 cells x:=[.int .u8 x.What,Ua x.Image,Ua x.Place,Ua x.X,Ua x.Y,Ua x.Z]
 get:=jC [.int .u8,.int .i64,.int .i64,.int .i64,.int .i64,.int .i64] qau.mk
 ok:=qW λ_=>rfl
structure qbi where
 Decoder:Option Addr
 k:qb
 most:Int
 need:Int
 pieces:Slc
 held:Int
 failed:Int
 over:Bool
def qbi.rep:Rep where
 T:=qbi
 cells x:=[.pointer x.Decoder,.int .u8 x.k.Action,.int .u8 x.k.Medium,.int .u8 x.k.Zip,.int .u8 x.k.What,Ua x.k.Quiet,Ua x.k.Format,Ua x.k.W,Ua x.k.H,Ua x.k.Id,Ua x.k.Number,Ua x.k.Place,Ua x.k.More,Ua x.k.X,Ua x.k.Y,Ua x.k.PW,Ua x.k.PH,Ua x.k.DX,Ua x.k.DY,Ua x.k.Rows,Ua x.k.Cols,Ua x.k.Z,Ua x.k.Stay,Ua x.most,Ua x.need,.slice x.pieces.a x.pieces.n x.pieces.c,Ua x.held,Ua x.failed,.bool x.over]
 get:=jC [.ptr,.int .u8,.int .u8,.int .u8,.int .u8,.int .i64,.int .i64,.int .i64,.int .i64,.int .i64,.int .i64,.int .i64,.int .i64,.int .i64,.int .i64,.int .i64,.int .i64,.int .i64,.int .i64,.int .i64,.int .i64,.int .i64,.int .i64,.int .i64,.int .i64,.slice,.int .i64,.int .i64,.bool] (λv0 v1 v2 v3 v4 v5 v6 v7 v8 v9 v10 v11 v12 v13 v14 v15 v16 v17 v18 v19 v20 v21 v22 v23 v24 v25 v26 v27 v28=>⟨v0,⟨v1,v2,v3,v4,v5,v6,v7,v8,v9,v10,v11,v12,v13,v14,v15,v16,v17,v18,v19,v20,v21,v22⟩,v23,v24,v25,v26,v27,v28⟩)
 ok:=qW λ_=>rfl
structure zd where
 key:ByteArray
 n:Int
def zd.rep:Rep where
 T:=zd
 cells x:=[.string x.key,Ua x.n]
 get:=jC [.string,.int .i64] zd.mk
 ok:=qW λ_=>rfl
structure vD where
 lo:Int
 hi:Int
def vD.rep:Rep where
 T:=vD
 cells x:=[.int .u8 x.lo,.int .u8 x.hi]
 get:=jC [.int .u8,.int .u8] vD.mk
 ok:=qW λ_=>rfl
structure qos where
 e0:XL
 e1:XL
 e2:XL
 e3:XL
 e4:XL
 e5:XL
def qos.rep:Rep where
 T:=qos
 cells x:=[Ua x.e0.e0,Ua x.e0.e1,Ua x.e0.e2,Ua x.e1.e0,Ua x.e1.e1,Ua x.e1.e2,Ua x.e2.e0,Ua x.e2.e1,Ua x.e2.e2,Ua x.e3.e0,Ua x.e3.e1,Ua x.e3.e2,Ua x.e4.e0,Ua x.e4.e1,Ua x.e4.e2,Ua x.e5.e0,Ua x.e5.e1,Ua x.e5.e2]
 get:=jC [.int .i64,.int .i64,.int .i64,.int .i64,.int .i64,.int .i64,.int .i64,.int .i64,.int .i64,.int .i64,.int .i64,.int .i64,.int .i64,.int .i64,.int .i64,.int .i64,.int .i64,.int .i64] (λv0 v1 v2 v3 v4 v5 v6 v7 v8 v9 v10 v11 v12 v13 v14 v15 v16 v17=>⟨⟨v0,v1,v2⟩,⟨v3,v4,v5⟩,⟨v6,v7,v8⟩,⟨v9,v10,v11⟩,⟨v12,v13,v14⟩,⟨v15,v16,v17⟩⟩)
 ok:=qW λ_=>rfl
structure Qe where
 v:Int
 n:Int
 fill:Int
 over:Bool
 bad:Bool
def Qe.rep:Rep where
 T:=Qe
 cells x:=[.int .u32 x.v,Ua x.n,Ua x.fill,.bool x.over,.bool x.bad]
 get:=jC [.int .u32,.int .i64,.int .i64,.bool,.bool] Qe.mk
 ok:=qW λ_=>rfl
structure jV where
 lo:Int
 hi:Int
def jV.rep:Rep where
 T:=jV
 cells x:=[.int .i32 x.lo,.int .i32 x.hi]
 get:=jC [.int .i32,.int .i32] jV.mk
 ok:=qW λ_=>rfl
structure Yn where
 W:Int
 H:Int
 Depth:Int
 Color:Int
 Lace:Int
def Yn.rep:Rep where
 T:=Yn
 cells x:=[Ua x.W,Ua x.H,Ua x.Depth,Ua x.Color,Ua x.Lace]
 get:=jC [.int .i64,.int .i64,.int .i64,.int .i64,.int .i64] Yn.mk
 ok:=qW λ_=>rfl
structure ZN where
 Decoder:Option Addr
 head:Slc
 tail:Slc
 sum:Value
 over:Int
 failed:Int
def ZN.rep:Rep where
 T:=ZN
 cells x:=[.pointer x.Decoder,.slice x.head.a x.head.n x.head.c,.slice x.tail.a x.tail.n x.tail.c,x.sum,Ua x.over,Ua x.failed]
 get:=jC [.ptr,.slice,.slice,.raw,.int .i64,.int .i64] ZN.mk
 ok:=qW λ_=>rfl
structure YT where
 Kind:ByteArray
 Data:Slc
def YT.rep:Rep where
 T:=YT
 cells x:=[.string x.Kind,.slice x.Data.a x.Data.n x.Data.c]
 get:=jC [.string,.slice] YT.mk
 ok:=qW λ_=>rfl
structure qlj where
 Head:Yn
 palette:Slc
 trans:Slc
 hasPalette:Bool
 hasTr:Bool
 data:Slc
 hasData:Bool
 wasData:Bool
def qlj.rep:Rep where
 T:=qlj
 cells x:=[Ua x.Head.W,Ua x.Head.H,Ua x.Head.Depth,Ua x.Head.Color,Ua x.Head.Lace,.slice x.palette.a x.palette.n x.palette.c,.slice x.trans.a x.trans.n x.trans.c,.bool x.hasPalette,.bool x.hasTr,.slice x.data.a x.data.n x.data.c,.bool x.hasData,.bool x.wasData]
 get:=jC [.int .i64,.int .i64,.int .i64,.int .i64,.int .i64,.slice,.slice,.bool,.bool,.slice,.bool,.bool] (λv0 v1 v2 v3 v4 v5 v6 v7 v8 v9 v10 v11=>⟨⟨v0,v1,v2,v3,v4⟩,v5,v6,v7,v8,v9,v10,v11⟩)
 ok:=qW λ_=>rfl
structure yh where
 most:Int
 state:Int
 last:Bool
 wait:Slc
 skip:Int
 left:Int
 signs:Option Addr
 dists:Option Addr
 ring:Slc
 total:Int
 told:Int
 took:Int
 given:Int
 failed:Int
 out:Slc
def yh.rep:Rep where
 T:=yh
 cells x:=[Ua x.most,Ua x.state,.bool x.last,.slice x.wait.a x.wait.n x.wait.c,Ua x.skip,Ua x.left,.pointer x.signs,.pointer x.dists,.slice x.ring.a x.ring.n x.ring.c,Ua x.total,Ua x.told,Ua x.took,Ua x.given,Ua x.failed,.slice x.out.a x.out.n x.out.c]
 get:=jC [.int .i64,.int .i64,.bool,.slice,.int .i64,.int .i64,.ptr,.ptr,.slice,.int .i64,.int .i64,.int .i64,.int .i64,.int .i64,.slice] yh.mk
 ok:=qW λ_=>rfl
structure VH where
 a:Int
 b:Int
def VH.rep:Rep where
 T:=VH
 cells x:=[.int .u32 x.a,.int .u32 x.b]
 get:=jC [.int .u32,.int .u32] VH.mk
 ok:=qW λ_=>rfl
structure XF where
 X:Int
 Y:Int
 DX:Int
 DY:Int
def XF.rep:Rep where
 T:=XF
 cells x:=[Ua x.X,Ua x.Y,Ua x.DX,Ua x.DY]
 get:=jC [.int .i64,.int .i64,.int .i64,.int .i64] XF.mk
 ok:=qW λ_=>rfl
structure qh where
 e0:Int
 e1:Int
 e2:Int
 e3:Int
def qh.rep:Rep where
 T:=qh
 cells x:=[.int .u8 x.e0,.int .u8 x.e1,.int .u8 x.e2,.int .u8 x.e3]
 get:=jC [.int .u8,.int .u8,.int .u8,.int .u8] qh.mk
 ok:=qW λ_=>rfl
structure XD where
 b:Slc
 at_:Int
def XD.rep:Rep where
 T:=XD
 cells x:=[.slice x.b.a x.b.n x.b.c,Ua x.at_]
 get:=jC [.slice,.int .i64] XD.mk
 ok:=qW λ_=>rfl
structure qnp where
 e0:Int
 e1:Int
 e2:Int
 e3:Int
 e4:Int
 e5:Int
 e6:Int
 e7:Int
 e8:Int
 e9:Int
 e10:Int
 e11:Int
 e12:Int
 e13:Int
 e14:Int
 e15:Int
 e16:Int
 e17:Int
 e18:Int
def qnp.rep:Rep where
 T:=qnp
 cells x:=[Ua x.e0,Ua x.e1,Ua x.e2,Ua x.e3,Ua x.e4,Ua x.e5,Ua x.e6,Ua x.e7,Ua x.e8,Ua x.e9,Ua x.e10,Ua x.e11,Ua x.e12,Ua x.e13,Ua x.e14,Ua x.e15,Ua x.e16,Ua x.e17,Ua x.e18]
 get:=jC [.int .i64,.int .i64,.int .i64,.int .i64,.int .i64,.int .i64,.int .i64,.int .i64,.int .i64,.int .i64,.int .i64,.int .i64,.int .i64,.int .i64,.int .i64,.int .i64,.int .i64,.int .i64,.int .i64] qnp.mk
 ok:=qW λ_=>rfl
structure qir where
 e0:Int
 e1:Int
 e2:Int
 e3:Int
 e4:Int
 e5:Int
 e6:Int
 e7:Int
 e8:Int
 e9:Int
 e10:Int
 e11:Int
 e12:Int
 e13:Int
 e14:Int
 e15:Int
def qir.rep:Rep where
 T:=qir
 cells x:=[Ua x.e0,Ua x.e1,Ua x.e2,Ua x.e3,Ua x.e4,Ua x.e5,Ua x.e6,Ua x.e7,Ua x.e8,Ua x.e9,Ua x.e10,Ua x.e11,Ua x.e12,Ua x.e13,Ua x.e14,Ua x.e15]
 get:=jC [.int .i64,.int .i64,.int .i64,.int .i64,.int .i64,.int .i64,.int .i64,.int .i64,.int .i64,.int .i64,.int .i64,.int .i64,.int .i64,.int .i64,.int .i64,.int .i64] qir.mk
 ok:=qW λ_=>rfl
structure qdv where
 count:qir
 sorted:Slc
 codes:Slc
 lengths:Slc
 last:Int
def qdv.rep:Rep where
 T:=qdv
 cells x:=[Ua x.count.e0,Ua x.count.e1,Ua x.count.e2,Ua x.count.e3,Ua x.count.e4,Ua x.count.e5,Ua x.count.e6,Ua x.count.e7,Ua x.count.e8,Ua x.count.e9,Ua x.count.e10,Ua x.count.e11,Ua x.count.e12,Ua x.count.e13,Ua x.count.e14,Ua x.count.e15,.slice x.sorted.a x.sorted.n x.sorted.c,.slice x.codes.a x.codes.n x.codes.c,.slice x.lengths.a x.lengths.n x.lengths.c,Ua x.last]
 get:=jC [.int .i64,.int .i64,.int .i64,.int .i64,.int .i64,.int .i64,.int .i64,.int .i64,.int .i64,.int .i64,.int .i64,.int .i64,.int .i64,.int .i64,.int .i64,.int .i64,.slice,.slice,.slice,.int .i64] (λv0 v1 v2 v3 v4 v5 v6 v7 v8 v9 v10 v11 v12 v13 v14 v15 v16 v17 v18 v19=>⟨⟨v0,v1,v2,v3,v4,v5,v6,v7,v8,v9,v10,v11,v12,v13,v14,v15⟩,v16,v17,v18,v19⟩)
 ok:=qW λ_=>rfl
structure qe2 where
 v:Int
def qe2.rep:Rep where
 T:=qe2
 cells x:=[.int .u32 x.v]
 get:=jC [.int .u32] qe2.mk
 ok:=qW λ_=>rfl
structure qjn where
 e0:Int
 e1:Int
 e2:Int
 e3:Int
 e4:Int
 e5:Int
def qjn.rep:Rep where
 T:=qjn
 cells x:=[.int .u8 x.e0,.int .u8 x.e1,.int .u8 x.e2,.int .u8 x.e3,.int .u8 x.e4,.int .u8 x.e5]
 get:=jC [.int .u8,.int .u8,.int .u8,.int .u8,.int .u8,.int .u8] qjn.mk
 ok:=qW λ_=>rfl
structure qan where
 e0:Int
 e1:Int
 e2:Int
 e3:Int
 e4:Int
 e5:Int
 e6:Int
 e7:Int
 e8:Int
 e9:Int
 e10:Int
 e11:Int
 e12:Int
 e13:Int
 e14:Int
 e15:Int
def qan.rep:Rep where
 T:=qan
 cells x:=[.int .u32 x.e0,.int .u32 x.e1,.int .u32 x.e2,.int .u32 x.e3,.int .u32 x.e4,.int .u32 x.e5,.int .u32 x.e6,.int .u32 x.e7,.int .u32 x.e8,.int .u32 x.e9,.int .u32 x.e10,.int .u32 x.e11,.int .u32 x.e12,.int .u32 x.e13,.int .u32 x.e14,.int .u32 x.e15]
 get:=jC [.int .u32,.int .u32,.int .u32,.int .u32,.int .u32,.int .u32,.int .u32,.int .u32,.int .u32,.int .u32,.int .u32,.int .u32,.int .u32,.int .u32,.int .u32,.int .u32] qan.mk
 ok:=qW λ_=>rfl
noncomputable abbrev PG:Program:=Tryz.prog
abbrev qfi:TypeId:=0
abbrev qz5:TypeId:=2
abbrev zA:TypeId:=3
abbrev qn5:TypeId:=4
abbrev qL:TypeId:=5
abbrev zn:TypeId:=9
abbrev qxx:TypeId:=20
abbrev vJ:TypeId:=21
abbrev jP:TypeId:=22
abbrev qg:TypeId:=28
abbrev yU:TypeId:=32
abbrev qt:TypeId:=37
abbrev zo:TypeId:=40
abbrev qC:TypeId:=45
abbrev XI:TypeId:=52
abbrev qS:TypeId:=58
abbrev zi:TypeId:=61
abbrev Yz:TypeId:=63
abbrev q29:TypeId:=67
abbrev qd0:TypeId:=69
abbrev qF:TypeId:=77
abbrev jb:TypeId:=79
abbrev zz:TypeId:=81
abbrev jp:TypeId:=84
abbrev jm:TypeId:=91
abbrev za:TypeId:=93
abbrev Ke:TypeId:=99
abbrev zc:TypeId:=101
abbrev jv:TypeId:=104
abbrev qT:TypeId:=106
abbrev QS:TypeId:=116
abbrev Yc:TypeId:=120
abbrev qN:TypeId:=132
abbrev zC:TypeId:=134
abbrev Xn:TypeId:=142
abbrev zr:TypeId:=146
abbrev zq:TypeId:=150
abbrev j6:TypeId:=160
abbrev js:TypeId:=162
abbrev jr:TypeId:=163
abbrev ki:TypeId:=164
abbrev qke:TypeId:=166
abbrev zI:TypeId:=168
abbrev vz:TypeId:=176
abbrev qhn:TypeId:=177
abbrev yk:TypeId:=186
abbrev vF:TypeId:=193
abbrev q4:TypeId:=202
abbrev qh9:TypeId:=210
abbrev VV:TypeId:=229
abbrev xI:TypeId:=233
abbrev qab:TypeId:=241
abbrev qR:TypeId:=287
abbrev QE:TypeId:=290
abbrev kx:TypeId:=306
abbrev zao:TypeId:=334
abbrev ZF:TypeId:=343
abbrev jo:TypeId:=345
abbrev jh:TypeId:=365
abbrev Ji:TypeId:=399
abbrev YY:TypeId:=410
abbrev q6:TypeId:=473
abbrev Yo:Nat:=26
abbrev V0:Nat:=41
abbrev qm0:Nat:=44
abbrev Jt:Nat:=53
abbrev qum:Nat:=74
abbrev qgk:Nat:=93
abbrev qfd:Nat:=206
abbrev vy:Nat:=253
abbrev Z4:Nat:=279
abbrev ZK:Nat:=283
abbrev JT:Nat:=298
abbrev JL:Nat:=301
abbrev Ky:Nat:=307
abbrev KC:Nat:=374
abbrev qmq:Nat:=400
abbrev qpa:Nat:=402
abbrev qbt:Nat:=519
abbrev qc3:Nat:=536
abbrev YK:Nat:=538
abbrev zgp:Nat:=2
def reg (t:TypeId):Option Rep:=match t with
 | 37=>some qa.rep
 | 52=>some qI.rep
 | 67=>some kj.rep
 | 69=>some qih.rep
 | 93=>some qo.rep
 | 101=>some ye.rep
 | 104=>some qu.rep
 | 106=>some qX.rep
 | 120=>some zb.rep
 | 79=>some qD.rep
 | 45=>some qf.rep
 | 139=>some vP.rep
 | 140=>some qcu.rep
 | 142=>some qK.rep
 | 144=>some vg.rep
 | 145=>some Qg.rep
 | 150=>some qy.rep
 | 132=>some qb.rep
 | 134=>some Yh.rep
 | 116=>some Jb.rep
 | 160=>some qE.rep
 | 163=>some qE.rep
 | 164=>some qE.rep
 | 162=>some zD.rep
 | 166=>some qH.rep
 | 168=>some qj.rep
 | 202=>some qc.rep
 | 210=>some zQ.rep
 | 81=>some xb.rep
 | 84=>some XB.rep
 | 176=>some kq.rep
 | 229=>some X9.rep
 | 193=>some qs.rep
 | 246=>some XL.rep
 | 194=>some XC.rep
 | 287=>some zf.rep
 | 290=>some VB.rep
 | 313=>some qau.rep
 | 345=>some qbi.rep
 | 365=>some zd.rep
 | 385=>some vD.rep
 | 388=>some qos.rep
 | 399=>some Qe.rep
 | 410=>some jV.rep
 | 441=>some Yn.rep
 | 454=>some ZN.rep
 | 464=>some YT.rep
 | 443=>some qlj.rep
 | 480=>some yh.rep
 | 482=>some VH.rep
 | 468=>some XF.rep
 | 473=>some qh.rep
 | 498=>some XD.rep
 | 508=>some qnp.rep
 | 518=>some qir.rep
 | 520=>some qdv.rep
 | 523=>some qe2.rep
 | 545=>some qjn.rep
 | 555=>some qan.rep
 | _=>none
def q3a:List Nat:=[2,3,4,5,6,7,8,9,10,11,12,13,14,15,16,17,18,19,20,21,22,23,24,25,26,27,28,29,30,31,32,33,34,35,36,37,38,39,40,41,42,43,44,45,46,47,48,49,50,51,52,53,54,55,56,57,58,59,60,61,62,63,64,65,66,67,68,69,70,71,72,73,74,75,76,77,78,79,80,81,82,83,84,85,86,87,88,89,90,91,92,93,94,95,96,97,98,99,100,101,102,103,104,105,106,107,108,109,110,111,112,113,114,115,116,117,118,119,120,121,122,123,124,125,126,127,128,129,130,131,132,133,134,135,136,137,138,139,140,141,143,144,145,146,147,148,149,150,151,152,153,154,155,156,157,158,159,160,161,162,163,164,165,166,167,168,169,170,171,172,173,174,175,176,177,178,179,180,181,182,183,184,185,186,187,188,190,191,192,193,194,195,196,197,198,199,200,201,202,203,204,205,206,207,208,209,210,211,212,213,214,215,216,217,218,219,220,221,222,223,224,225,226,227,228,229,230,231,232,233,234,235,236,237,238,239,240,241,242,243,244,245,246,247,248,249,250,251,252,253,254,255,256,257,258,259,260,261,262,263,264,265,266,267,268,269,270,271,272,273,274,275,276,277,278,279,280,281,282,283,284,285,286,287,288,289,290,291,292,293,294,296,297,298,299,300,301,302,303,304,305,306,307,308,309,310,311,312,313,314,315,316,317,318,319,320,321,322,323,324,325,326,327,328,329,330,331,332,333,334,335,336,337,338,339,340,341,342,343,344,345,346,347,348,349,350,351,352,353,354,355,356,357,358,359,361,362,363,364,365,366,367,368,369,370,371,372,373,374,375,376,377,378,379,380,381,382,383,384,385,386,387,390,391,393,394,395,396,397,398,399,400,401,402,403,404,405,406,407,408,409,410,411,412,413,414,415,416,417,418,419,420,421,422,424,425,426,427,428,429,430,431,432,433,434,435,436,437,438,439,440,441,442,443,444,445,446,447,448,449,450,451,452,453,454,455,456,457,458,459,460,461,462,463,464,465,466,467,468,469,470,471,472,473,474,475,476,477,478,479,480,481,482,483,484,485,486,487,488,489,490,491,492,493,494,495,496,515,517,518,519,520,521,522,523,524,525,526,527,528,529,530,531,532,533,534,535,536,537,538,539,540,541,542,543,552]
noncomputable def C:Cx:={ P:=Tryz.prog,reg:=reg,plain:=λn=>q3a.elem n }
theorem C.plain_ok (g:Nat) (h:C.plain g=true):yi C.P g=true:=by
 have h':g∈q3a:=by simpa [C] using h
 have:q3a.all (λg=>yi Tryz.prog g)=true:=by kernel_rfl
 exact List.all_eq_true.1 this g h'
theorem C.mixed:C.P.follows .mixedOrders=true:=by kernel_rfl
theorem fnO {f:FuncId} {fn:Func} {ks:List Kind} {a:List Value} {w:World} {K:Go.Vc.Cur ks} {sh:Prop} (n:List Ann) (hf:C.P.funcs[f]?=some fn) (h:sh)
  (hb:fn.body=some (fn.body.getD .skip):=by rfl) (e:zfv C (fn.body.getD .skip) fn.results.toList fn.ntmps n ks a w (zcq ks K)=sh:=by kernel_rfl):qm C.P f a ks w K:=by
 rw [<-e] at h;exact qqw C.plain_ok C.mixed hf hb h
def YR (n asks:Slc)(w:World)(K:Bool->Ub):=qm PG 4 [.slice n.a n.n n.c,.slice asks.a asks.n asks.c] [Kind.bool] w K
def zR (t:Option Addr)(b:Slc)(w:World)(K:Ub):=qm PG 8 [.pointer t,.slice b.a b.n b.c] [] w K
def Zg (t:Option Addr)(w:World)(K:Option Addr->Ub):=qm PG 12 [.pointer t] [Kind.ptr] w K
def Jk (s:Option Addr)(w:World)(K:Slc->Ub):=qm PG 13 [.pointer s] [Kind.slice] w K
def qhq (w:World)(K:Bool->Ub):=qm PG 18 [] [Kind.bool] w K
def qec (c:qI)(w:World)(K:Option Addr->Int->Ub):=qm PG 19 [ag qI.rep c] [Kind.ptr,Kind.int .i64] w K
def qql (w:World)(K:qI->Ub):=qm PG 20 [] [Kind.struct qI.rep] w K
def zU (t:Option Addr)(w:World)(K:Slc->Ub):=qm PG 21 [.pointer t] [Kind.slice] w K
def vX (t:Option Addr)(w:World)(K:qa->Int->Ub):=qm PG 22 [.pointer t] [Kind.struct qa.rep,Kind.int .i64] w K
def jl (t:Option Addr)(w:World)(K:Slc->Ub):=qm PG 23 [.pointer t] [Kind.slice] w K
def X6 (l:Slc)(w:World)(K:ByteArray->Ub):=qm PG 24 [.slice l.a l.n l.c] [Kind.string] w K
def Qt (p:Option Addr)(b:Slc)(say:Value)(w:World)(K:Ub):=qm PG 25 [.pointer p,.slice b.a b.n b.c,say] [] w K
def Jg (t:Option Addr)(e:zb)(w:World)(K:Ub):=qm PG 26 [.pointer t,ag zb.rep e] [] w K
def y6 (e:Option Addr)(w:World)(K:Option Addr->Ub):=qm PG 28 [.pointer e] [Kind.ptr] w K
def kO (seq:Value)(w:World)(K:Slc->Ub):=qm PG 29 [seq] [Kind.slice] w K
def zE (m:Option Nat)(w:World)(K:Value->Ub):=qm PG 30 [.map m] [Kind.raw] w K
def xn (s:Option Addr)(id:Int)(w:World)(K:qa->Bool->Ub):=qm PG 31 [.pointer s,Ua id] [Kind.struct qa.rep,Kind.bool] w K
def zT (s:Slc)(w:World)(K:Slc->Ub):=qm PG 32 [.slice s.a s.n s.c] [Kind.slice] w K
def qe1 (c:qI)(w:World)(K:Option Addr->Int->Ub):=qm PG 35 [ag qI.rep c] [Kind.ptr,Kind.int .i64] w K
def qho (quota:Int)(w:World)(K:Option Addr->Int->Ub):=qm PG 36 [Ua quota] [Kind.ptr,Kind.int .i64] w K
def qpu (w:World)(K:Option Addr->Ub):=qm PG 37 [] [Kind.ptr] w K
def jz (s:Slc)(w:World)(K:Slc->Ub):=qm PG 38 [.slice s.a s.n s.c] [Kind.slice] w K
def qfn (s:qo)(w:World)(K:qa->Int->Ub):=qm PG 39 [ag qo.rep s] [Kind.struct qa.rep,Kind.int .i64] w K
def Jn (t:Option Addr)(image:Value)(w:World)(K:qo->Ub):=qm PG 40 [.pointer t,image] [Kind.struct qo.rep] w K
def Zd (e:Option Addr)(id:Int)(w:World)(K:qa->Bool->Ub):=qm PG 41 [.pointer e,Ua id] [Kind.struct qa.rep,Kind.bool] w K
def qe4 (f:Value)(w:World)(K:Slc->Ub):=qm PG 42 [f] [Kind.slice] w K
def yD (s:Option Addr)(w:World)(K:Option Addr->Ub):=qm PG 43 [.pointer s] [Kind.ptr] w K
def Xr (g:Option Addr)(row:Int)(w:World)(K:Slc->Bool->Ub):=qm PG 44 [.pointer g,Ua row] [Kind.slice,Kind.bool] w K
def jy (l:Slc)(w:World)(K:Slc->Ub):=qm PG 45 [.slice l.a l.n l.c] [Kind.slice] w K
def x5 (b:Option Addr)(c:Int)(w:World)(K:Value->Ub):=qm PG 46 [.pointer b,.int .u8 c] [Kind.raw] w K
def kY (b:Option Addr)(p:Slc)(w:World)(K:Int->Value->Ub):=qm PG 47 [.pointer b,.slice p.a p.n p.c] [Kind.int .i64,Kind.raw] w K
def qek (l:Slc)(w:World)(K:Slc->Ub):=qm PG 48 [.slice l.a l.n l.c] [Kind.slice] w K
def Qn (s cutset:ByteArray)(w:World)(K:ByteArray->Ub):=qm PG 49 [.string s,.string cutset] [Kind.string] w K
def kI (b:Option Addr)(w:World)(K:ByteArray->Ub):=qm PG 50 [.pointer b] [Kind.string] w K
def Zp (p:Option Addr)(b:Slc)(w:World)(K:Int->Ub):=qm PG 51 [.pointer p,.slice b.a b.n b.c] [Kind.int .i64] w K
def Qs (p:Option Addr)(c:Int)(w:World)(K:Ub):=qm PG 52 [.pointer p,.int .u8 c] [] w K
def qpv (clear:Bool)(most:Int)(w:World)(K:Option Addr->Int->Ub):=qm PG 54 [.bool clear,Ua most] [Kind.ptr,Kind.int .i64] w K
def qo1 (t:Option Addr)(b:Slc)(w:World)(K:Ub):=qm PG 55 [.pointer t,.slice b.a b.n b.c] [] w K
def qmn (t:Option Addr)(ok:Bool)(w:World)(K:Ub):=qm PG 56 [.pointer t,.bool ok] [] w K
def KL (t:Option Addr)(b:Slc)(w:World)(K:Ub):=qm PG 57 [.pointer t,.slice b.a b.n b.c] [] w K
def Xw (t:Option Addr)(ok:Bool)(w:World)(K:Ub):=qm PG 58 [.pointer t,.bool ok] [] w K
def qh0 (e:Option Addr)(w:World)(K:Ub):=qm PG 59 [.pointer e] [] w K
def Zf (s:Option Addr)(e:zb)(w:World)(K:Slc->Ub):=qm PG 60 [.pointer s,ag zb.rep e] [Kind.slice] w K
def zy (t:Option Addr)(w:World)(K:Ub):=qm PG 61 [.pointer t] [] w K
def Zb (s:Option Addr)(w:World)(K:Option Addr->Ub):=qm PG 63 [.pointer s] [Kind.ptr] w K
def XQ (seq:Value)(w:World)(K:Slc->Ub):=qm PG 64 [seq] [Kind.slice] w K
def Ys (c:qI)(w:World)(K:Int->Ub):=qm PG 68 [ag qI.rep c] [Kind.int .i64] w K
def qed (rows cols back:Int)(w:World)(K:Option Addr->Int->Ub):=qm PG 69 [Ua rows,Ua cols,Ua back] [Kind.ptr,Kind.int .i64] w K
def vZ (s:Option Addr)(w:World)(K:Ub):=qm PG 70 [.pointer s] [] w K
def qg4 (quota:Int)(w:World)(K:Option Addr->Int->Ub):=qm PG 71 [Ua quota] [Kind.ptr,Kind.int .i64] w K
def qqc (w:World)(K:Option Addr->Ub):=qm PG 72 [] [Kind.ptr] w K
def qwk (w:World)(K:Option Addr->Ub):=qm PG 73 [] [Kind.ptr] w K
def zH (v lo hi:Int)(w:World)(K:Bool->Ub):=qm PG 75 [Ua v,Ua lo,Ua hi] [Kind.bool] w K
def qao (wx hx:Int)(w:World)(K:qa->Int->Ub):=qm PG 76 [Ua wx,Ua hx] [Kind.struct qa.rep,Kind.int .i64] w K
def KU (m:qa)(l:Slc)(w:World)(K:qa->Ub):=qm PG 77 [ag qa.rep m,.slice l.a l.n l.c] [Kind.struct qa.rep] w K
def kZ (t:Option Addr)(w:World)(K:qj->Ub):=qm PG 78 [.pointer t] [Kind.struct qj.rep] w K
def zg (e:Option Addr)(v:qH)(w:World)(K:Slc->Ub):=qm PG 79 [.pointer e,ag qH.rep v] [Kind.slice] w K
def X0 (t:Option Addr)(n:Int)(private_:Bool)(w:World)(K:Bool->Ub):=qm PG 80 [.pointer t,Ua n,.bool private_] [Kind.bool] w K
def zV (s:Option Addr)(w:World)(K:Option Addr->Ub):=qm PG 81 [.pointer s] [Kind.ptr] w K
def X5 (g:Option Addr)(w:World)(K:Option Addr->Ub):=qm PG 82 [.pointer g] [Kind.ptr] w K
def yx (g:Option Addr)(row:Int)(w:World)(K:Bool->Ub):=qm PG 83 [.pointer g,Ua row] [Kind.bool] w K
def zP (s:Slc)(w:World)(K:Slc->Ub):=qm PG 84 [.slice s.a s.n s.c] [Kind.slice] w K
def vb (l:Slc)(col:Int)(w:World)(K:Bool->Ub):=qm PG 85 [.slice l.a l.n l.c,Ua col] [Kind.bool] w K
def j9 (b:Option Addr)(w:World)(K:Ub):=qm PG 86 [.pointer b] [] w K
def qg6 (r:Int)(w:World)(K:Bool->Ub):=qm PG 87 [.int .i32 r] [Kind.bool] w K
def kV (s:ByteArray)(c:Int)(w:World)(K:ByteArray->Ub):=qm PG 88 [.string s,.int .u8 c] [Kind.string] w K
def vI (s:Slc)(f:Value)(w:World)(K:Int->Ub):=qm PG 92 [.slice s.a s.n s.c,f] [Kind.int .i64] w K
def KG (c:Int)(w:World)(K:Bool->Ub):=qm PG 93 [.int .u8 c] [Kind.bool] w K
def jT (p:Option Addr)(l:Slc)(w:World)(K:Ub):=qm PG 94 [.pointer p,.slice l.a l.n l.c] [] w K
def yK (p:Option Addr)(c:Int)(w:World)(K:Ub):=qm PG 95 [.pointer p,.int .u8 c] [] w K
def y8 (p:Option Addr)(c:Int)(w:World)(K:Ub):=qm PG 96 [.pointer p,.int .u8 c] [] w K
def je (p:Option Addr)(l:Slc)(w:World)(K:Ub):=qm PG 97 [.pointer p,.slice l.a l.n l.c] [] w K
def k8 (d:Option Addr)(w:World)(K:Slc->Ub):=qm PG 98 [.pointer d] [Kind.slice] w K
def xe (p:Option Addr)(b:Int)(w:World)(K:Ub):=qm PG 99 [.pointer p,.int .u8 b] [] w K
def jx (p:Option Addr)(state:Int)(w:World)(K:Ub):=qm PG 100 [.pointer p,Ua state] [] w K
def vw (e:Option Addr)(n:Int)(w:World)(K:Int->Ub):=qm PG 104 [.pointer e,Ua n] [Kind.int .i64] w K
def jw (s:Option Addr)(rows cols:Int)(w:World)(K:Ub):=qm PG 108 [.pointer s,Ua rows,Ua cols] [] w K
def xk (e:Option Addr)(command:Slc)(v:qj)(w:World)(K:qc->Ub):=qm PG 109 [.pointer e,.slice command.a command.n command.c,ag qj.rep v] [Kind.struct qc.rep] w K
def vW (s:Option Addr)(r:Int)(w:World)(K:Ub):=qm PG 110 [.pointer s,.int .i32 r] [] w K
def qb1 (s:Option Addr)(c:Int)(w:World)(K:Ub):=qm PG 111 [.pointer s,.int .u8 c] [] w K
def qfe (s:Option Addr)(inter:ByteArray)(c:Int)(w:World)(K:Ub):=qm PG 112 [.pointer s,.string inter,.int .u8 c] [] w K
def kF (s:Option Addr)(e:zb)(w:World)(K:Slc->Ub):=qm PG 113 [.pointer s,ag zb.rep e] [Kind.slice] w K
def vl (s:Option Addr)(w:World)(K:Slc->Ub):=qm PG 114 [.pointer s] [Kind.slice] w K
def qix (e:Option Addr)(alt:Bool)(line rows from_ to:Int)(w:World)(K:Ub):=qm PG 115 [.pointer e,.bool alt,Ua line,Ua rows,Ua from_,Ua to] [] w K
def vA (s:Option Addr)(w:World)(K:Int->Int->Ub):=qm PG 116 [.pointer s] [Kind.int .i64,Kind.int .i64] w K
def kw (e:Option Addr)(alt:Bool)(first:Int)(w:World)(K:Ub):=qm PG 117 [.pointer e,.bool alt,Ua first] [] w K
def zB (m:Option Nat)(w:World)(K:Option Nat->Ub):=qm PG 119 [.map m] [Kind.map] w K
def zS (v lo hi:Int)(w:World)(K:Bool->Ub):=qm PG 123 [Ua v,Ua lo,Ua hi] [Kind.bool] w K
def qap (n:Int)(w:World)(K:Bool->Ub):=qm PG 124 [Ua n] [Kind.bool] w K
def yA (most:Int)(w:World)(K:Option Addr->Int->Ub):=qm PG 125 [Ua most] [Kind.ptr,Kind.int .i64] w K
def ZH (g:Option Addr)(a:qu)(w:World)(K:Ub):=qm PG 126 [.pointer g,ag qu.rep a] [] w K
def zZ (s:Option Addr)(w:World)(K:Int->Int->Ub):=qm PG 127 [.pointer s] [Kind.int .i64,Kind.int .i64] w K
def qlc (cols:Int)(w:World)(K:Option Addr->Int->Ub):=qm PG 128 [Ua cols] [Kind.ptr,Kind.int .i64] w K
def YA (w:World)(K:qK->Ub):=qm PG 129 [] [Kind.struct qK.rep] w K
def JC (s:Option Addr)(w:World)(K:Ub):=qm PG 130 [.pointer s] [] w K
def Jo (wx hx:Int)(w:World)(K:Bool->Ub):=qm PG 131 [Ua wx,Ua hx] [Kind.bool] w K
def kC (l:Value)(w:World)(K:ByteArray->Ub):=qm PG 132 [l] [Kind.string] w K
def yu (s:Option Addr)(w:World)(K:Int->Int->Ub):=qm PG 133 [.pointer s] [Kind.int .i64,Kind.int .i64] w K
def vp (s:Option Addr)(w:World)(K:qK->Ub):=qm PG 134 [.pointer s] [Kind.struct qK.rep] w K
def kM (s:Option Addr)(w:World)(K:Bool->Ub):=qm PG 135 [.pointer s] [Kind.bool] w K
def Q3 (s:Option Addr)(w:World)(K:Int->Ub):=qm PG 136 [.pointer s] [Kind.int .i64] w K
def Vx (t:Option Addr)(v:qH)(w:World)(K:Slc->Ub):=qm PG 137 [.pointer t,ag qH.rep v] [Kind.slice] w K
def yv (s:Option Addr)(n:Int)(private_:Bool)(w:World)(K:Bool->Bool->Ub):=qm PG 138 [.pointer s,Ua n,.bool private_] [Kind.bool,Kind.bool] w K
def yB (r:Option Addr)(w:World)(K:Option Addr->Ub):=qm PG 139 [.pointer r] [Kind.ptr] w K
def zL (s:Slc)(w:World)(K:Slc->Ub):=qm PG 140 [.slice s.a s.n s.c] [Kind.slice] w K
def ZP (l:Slc)(col kind:Int)(w:World)(K:Bool->Ub):=qm PG 141 [.slice l.a l.n l.c,Ua col,Ua kind] [Kind.bool] w K
def kP (p:Option Addr)(w:World)(K:Ub):=qm PG 146 [.pointer p] [] w K
def xm (p:Option Addr)(c:Int)(w:World)(K:Ub):=qm PG 147 [.pointer p,.int .u8 c] [] w K
def ve (p:Option Addr)(c:Int)(w:World)(K:Ub):=qm PG 148 [.pointer p,.int .u8 c] [] w K
def xX (p:Option Addr)(c:Int)(w:World)(K:Ub):=qm PG 149 [.pointer p,.int .u8 c] [] w K
def yc (p:Option Addr)(c:Int)(w:World)(K:Ub):=qm PG 150 [.pointer p,.int .u8 c] [] w K
def Va (d:Option Addr)(w:World)(K:Bool->Ub):=qm PG 151 [.pointer d] [Kind.bool] w K
def vR (s:Option Addr)(n:Int)(w:World)(K:Slc->Int->Ub):=qm PG 154 [.pointer s,Ua n] [Kind.slice,Kind.int .i64] w K
def Qp (e:Option Addr)(w:World)(K:Int->Ub):=qm PG 155 [.pointer e] [Kind.int .i64] w K
def kS (e:Option Addr)(ids:Slc)(w:World)(K:Ub):=qm PG 156 [.pointer e,.slice ids.a ids.n ids.c] [] w K
def ZX (s:Option Addr)(id number:Int)(m:qa)(w:World)(K:Int->Slc->Int->Ub):=qm PG 158 [.pointer s,Ua id,Ua number,ag qa.rep m] [Kind.int .i64,Kind.slice,Kind.int .i64] w K
def kr (e:Option Addr)(k:qb)(id:Int)(v:qj)(w:World)(K:qc->Bool->Ub):=qm PG 159 [.pointer e,ag qb.rep k,Ua id,ag qj.rep v] [Kind.struct qc.rep,Kind.bool] w K
def qd8 (w:World)(K:qb->Ub):=qm PG 160 [] [Kind.struct qb.rep] w K
def jU (s:Option Addr)(w:World)(K:Ub):=qm PG 161 [.pointer s] [] w K
def jW (s:Option Addr)(row col:Int)(w:World)(K:Ub):=qm PG 162 [.pointer s,Ua row,Ua col] [] w K
def qei (b:Slc)(w:World)(K:Slc->Slc->Ub):=qm PG 163 [.slice b.a b.n b.c] [Kind.slice,Kind.slice] w K
def qex (b:Slc)(w:World)(K:qb->Int->Ub):=qm PG 164 [.slice b.a b.n b.c] [Kind.struct qb.rep,Kind.int .i64] w K
def kL (e:Option Addr)(k:qb)(text:Slc)(v:qj)(w:World)(K:qc->Ub):=qm PG 165 [.pointer e,ag qb.rep k,.slice text.a text.n text.c,ag qj.rep v] [Kind.struct qc.rep] w K
def xq (e:Option Addr)(w:World)(K:Ub):=qm PG 166 [.pointer e] [] w K
def y9 (e:Option Addr)(k:qb)(text:Slc)(v:qj)(w:World)(K:qc->Ub):=qm PG 167 [.pointer e,ag qb.rep k,.slice text.a text.n text.c,ag qj.rep v] [Kind.struct qc.rep] w K
def Q6 (e:Option Addr)(k:qb)(v:qj)(w:World)(K:qc->Ub):=qm PG 168 [.pointer e,ag qb.rep k,ag qj.rep v] [Kind.struct qc.rep] w K
def qga (e:Option Addr)(k:qb)(v:qj)(w:World)(K:Ub):=qm PG 169 [.pointer e,ag qb.rep k,ag qj.rep v] [] w K
def zu (e:Option Addr)(k:qb)(x:Int)(word:ByteArray)(w:World)(K:qc->Ub):=qm PG 170 [.pointer e,ag qb.rep k,Ua x,.string word] [Kind.struct qc.rep] w K
def qbm (set b:Int)(w:World)(K:Int->Ub):=qm PG 171 [.int .u8 set,.int .u8 b] [Kind.int .i32] w K
def kR (s:Option Addr)(r:Int)(w:World)(K:Ub):=qm PG 172 [.pointer s,.int .i32 r] [] w K
def yj (p:Slc)(i none_:Int)(w:World)(K:Int->Ub):=qm PG 176 [.slice p.a p.n p.c,Ua i,Ua none_] [Kind.int .i64] w K
def qig (s:Option Addr)(w:World)(K:Ub):=qm PG 177 [.pointer s] [] w K
def qhi (s:Option Addr)(n:Int)(on:Bool)(w:World)(K:Ub):=qm PG 178 [.pointer s,Ua n,.bool on] [] w K
def xg (s:ByteArray)(w:World)(K:Slc->Ub):=qm PG 179 [.string s] [Kind.slice] w K
def xW (s:Option Addr)(w:World)(K:ByteArray->Ub):=qm PG 180 [.pointer s] [Kind.string] w K
def kU (i:Int)(w:World)(K:ByteArray->Ub):=qm PG 181 [Ua i] [Kind.string] w K
def qgd (s:Option Addr)(n:Int)(w:World)(K:Int->Ub):=qm PG 182 [.pointer s,Ua n] [Kind.int .i64] w K
def yG (s:Option Addr)(p:Slc)(c:Int)(w:World)(K:Slc->Ub):=qm PG 183 [.pointer s,.slice p.a p.n p.c,.int .u8 c] [Kind.slice] w K
def yl (e:Option Addr)(l:Slc)(w:World)(K:Ub):=qm PG 184 [.pointer e,.slice l.a l.n l.c] [] w K
def ZC (g:Option Addr)(w:World)(K:Int->Ub):=qm PG 186 [.pointer g] [Kind.int .i64] w K
def QV (g:Option Addr)(w:World)(K:Int->Ub):=qm PG 187 [.pointer g] [Kind.int .i64] w K
def Q4 (t:Option Addr)(alt:Bool)(first:Int)(w:World)(K:Slc->Ub):=qm PG 188 [.pointer t,.bool alt,Ua first] [Kind.slice] w K
def xM (g:Option Addr)(n:Int)(a:qu)(w:World)(K:Slc->Ub):=qm PG 201 [.pointer g,Ua n,ag qu.rep a] [Kind.slice] w K
def X4 (g:Option Addr)(w:World)(K:Int->Int->Ub):=qm PG 202 [.pointer g] [Kind.int .i64,Kind.int .i64] w K
def Qo (s:Option Addr)(cols:Int)(w:World)(K:Int->Ub):=qm PG 203 [.pointer s,Ua cols] [Kind.int .i64] w K
def Q2 (p:qf)(line rows from_ past:Int)(w:World)(K:Bool->Ub):=qm PG 204 [ag qf.rep p,Ua line,Ua rows,Ua from_,Ua past] [Kind.bool] w K
def zF (x:Slc)(cmp:Value)(w:World)(K:Ub):=qm PG 205 [.slice x.a x.n x.c,cmp] [] w K
def xl (c:Int)(w:World)(K:Bool->Ub):=qm PG 210 [.int .u8 c] [Kind.bool] w K
def Vu (p:Option Addr)(c:Int)(w:World)(K:Ub):=qm PG 211 [.pointer p,.int .u8 c] [] w K
def kK (p:Option Addr)(c:Int)(w:World)(K:Ub):=qm PG 212 [.pointer p,.int .u8 c] [] w K
def y4 (p:Option Addr)(c:Int)(w:World)(K:Bool->Ub):=qm PG 213 [.pointer p,.int .u8 c] [Kind.bool] w K
def Ju (d:Option Addr)(b:Int)(w:World)(K:Slc->Ub):=qm PG 214 [.pointer d,.int .u8 b] [Kind.slice] w K
def kQ (p:Option Addr)(w:World)(K:Ub):=qm PG 215 [.pointer p] [] w K
def yp (p:Option Addr)(c:Int)(w:World)(K:Ub):=qm PG 216 [.pointer p,.int .u8 c] [] w K
def vu (s:Option Addr)(n:Int)(w:World)(K:Slc->Ub):=qm PG 219 [.pointer s,Ua n] [Kind.slice] w K
def Za (l:Option Addr)(w:World)(K:Int->Ub):=qm PG 220 [.pointer l] [Kind.int .i64] w K
def Zl (t:Option Addr)(image:Int)(w:World)(K:Int->Ub):=qm PG 221 [.pointer t,Ua image] [Kind.int .i64] w K
def kH (m:qa)(w:World)(K:Bool->Ub):=qm PG 225 [ag qa.rep m] [Kind.bool] w K
def Qc (n:Int)(w:World)(K:Bool->Ub):=qm PG 226 [Ua n] [Kind.bool] w K
def xV (s:Option Addr)(w:World)(K:Ub):=qm PG 227 [.pointer s] [] w K
def xF (s:Option Addr)(id:Int)(w:World)(K:Bool->Ub):=qm PG 228 [.pointer s,Ua id] [Kind.bool] w K
def X1 (s:Option Addr)(id:Int)(w:World)(K:Bool->Ub):=qm PG 229 [.pointer s,Ua id] [Kind.bool] w K
def ym (e:Option Addr)(k:qb)(id:Int)(v:qj)(w:World)(K:qf->Int->Ub):=qm PG 230 [.pointer e,ag qb.rep k,Ua id,ag qj.rep v] [Kind.struct qf.rep,Kind.int .i64] w K
def Jl (t:Option Addr)(p:qf)(w:World)(K:Int->Ub):=qm PG 231 [.pointer t,ag qf.rep p] [Kind.int .i64] w K
def jX (g:Option Addr)(top past n:Int)(a:qu)(w:World)(K:Int->Ub):=qm PG 232 [.pointer g,Ua top,Ua past,Ua n,ag qu.rep a] [Kind.int .i64] w K
def jS (s:Option Addr)(w:World)(K:qu->Ub):=qm PG 233 [.pointer s] [Kind.struct qu.rep] w K
def VC (v lo hi:Int)(w:World)(K:Int->Ub):=qm PG 234 [Ua v,Ua lo,Ua hi] [Kind.int .i64] w K
def qi1 (s sep:Slc)(w:World)(K:Slc->Slc->Bool->Ub):=qm PG 235 [.slice s.a s.n s.c,.slice sep.a sep.n sep.c] [Kind.slice,Kind.slice,Kind.bool] w K
def Q9 (b:Slc)(w:World)(K:Slc->Ub):=qm PG 236 [.slice b.a b.n b.c] [Kind.slice] w K
def KV (s sep:ByteArray)(w:World)(K:Slc->Ub):=qm PG 237 [.string s,.string sep] [Kind.slice] w K
def KN (k:Option Addr)(s:ByteArray)(w:World)(K:Bool->Ub):=qm PG 238 [.pointer k,.string s] [Kind.bool] w K
def Jr (l:Option Addr)(text:Slc)(w:World)(K:Int->Ub):=qm PG 239 [.pointer l,.slice text.a text.n text.c] [Kind.int .i64] w K
def Zn (e:Option Addr)(k:qb)(v:qj)(w:World)(K:qc->Ub):=qm PG 240 [.pointer e,ag qb.rep k,ag qj.rep v] [Kind.struct qc.rep] w K
def qln (k:qb)(room:Int)(w:World)(K:Option Addr->Int->Ub):=qm PG 241 [ag qb.rep k,Ua room] [Kind.ptr,Kind.int .i64] w K
def yH (e:Option Addr)(k:qb)(w:World)(K:Int->Bool->Ub):=qm PG 242 [.pointer e,ag qb.rep k] [Kind.int .i64,Kind.bool] w K
def Jh (s:Option Addr)(id:Int)(w:World)(K:Bool->Ub):=qm PG 243 [.pointer s,Ua id] [Kind.bool] w K
def yP (s:Option Addr)(n:Int)(w:World)(K:Int->Bool->Ub):=qm PG 244 [.pointer s,Ua n] [Kind.int .i64,Kind.bool] w K
def yC (e:Option Addr)(ids:Slc)(goes:Value)(w:World)(K:Ub):=qm PG 246 [.pointer e,.slice ids.a ids.n ids.c,goes] [] w K
def qpr (e:Int)(w:World)(K:ByteArray->Ub):=qm PG 248 [Ua e] [Kind.string] w K
def qd6 (k:qb)(word:ByteArray)(w:World)(K:Slc->Ub):=qm PG 249 [ag qb.rep k,.string word] [Kind.slice] w K
def qq1 (w:World)(K:Slc->Ub):=qm PG 250 [] [Kind.slice] w K
def qiu (r:Int)(w:World)(K:Int->Ub):=qm PG 251 [.int .i32 r] [Kind.int .i64] w K
def Zj (g:Option Addr)(row:Int)(f:Value)(w:World)(K:Bool->Ub):=qm PG 252 [.pointer g,Ua row,f] [Kind.bool] w K
def Jy (l:Slc)(c0 c1 c2:Addr)(w:World)(K:Slc->Ub):=qm PG 253 [.slice l.a l.n l.c,.pointer (some c0),.pointer (some c1),.pointer (some c2)] [Kind.slice] w K
def QW (l:Slc)(col n:Int)(a:qu)(w:World)(K:Slc->Ub):=qm PG 254 [.slice l.a l.n l.c,Ua col,Ua n,ag qu.rep a] [Kind.slice] w K
def KT (l:Slc)(col r width:Int)(a:qu)(w:World)(K:Slc->Bool->Ub):=qm PG 255 [.slice l.a l.n l.c,Ua col,.int .i32 r,Ua width,ag qu.rep a] [Kind.slice,Kind.bool] w K
def Xq (s:Option Addr)(w:World)(K:Slc->Ub):=qm PG 258 [.pointer s] [Kind.slice] w K
def qlu (cols:Int)(a:qu)(w:World)(K:Slc->Ub):=qm PG 259 [Ua cols,ag qu.rep a] [Kind.slice] w K
def qhf (s:Option Addr)(w:World)(K:Ub):=qm PG 263 [.pointer s] [] w K
def qcs (s:Option Addr)(w:World)(K:Ub):=qm PG 264 [.pointer s] [] w K
def qyp (a:qu)(params:Slc)(w:World)(K:qu->Ub):=qm PG 269 [ag qu.rep a,.slice params.a params.n params.c] [Kind.struct qu.rep] w K
def qch (s:Option Addr)(p:Slc)(w:World)(K:Ub):=qm PG 270 [.pointer s,.slice p.a p.n p.c] [] w K
def qll (s:Option Addr)(col:Int)(w:World)(K:Bool->Ub):=qm PG 271 [.pointer s,Ua col] [Kind.bool] w K
def qn7 (s:Option Addr)(w:World)(K:Ub):=qm PG 272 [.pointer s] [] w K
def qgg (s:Option Addr)(n:Int)(w:World)(K:Ub):=qm PG 273 [.pointer s,Ua n] [] w K
def qb4 (s:Option Addr)(how:Int)(w:World)(K:Ub):=qm PG 274 [.pointer s,Ua how] [] w K
def qd3 (s:Option Addr)(how:Int)(w:World)(K:Ub):=qm PG 275 [.pointer s,Ua how] [] w K
def vS (s:Option Addr)(c n:Int)(w:World)(K:Ub):=qm PG 276 [.pointer s,.int .u8 c,Ua n] [] w K
def Jz (s:Option Addr)(c n:Int)(w:World)(K:Ub):=qm PG 277 [.pointer s,.int .u8 c,Ua n] [] w K
def qh3 (s:Option Addr)(p:Slc)(c n:Int)(w:World)(K:Ub):=qm PG 278 [.pointer s,.slice p.a p.n p.c,.int .u8 c,Ua n] [] w K
def ZQ (id:Int)(w:World)(K:Bool->Ub):=qm PG 279 [Ua id] [Kind.bool] w K
def xR (t:Option Addr)(goes:Value)(w:World)(K:Slc->Ub):=qm PG 280 [.pointer t,goes] [Kind.slice] w K
def Xu (g:Option Addr)(w:World)(K:Int->Ub):=qm PG 282 [.pointer g] [Kind.int .i64] w K
def JG (p:qf)(c0 c1:Addr)(w:World)(K:Bool->Ub):=qm PG 283 [ag qf.rep p,.pointer (some c0),.pointer (some c1)] [Kind.bool] w K
def xU (data:Slc)(n:Int)(cmp:Value)(w:World)(K:Ub):=qm PG 290 [.slice data.a data.n data.c,Ua n,cmp] [] w K
def xo (s:ByteArray)(c:Int)(w:World)(K:Int->Ub):=qm PG 292 [.string s,.int .u8 c] [Kind.int .i64] w K
def VY (n:Int)(w:World)(K:Int->Ub):=qm PG 294 [Ua n] [Kind.int .i64] w K
def Qw (d:Option Addr)(b:Int)(w:World)(K:Slc->Ub):=qm PG 296 [.pointer d,.int .u8 b] [Kind.slice] w K
def x7 (s:Slc)(w:World)(K:Slc->Ub):=qm PG 297 [.slice s.a s.n s.c] [Kind.slice] w K
def yO (a b:Int)(c0:Addr)(w:World)(K:Int->Ub):=qm PG 298 [Ua a,Ua b,.pointer (some c0)] [Kind.int .i64] w K
def kN (x y:Int)(w:World)(K:Int->Ub):=qm PG 299 [Ua x,Ua y] [Kind.int .i64] w K
def kG (x:Slc)(cmp:Value)(w:World)(K:Int->Ub):=qm PG 300 [.slice x.a x.n x.c,cmp] [Kind.int .i64] w K
def XZ (p:qf)(c0:Addr)(w:World)(K:Bool->Ub):=qm PG 301 [ag qf.rep p,.pointer (some c0)] [Kind.bool] w K
def V7 (at_ n side:Int)(w:World)(K:Int->Ub):=qm PG 303 [Ua at_,Ua n,Ua side] [Kind.int .i64] w K
def XA (wx hx dx dy cw ch:Int)(w:World)(K:Int->Int->Ub):=qm PG 304 [Ua wx,Ua hx,Ua dx,Ua dy,Ua cw,Ua ch] [Kind.int .i64,Kind.int .i64] w K
def jt (v lo hi:Int)(w:World)(K:Bool->Ub):=qm PG 305 [Ua v,Ua lo,Ua hi] [Kind.bool] w K
def qg1 (p:qf)(w:World)(K:Bool->Ub):=qm PG 306 [ag qf.rep p] [Kind.bool] w K
def Vg (o:qf)(c0:Addr)(w:World)(K:Bool->Ub):=qm PG 307 [ag qf.rep o,.pointer (some c0)] [Kind.bool] w K
def zv (slices:Slc)(w:World)(K:Slc->Ub):=qm PG 308 [.slice slices.a slices.n slices.c] [Kind.slice] w K
def jF (r:Option Addr)(t:Slc)(w:World)(K:Slc->Bool->Ub):=qm PG 309 [.pointer r,.slice t.a t.n t.c] [Kind.slice,Kind.bool] w K
def qbb (s sep:Slc)(w:World)(K:Int->Ub):=qm PG 310 [.slice s.a s.n s.c,.slice sep.a sep.n sep.c] [Kind.int .i64] w K
def Y0 (s sep:ByteArray)(sepSave n:Int)(w:World)(K:Slc->Ub):=qm PG 311 [.string s,.string sep,Ua sepSave,Ua n] [Kind.slice] w K
def qff (s:ByteArray)(w:World)(K:Int->Bool->Ub):=qm PG 312 [.string s] [Kind.int .i64,Kind.bool] w K
def yR (k:Option Addr)(c:Int)(w:World)(K:Option Addr->Ub):=qm PG 313 [.pointer k,.int .u8 c] [Kind.ptr] w K
def Yv (c:Int)(w:World)(K:Bool->Ub):=qm PG 314 [.int .u8 c] [Kind.bool] w K
def vo (k:Option Addr)(c:Int)(w:World)(K:Option Addr->Ub):=qm PG 315 [.pointer k,.int .u8 c] [Kind.ptr] w K
def YW (s:ByteArray)(w:World)(K:Int->Bool->Ub):=qm PG 316 [.string s] [Kind.int .i64,Kind.bool] w K
def y5 (d:Option Addr)(c:Int)(w:World)(K:Slc->Int->Ub):=qm PG 317 [.pointer d,.int .u8 c] [Kind.slice,Kind.int .i64] w K
def xS (l:Option Addr)(b:Slc)(w:World)(K:Int->Ub):=qm PG 318 [.pointer l,.slice b.a b.n b.c] [Kind.int .i64] w K
def ja (l:Option Addr)(e:Int)(w:World)(K:Ub):=qm PG 319 [.pointer l,Ua e] [] w K
def ZZ (l:Option Addr)(w:World)(K:qa->Int->Ub):=qm PG 320 [.pointer l] [Kind.struct qa.rep,Kind.int .i64] w K
def Qy (e:Option Addr)(k:qb)(m:qa)(v:qj)(w:World)(K:qc->Ub):=qm PG 321 [.pointer e,ag qb.rep k,ag qa.rep m,ag qj.rep v] [Kind.struct qc.rep] w K
def qet (k:qb)(w:World)(K:Int->Int->Ub):=qm PG 322 [ag qb.rep k] [Kind.int .i64,Kind.int .i64] w K
def Vi (w:World)(K:Option Addr->Ub):=qm PG 323 [] [Kind.ptr] w K
def ZT (t:Option Addr)(image:Int)(w:World)(K:Bool->Ub):=qm PG 326 [.pointer t,Ua image] [Kind.bool] w K
def qh6 (elems:Slc)(sep:ByteArray)(w:World)(K:ByteArray->Ub):=qm PG 327 [.slice elems.a elems.n elems.c,.string sep] [Kind.string] w K
def qnc (r:Int)(l:Slc)(w:World)(K:Bool->Ub):=qm PG 328 [.int .i32 r,.slice l.a l.n l.c] [Kind.bool] w K
def qlv (w:World)(K:Slc->Ub):=qm PG 329 [] [Kind.slice] w K
def ql2 (w:World)(K:Slc->Ub):=qm PG 330 [] [Kind.slice] w K
def QZ (l:Slc)(cols:Int)(w:World)(K:Slc->Ub):=qm PG 331 [.slice l.a l.n l.c,Ua cols] [Kind.slice] w K
def Xm (l:Slc)(col n:Int)(w:World)(K:Int->Ub):=qm PG 332 [.slice l.a l.n l.c,Ua col,Ua n] [Kind.int .i64] w K
def zM (slices:Slc)(w:World)(K:Slc->Ub):=qm PG 333 [.slice slices.a slices.n slices.c] [Kind.slice] w K
def QH (n:Int)(a:qu)(w:World)(K:Slc->Ub):=qm PG 334 [Ua n,ag qu.rep a] [Kind.slice] w K
def Ze (l:Slc)(from_ to:Int)(w:World)(K:Slc->Ub):=qm PG 335 [.slice l.a l.n l.c,Ua from_,Ua to] [Kind.slice] w K
def kd (m:Option Nat)(w:World)(K:Value->Ub):=qm PG 336 [.map m] [Kind.raw] w K
def kg (r:Option Addr)(w:World)(K:Int->Ub):=qm PG 348 [.pointer r] [Kind.int .i64] w K
def zO (data:Slc)(a b:Int)(cmp:Value)(w:World)(K:Ub):=qm PG 350 [.slice data.a data.n data.c,Ua a,Ua b,cmp] [] w K
def xp (data:Slc)(a m b:Int)(cmp:Value)(w:World)(K:Ub):=qm PG 351 [.slice data.a data.n data.c,Ua a,Ua m,Ua b,cmp] [] w K
def ZW (x:Int)(w:World)(K:Bool->Ub):=qm PG 353 [Ua x] [Kind.bool] w K
def XK (n more size:Int)(w:World)(K:Int->Ub):=qm PG 354 [Ua n,Ua more,Ua size] [Kind.int .i64] w K
def zN (v lo hi:Int)(w:World)(K:Bool->Ub):=qm PG 355 [Ua v,Ua lo,Ua hi] [Kind.bool] w K
def jB (s:Slc)(n:Int)(w:World)(K:Slc->Ub):=qm PG 356 [.slice s.a s.n s.c,Ua n] [Kind.slice] w K
def xL (r:Option Addr)(w:World)(K:Ub):=qm PG 357 [.pointer r] [] w K
def ZM (b:Slc)(c:Int)(w:World)(K:Int->Ub):=qm PG 358 [.slice b.a b.n b.c,.int .u8 c] [Kind.int .i64] w K
def qbn (a b:Slc)(w:World)(K:Bool->Ub):=qm PG 359 [.slice a.a a.n a.c,.slice b.a b.n b.c] [Kind.bool] w K
def yM (s sep:Slc)(w:World)(K:Int->Ub):=qm PG 361 [.slice s.a s.n s.c,.slice sep.a sep.n sep.c] [Kind.int .i64] w K
def qn8 (s:ByteArray)(n:Int)(w:World)(K:Slc->Ub):=qm PG 362 [.string s,Ua n] [Kind.slice] w K
def qfr (s substr:ByteArray)(w:World)(K:Int->Ub):=qm PG 363 [.string s,.string substr] [Kind.int .i64] w K
def qfw (s substr:ByteArray)(w:World)(K:Int->Ub):=qm PG 364 [.string s,.string substr] [Kind.int .i64] w K
def Qv (s prefix_:ByteArray)(w:World)(K:ByteArray->Bool->Ub):=qm PG 365 [.string s,.string prefix_] [Kind.string,Kind.bool] w K
def yF (d:Option Addr)(c:Int)(w:World)(K:Slc->Bool->Ub):=qm PG 366 [.pointer d,.int .u8 c] [Kind.slice,Kind.bool] w K
def Zh (l:Option Addr)(w:World)(K:Ub):=qm PG 367 [.pointer l] [] w K
def y7 (d:Option Addr)(w:World)(K:Slc->Int->Ub):=qm PG 368 [.pointer d] [Kind.slice,Kind.int .i64] w K
def jR (slices:Slc)(w:World)(K:Slc->Ub):=qm PG 369 [.slice slices.a slices.n slices.c] [Kind.slice] w K
def qi5 (l:Option Addr)(b:Slc)(w:World)(K:Slc->Int->Ub):=qm PG 370 [.pointer l,.slice b.a b.n b.c] [Kind.slice,Kind.int .i64] w K
def Qr (l:Option Addr)(b:Slc)(w:World)(K:qa->Int->Ub):=qm PG 371 [.pointer l,.slice b.a b.n b.c] [Kind.struct qa.rep,Kind.int .i64] w K
def XH (n:Int)(w:World)(K:Bool->Ub):=qm PG 372 [Ua n] [Kind.bool] w K
def ju (s:Slc)(f:Value)(w:World)(K:Bool->Ub):=qm PG 373 [.slice s.a s.n s.c,f] [Kind.bool] w K
def Vs (p:qf)(c0:Addr)(w:World)(K:Bool->Ub):=qm PG 374 [ag qf.rep p,.pointer (some c0)] [Kind.bool] w K
def jM (s:Slc)(n:Int)(w:World)(K:Slc->Ub):=qm PG 377 [.slice s.a s.n s.c,Ua n] [Kind.slice] w K
def kA (s prefix_:ByteArray)(w:World)(K:ByteArray->Bool->Ub):=qm PG 394 [.string s,.string prefix_] [Kind.string,Kind.bool] w K
def xy (d:Option Addr)(w:World)(K:Bool->Ub):=qm PG 395 [.pointer d] [Kind.bool] w K
def xw (d:Option Addr)(w:World)(K:Slc->Ub):=qm PG 396 [.pointer d] [Kind.slice] w K
def ZV (d:Option Addr)(w:World)(K:Ub):=qm PG 397 [.pointer d] [] w K
def va (s:Slc)(n:Int)(w:World)(K:Slc->Ub):=qm PG 398 [.slice s.a s.n s.c,Ua n] [Kind.slice] w K
def X3 (wx hx:Int)(b:Slc)(w:World)(K:qa->Int->Ub):=qm PG 400 [Ua wx,Ua hx,.slice b.a b.n b.c] [Kind.struct qa.rep,Kind.int .i64] w K
def qyu (b:Slc)(pixels:Int)(w:World)(K:qa->Int->Ub):=qm PG 401 [.slice b.a b.n b.c,Ua pixels] [Kind.struct qa.rep,Kind.int .i64] w K
def KP (wx hx:Int)(b:Slc)(w:World)(K:qa->Int->Ub):=qm PG 402 [Ua wx,Ua hx,.slice b.a b.n b.c] [Kind.struct qa.rep,Kind.int .i64] w K
def jK (s:Slc)(f:Value)(w:World)(K:Int->Ub):=qm PG 403 [.slice s.a s.n s.c,f] [Kind.int .i64] w K
def jL (s prefix_:ByteArray)(w:World)(K:Bool->Ub):=qm PG 414 [.string s,.string prefix_] [Kind.bool] w K
def VF (wx hx per:Int)(b:Slc)(w:World)(K:qa->Int->Ub):=qm PG 419 [Ua wx,Ua hx,Ua per,.slice b.a b.n b.c] [Kind.struct qa.rep,Kind.int .i64] w K
def vE (s:qo)(f:Value)(w:World)(K:Ub):=qm PG 515 [ag qo.rep s,f] [] w K
def vV (l:qE)(m:qa)(w:World)(K:qa->Ub):=qm PG 518 [ag qE.rep l,ag qa.rep m] [Kind.struct qa.rep] w K
def Z1 (row col:Int)(c:qX)(c0 c1:Addr)(w:World)(K:Ub):=qm PG 519 [Ua row,Ua col,ag qX.rep c,.pointer (some c0),.pointer (some c1)] [] w K
def X8 (a:qu)(w:World)(K:qs->qs->Ub):=qm PG 520 [ag qu.rep a] [Kind.struct qs.rep,Kind.struct qs.rep] w K
def V6 (m:qa)(x y wx hx:Int)(c:qh)(w:World)(K:Ub):=qm PG 521 [ag qa.rep m,Ua x,Ua y,Ua wx,Ua hx,ag qh.rep c] [] w K
def zh (c:qs)(w:World)(K:qh->Ub):=qm PG 522 [ag qs.rep c] [Kind.struct qh.rep] w K
def Zk (s:qo)(row col:Int)(w:World)(K:qX->Ub):=qm PG 523 [ag qo.rep s,Ua row,Ua col] [Kind.struct qX.rep] w K
def VJ (c:Int)(fore:Bool)(w:World)(K:qs->Ub):=qm PG 524 [Ua c,.bool fore] [Kind.struct qs.rep] w K
def qng (c:Int)(w:World)(K:Bool->Ub):=qm PG 525 [Ua c] [Kind.bool] w K
def XM (v:Int)(w:World)(K:qs->Ub):=qm PG 526 [Ua v] [Kind.struct qs.rep] w K
def qxo (n:Int)(w:World)(K:qs->Ub):=qm PG 527 [Ua n] [Kind.struct qs.rep] w K
def yq (l:zD)(m:qa)(w:World)(K:qa->Ub):=qm PG 528 [ag zD.rep l,ag qa.rep m] [Kind.struct qa.rep] w K
def Yj (s:qo)(p:qf)(w:World)(K:Int->Int->Int->Int->Ub):=qm PG 529 [ag qo.rep s,ag qf.rep p] [Kind.int .i64,Kind.int .i64,Kind.int .i64,Kind.int .i64] w K
def qhj (m:qa)(x y wx hx:Int)(w:World)(K:qa->Ub):=qm PG 530 [ag qa.rep m,Ua x,Ua y,Ua wx,Ua hx] [Kind.struct qa.rep] w K
def qhk (out src:qa)(x y wx hx:Int)(w:World)(K:Ub):=qm PG 531 [ag qa.rep out,ag qa.rep src,Ua x,Ua y,Ua wx,Ua hx] [] w K
def yZ (at_ n side:Int)(w:World)(K:Int->Int->Ub):=qm PG 532 [Ua at_,Ua n,Ua side] [Kind.int .i64,Kind.int .i64] w K
def vB (dst src:qh)(w:World)(K:qh->Ub):=qm PG 533 [ag qh.rep dst,ag qh.rep src] [Kind.struct qh.rep] w K
def vH (m:qa)(x y:Int)(w:World)(K:qh->Ub):=qm PG 534 [ag qa.rep m,Ua x,Ua y] [Kind.struct qh.rep] w K
def yE (l:qE)(m:qa)(w:World)(K:qa->Ub):=qm PG 535 [ag qE.rep l,ag qa.rep m] [Kind.struct qa.rep] w K
def Jc (row col:Int)(c:qX)(c0 c1:Addr)(w:World)(K:Ub):=qm PG 536 [Ua row,Ua col,ag qX.rep c,.pointer (some c0),.pointer (some c1)] [] w K
def qhr (r wx hx:Int)(a:qu)(lay:Value)(w:World)(K:Ub):=qm PG 537 [.int .i32 r,Ua wx,Ua hx,ag qu.rep a,lay] [] w K
def QN (x y wx hx:Int)(k:qh)(c0 c1 c2 c3:Addr)(w:World)(K:Ub):=qm PG 538 [Ua x,Ua y,Ua wx,Ua hx,ag qh.rep k,.pointer (some c0),.pointer (some c1),.pointer (some c2),.pointer (some c3)] [] w K
def yn (l:qE)(m:qa)(w:World)(K:qa->Ub):=qm PG 539 [ag qE.rep l,ag qa.rep m] [Kind.struct qa.rep] w K
end Go.Proofs.YtokfefnmpjohpaaGreatDoor
