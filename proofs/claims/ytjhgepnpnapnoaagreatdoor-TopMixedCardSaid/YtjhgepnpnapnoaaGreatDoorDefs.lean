import Derived.Test.YtjhgepnpnapnoaaGreatDoorVc
import Derived.Test.YtjhgepnpnapnoaaGreatDoorChecked
import Derived.KernelRfl
set_option maxRecDepth 100000
set_option linter.unusedVariables false
namespace Go.Proofs.YtjhgepnpnapnoaaGreatDoor
open Go.Vc
structure qf where
 W:Int
 H:Int
 P:Slc
def qf.rep:Rep where
 T:=qf
 cells x:=[Ua x.W,Ua x.H,.slice x.P.a x.P.n x.P.c]
 get:=xw [.int .i64,.int .i64,.slice] qf.mk
 ok:=zn λ_=>rfl
structure qY where
 Rows:Int
 Cols:Int
 CellW:Int
 CellH:Int
 Back:Int
 Quota:Int
def qY.rep:Rep where
 T:=qY
 cells x:=[Ua x.Rows,Ua x.Cols,Ua x.CellW,Ua x.CellH,Ua x.Back,Ua x.Quota]
 get:=xw [.int .i64,.int .i64,.int .i64,.int .i64,.int .i64,.int .i64] qY.mk
 ok:=zn λ_=>rfl
structure qA where
 Fg:Int
 Bg:Int
 Flags:Int
def qA.rep:Rep where
 T:=qA
 cells x:=[Ua x.Fg,Ua x.Bg,Ua x.Flags]
 get:=xw [.int .i64,.int .i64,.int .i64] qA.mk
 ok:=zn λ_=>rfl
structure qim where
 e0:Int
 e1:Int
def qim.rep:Rep where
 T:=qim
 cells x:=[.int .u8 x.e0,.int .u8 x.e1]
 get:=xw [.int .u8,.int .u8] qim.mk
 ok:=zn λ_=>rfl
structure qQ where
 Row:Int
 Col:Int
 Wrap:Bool
 A:qA
 Origin:Bool
 Sets:qim
 Shift:Int
def qQ.rep:Rep where
 T:=qQ
 cells x:=[Ua x.Row,Ua x.Col,.bool x.Wrap,Ua x.A.Fg,Ua x.A.Bg,Ua x.A.Flags,.bool x.Origin,.int .u8 x.Sets.e0,.int .u8 x.Sets.e1,Ua x.Shift]
 get:=xw [.int .i64,.int .i64,.bool,.int .i64,.int .i64,.int .i64,.bool,.int .u8,.int .u8,.int .i64] (λv0 v1 v2 v3 v4 v5 v6 v7 v8 v9=>⟨v0,v1,v2,⟨v3,v4,v5⟩,v6,⟨v7,v8⟩,v9⟩)
 ok:=zn λ_=>rfl
structure qy where
 Rows:Int
 Cols:Int
 CellW:Int
 CellH:Int
 Lines:Slc
 Places:Slc
 Images:Option Nat
 Top:Int
 Cursor:Bool
 Row:Int
 Col:Int
def qy.rep:Rep where
 T:=qy
 cells x:=[Ua x.Rows,Ua x.Cols,Ua x.CellW,Ua x.CellH,.slice x.Lines.a x.Lines.n x.Lines.c,.slice x.Places.a x.Places.n x.Places.c,.map x.Images,Ua x.Top,.bool x.Cursor,Ua x.Row,Ua x.Col]
 get:=xw [.int .i64,.int .i64,.int .i64,.int .i64,.slice,.slice,.map,.int .i64,.bool,.int .i64,.int .i64] qy.mk
 ok:=zn λ_=>rfl
structure Q7 where
 addr:Option Addr
 buf:Slc
def Q7.rep:Rep where
 T:=Q7
 cells x:=[.pointer x.addr,.slice x.buf.a x.buf.n x.buf.c]
 get:=xw [.ptr,.slice] Q7.mk
 ok:=zn λ_=>rfl
structure zl where
 R:Int
 Kind:Int
 A:qA
def zl.rep:Rep where
 T:=zl
 cells x:=[.int .i32 x.R,Ua x.Kind,Ua x.A.Fg,Ua x.A.Bg,Ua x.A.Flags]
 get:=xw [.int .i32,.int .i64,.int .i64,.int .i64,.int .i64] (λv0 v1 v2 v3 v4=>⟨v0,v1,⟨v2,v3,v4⟩⟩)
 ok:=zn λ_=>rfl
structure vF where
 e0:Int
 e1:Int
def vF.rep:Rep where
 T:=vF
 cells x:=[Ua x.e0,Ua x.e1]
 get:=xw [.int .i64,.int .i64] vF.mk
 ok:=zn λ_=>rfl
structure qmu where
 c:qY
 s:Option Addr
 e:Option Addr
 p:Option Addr
 d:Option Addr
 command:Slc
 long:Bool
 replies:Slc
 firsts:vF
def qmu.rep:Rep where
 T:=qmu
 cells x:=[Ua x.c.Rows,Ua x.c.Cols,Ua x.c.CellW,Ua x.c.CellH,Ua x.c.Back,Ua x.c.Quota,.pointer x.s,.pointer x.e,.pointer x.p,.pointer x.d,.slice x.command.a x.command.n x.command.c,.bool x.long,.slice x.replies.a x.replies.n x.replies.c,Ua x.firsts.e0,Ua x.firsts.e1]
 get:=xw [.int .i64,.int .i64,.int .i64,.int .i64,.int .i64,.int .i64,.ptr,.ptr,.ptr,.ptr,.slice,.bool,.slice,.int .i64,.int .i64] (λv0 v1 v2 v3 v4 v5 v6 v7 v8 v9 v10 v11 v12 v13 v14=>⟨⟨v0,v1,v2,v3,v4,v5⟩,v6,v7,v8,v9,v10,v11,v12,⟨v13,v14⟩⟩)
 ok:=zn λ_=>rfl
structure ze where
 Kind:Int
 R:Int
 B:Int
 Private:Int
 Inter:ByteArray
 Params:Slc
 Data:Slc
def ze.rep:Rep where
 T:=ze
 cells x:=[Ua x.Kind,.int .i32 x.R,.int .u8 x.B,.int .u8 x.Private,.string x.Inter,.slice x.Params.a x.Params.n x.Params.c,.slice x.Data.a x.Data.n x.Data.c]
 get:=xw [.int .i64,.int .i32,.int .u8,.int .u8,.string,.slice,.slice] ze.mk
 ok:=zn λ_=>rfl
structure qL where
 number:Int
 m:qf
 stamp:Int
 born:Int
def qL.rep:Rep where
 T:=qL
 cells x:=[Ua x.number,Ua x.m.W,Ua x.m.H,.slice x.m.P.a x.m.P.n x.m.P.c,Ua x.stamp,Ua x.born]
 get:=xw [.int .i64,.int .i64,.int .i64,.slice,.int .i64,.int .i64] (λv0 v1 v2 v3 v4 v5=>⟨v0,⟨v1,v2,v3⟩,v4,v5⟩)
 ok:=zn λ_=>rfl
structure qP where
 s:qy
def qP.rep:Rep where
 T:=qP
 cells x:=[Ua x.s.Rows,Ua x.s.Cols,Ua x.s.CellW,Ua x.s.CellH,.slice x.s.Lines.a x.s.Lines.n x.s.Lines.c,.slice x.s.Places.a x.s.Places.n x.s.Places.c,.map x.s.Images,Ua x.s.Top,.bool x.s.Cursor,Ua x.s.Row,Ua x.s.Col]
 get:=xw [.int .i64,.int .i64,.int .i64,.int .i64,.slice,.slice,.map,.int .i64,.bool,.int .i64,.int .i64] (λv0 v1 v2 v3 v4 v5 v6 v7 v8 v9 v10=>⟨⟨v0,v1,v2,v3,v4,v5,v6,v7,v8,v9,v10⟩⟩)
 ok:=zn λ_=>rfl
structure jb where
 s:qy
 above:Bool
def jb.rep:Rep where
 T:=jb
 cells x:=[Ua x.s.Rows,Ua x.s.Cols,Ua x.s.CellW,Ua x.s.CellH,.slice x.s.Lines.a x.s.Lines.n x.s.Lines.c,.slice x.s.Places.a x.s.Places.n x.s.Places.c,.map x.s.Images,Ua x.s.Top,.bool x.s.Cursor,Ua x.s.Row,Ua x.s.Col,.bool x.above]
 get:=xw [.int .i64,.int .i64,.int .i64,.int .i64,.slice,.slice,.map,.int .i64,.bool,.int .i64,.int .i64,.bool] (λv0 v1 v2 v3 v4 v5 v6 v7 v8 v9 v10 v11=>⟨⟨v0,v1,v2,v3,v4,v5,v6,v7,v8,v9,v10⟩,v11⟩)
 ok:=zn λ_=>rfl
structure zE where
 Alt:Bool
 Top:Int
 Rows:Int
 Cols:Int
 Row:Int
 Col:Int
def zE.rep:Rep where
 T:=zE
 cells x:=[.bool x.Alt,Ua x.Top,Ua x.Rows,Ua x.Cols,Ua x.Row,Ua x.Col]
 get:=xw [.bool,.int .i64,.int .i64,.int .i64,.int .i64,.int .i64] zE.mk
 ok:=zn λ_=>rfl
structure qu where
 View:zE
 CellW:Int
 CellH:Int
def qu.rep:Rep where
 T:=qu
 cells x:=[.bool x.View.Alt,Ua x.View.Top,Ua x.View.Rows,Ua x.View.Cols,Ua x.View.Row,Ua x.View.Col,Ua x.CellW,Ua x.CellH]
 get:=xw [.bool,.int .i64,.int .i64,.int .i64,.int .i64,.int .i64,.int .i64,.int .i64] (λv0 v1 v2 v3 v4 v5 v6 v7=>⟨⟨v0,v1,v2,v3,v4,v5⟩,v6,v7⟩)
 ok:=zn λ_=>rfl
structure Qn where
 e0:Option Addr
 e1:Option Addr
def Qn.rep:Rep where
 T:=Qn
 cells x:=[.pointer x.e0,.pointer x.e1]
 get:=xw [.ptr,.ptr] Qn.mk
 ok:=zn λ_=>rfl
structure y7 where
 c:qQ
 is:Bool
def y7.rep:Rep where
 T:=y7
 cells x:=[Ua x.c.Row,Ua x.c.Col,.bool x.c.Wrap,Ua x.c.A.Fg,Ua x.c.A.Bg,Ua x.c.A.Flags,.bool x.c.Origin,.int .u8 x.c.Sets.e0,.int .u8 x.c.Sets.e1,Ua x.c.Shift,.bool x.is]
 get:=xw [.int .i64,.int .i64,.bool,.int .i64,.int .i64,.int .i64,.bool,.int .u8,.int .u8,.int .i64,.bool] (λv0 v1 v2 v3 v4 v5 v6 v7 v8 v9 v10=>⟨⟨v0,v1,v2,⟨v3,v4,v5⟩,v6,⟨v7,v8⟩,v9⟩,v10⟩)
 ok:=zn λ_=>rfl
structure Zv where
 e0:y7
 e1:y7
def Zv.rep:Rep where
 T:=Zv
 cells x:=[Ua x.e0.c.Row,Ua x.e0.c.Col,.bool x.e0.c.Wrap,Ua x.e0.c.A.Fg,Ua x.e0.c.A.Bg,Ua x.e0.c.A.Flags,.bool x.e0.c.Origin,.int .u8 x.e0.c.Sets.e0,.int .u8 x.e0.c.Sets.e1,Ua x.e0.c.Shift,.bool x.e0.is,Ua x.e1.c.Row,Ua x.e1.c.Col,.bool x.e1.c.Wrap,Ua x.e1.c.A.Fg,Ua x.e1.c.A.Bg,Ua x.e1.c.A.Flags,.bool x.e1.c.Origin,.int .u8 x.e1.c.Sets.e0,.int .u8 x.e1.c.Sets.e1,Ua x.e1.c.Shift,.bool x.e1.is]
 get:=xw [.int .i64,.int .i64,.bool,.int .i64,.int .i64,.int .i64,.bool,.int .u8,.int .u8,.int .i64,.bool,.int .i64,.int .i64,.bool,.int .i64,.int .i64,.int .i64,.bool,.int .u8,.int .u8,.int .i64,.bool] (λv0 v1 v2 v3 v4 v5 v6 v7 v8 v9 v10 v11 v12 v13 v14 v15 v16 v17 v18 v19 v20 v21=>⟨⟨⟨v0,v1,v2,⟨v3,v4,v5⟩,v6,⟨v7,v8⟩,v9⟩,v10⟩,⟨⟨v11,v12,v13,⟨v14,v15,v16⟩,v17,⟨v18,v19⟩,v20⟩,v21⟩⟩)
 ok:=zn λ_=>rfl
structure qE where
 grids:Qn
 now:Int
 c:qQ
 saved:Zv
 modes:Option Nat
 private_:Option Nat
 top:Int
 past:Int
 stops:Option Addr
 char:Int
 areas:Slc
def qE.ks:List Kind:=[.ptr,.ptr,.int .i64,.int .i64,.int .i64,.bool,.int .i64,.int .i64,.int .i64,.bool,.int .u8,.int .u8,.int .i64,.int .i64,.int .i64,.bool,.int .i64,.int .i64,.int .i64,.bool,.int .u8,.int .u8,.int .i64,.bool,.int .i64,.int .i64,.bool,.int .i64,.int .i64,.int .i64,.bool,.int .u8,.int .u8,.int .i64,.bool,.map,.map,.int .i64,.int .i64,.ptr,.int .i32,.slice]
def qE.rep:Rep where
 T:=qE
 cells x:=[.pointer x.grids.e0,.pointer x.grids.e1,Ua x.now,Ua x.c.Row,Ua x.c.Col,.bool x.c.Wrap,Ua x.c.A.Fg,Ua x.c.A.Bg,Ua x.c.A.Flags,.bool x.c.Origin,.int .u8 x.c.Sets.e0,.int .u8 x.c.Sets.e1,Ua x.c.Shift,Ua x.saved.e0.c.Row,Ua x.saved.e0.c.Col,.bool x.saved.e0.c.Wrap,Ua x.saved.e0.c.A.Fg,Ua x.saved.e0.c.A.Bg,Ua x.saved.e0.c.A.Flags,.bool x.saved.e0.c.Origin,.int .u8 x.saved.e0.c.Sets.e0,.int .u8 x.saved.e0.c.Sets.e1,Ua x.saved.e0.c.Shift,.bool x.saved.e0.is,Ua x.saved.e1.c.Row,Ua x.saved.e1.c.Col,.bool x.saved.e1.c.Wrap,Ua x.saved.e1.c.A.Fg,Ua x.saved.e1.c.A.Bg,Ua x.saved.e1.c.A.Flags,.bool x.saved.e1.c.Origin,.int .u8 x.saved.e1.c.Sets.e0,.int .u8 x.saved.e1.c.Sets.e1,Ua x.saved.e1.c.Shift,.bool x.saved.e1.is,.map x.modes,.map x.private_,Ua x.top,Ua x.past,.pointer x.stops,.int .i32 x.char,.slice x.areas.a x.areas.n x.areas.c]
 get:=xw qE.ks (λv0 v1 v2 v3 v4 v5 v6 v7 v8 v9 v10 v11 v12 v13 v14 v15 v16 v17 v18 v19 v20 v21 v22 v23 v24 v25 v26 v27 v28 v29 v30 v31 v32 v33 v34 v35 v36 v37 v38 v39 v40 v41=>⟨⟨v0,v1⟩,v2,⟨v3,v4,v5,⟨v6,v7,v8⟩,v9,⟨v10,v11⟩,v12⟩,⟨⟨⟨v13,v14,v15,⟨v16,v17,v18⟩,v19,⟨v20,v21⟩,v22⟩,v23⟩,⟨⟨v24,v25,v26,⟨v27,v28,v29⟩,v30,⟨v31,v32⟩,v33⟩,v34⟩⟩,v35,v36,v37,v38,v39,v40,v41⟩)
 ok:=zn λ_=>rfl
structure qh where
 Action:Int
 Medium:Int
 Zip:Int
 What:Int
 Quiet:Int
 Format:Int
 W:Int
 H:Int
 Id:Int
 Number:Int
 Place:Int
 More:Int
 X:Int
 Y:Int
 PW:Int
 PH:Int
 DX:Int
 DY:Int
 Rows:Int
 Cols:Int
 Z:Int
 Stay:Int
def qh.rep:Rep where
 T:=qh
 cells x:=[.int .u8 x.Action,.int .u8 x.Medium,.int .u8 x.Zip,.int .u8 x.What,Ua x.Quiet,Ua x.Format,Ua x.W,Ua x.H,Ua x.Id,Ua x.Number,Ua x.Place,Ua x.More,Ua x.X,Ua x.Y,Ua x.PW,Ua x.PH,Ua x.DX,Ua x.DY,Ua x.Rows,Ua x.Cols,Ua x.Z,Ua x.Stay]
 get:=xw [.int .u8,.int .u8,.int .u8,.int .u8,.int .i64,.int .i64,.int .i64,.int .i64,.int .i64,.int .i64,.int .i64,.int .i64,.int .i64,.int .i64,.int .i64,.int .i64,.int .i64,.int .i64,.int .i64,.int .i64,.int .i64,.int .i64] qh.mk
 ok:=zn λ_=>rfl
structure qb8 where
 quota:Int
 s:Option Addr
 t:Option Addr
 l:Option Addr
 first:qh
def qb8.rep:Rep where
 T:=qb8
 cells x:=[Ua x.quota,.pointer x.s,.pointer x.t,.pointer x.l,.int .u8 x.first.Action,.int .u8 x.first.Medium,.int .u8 x.first.Zip,.int .u8 x.first.What,Ua x.first.Quiet,Ua x.first.Format,Ua x.first.W,Ua x.first.H,Ua x.first.Id,Ua x.first.Number,Ua x.first.Place,Ua x.first.More,Ua x.first.X,Ua x.first.Y,Ua x.first.PW,Ua x.first.PH,Ua x.first.DX,Ua x.first.DY,Ua x.first.Rows,Ua x.first.Cols,Ua x.first.Z,Ua x.first.Stay]
 get:=xw [.int .i64,.ptr,.ptr,.ptr,.int .u8,.int .u8,.int .u8,.int .u8,.int .i64,.int .i64,.int .i64,.int .i64,.int .i64,.int .i64,.int .i64,.int .i64,.int .i64,.int .i64,.int .i64,.int .i64,.int .i64,.int .i64,.int .i64,.int .i64,.int .i64,.int .i64] (λv0 v1 v2 v3 v4 v5 v6 v7 v8 v9 v10 v11 v12 v13 v14 v15 v16 v17 v18 v19 v20 v21 v22 v23 v24 v25=>⟨v0,v1,v2,v3,⟨v4,v5,v6,v7,v8,v9,v10,v11,v12,v13,v14,v15,v16,v17,v18,v19,v20,v21,v22,v23,v24,v25⟩⟩)
 ok:=zn λ_=>rfl
structure XV where
 state:Int
 ends:Bool
 chars:Option Addr
 private_:Int
 inter:Slc
 wrong:Bool
 first:Bool
 params:Slc
 some_:Bool
 last:Int
 data:Slc
 say:Value
def XV.rep:Rep where
 T:=XV
 cells x:=[Ua x.state,.bool x.ends,.pointer x.chars,.int .u8 x.private_,.slice x.inter.a x.inter.n x.inter.c,.bool x.wrong,.bool x.first,.slice x.params.a x.params.n x.params.c,.bool x.some_,Ua x.last,.slice x.data.a x.data.n x.data.c,x.say]
 get:=xw [.int .i64,.bool,.ptr,.int .u8,.slice,.bool,.bool,.slice,.bool,.int .i64,.slice,.raw] XV.mk
 ok:=zn λ_=>rfl
structure qs where
 e0:Int
 e1:Int
 e2:Int
def qs.rep:Rep where
 T:=qs
 cells x:=[.int .u8 x.e0,.int .u8 x.e1,.int .u8 x.e2]
 get:=xw [.int .u8,.int .u8,.int .u8] qs.mk
 ok:=zn λ_=>rfl
structure qg where
 Reply:Slc
 Rows:Int
 Cols:Int
 Moves:Bool
def qg.rep:Rep where
 T:=qg
 cells x:=[.slice x.Reply.a x.Reply.n x.Reply.c,Ua x.Rows,Ua x.Cols,.bool x.Moves]
 get:=xw [.slice,.int .i64,.int .i64,.bool] qg.mk
 ok:=zn λ_=>rfl
structure jz where
 Alt:Bool
 Line:Int
 Rows:Int
 From:Int
 To:Int
def jz.rep:Rep where
 T:=jz
 cells x:=[.bool x.Alt,Ua x.Line,Ua x.Rows,Ua x.From,Ua x.To]
 get:=xw [.bool,.int .i64,.int .i64,.int .i64,.int .i64] jz.mk
 ok:=zn λ_=>rfl
structure xZ where
 quota:Int
 reserved:Int
 used:Int
 clock:Int
 l:Option Nat
def xZ.rep:Rep where
 T:=xZ
 cells x:=[Ua x.quota,Ua x.reserved,Ua x.used,Ua x.clock,.map x.l]
 get:=xw [.int .i64,.int .i64,.int .i64,.int .i64,.map] xZ.mk
 ok:=zn λ_=>rfl
structure qm where
 Image:Int
 Id:Int
 Alt:Bool
 Line:Int
 Col:Int
 Rows:Int
 Cols:Int
 X:Int
 Y:Int
 W:Int
 H:Int
 DX:Int
 DY:Int
 Z:Int
def qm.rep:Rep where
 T:=qm
 cells x:=[Ua x.Image,Ua x.Id,.bool x.Alt,Ua x.Line,Ua x.Col,Ua x.Rows,Ua x.Cols,Ua x.X,Ua x.Y,Ua x.W,Ua x.H,Ua x.DX,Ua x.DY,Ua x.Z]
 get:=xw [.int .i64,.int .i64,.bool,.int .i64,.int .i64,.int .i64,.int .i64,.int .i64,.int .i64,.int .i64,.int .i64,.int .i64,.int .i64,.int .i64] qm.mk
 ok:=zn λ_=>rfl
structure vS where
 Ring:Option Addr
 rows:Int
 cols:Int
 l:Slc
 top:Int
def vS.rep:Rep where
 T:=vS
 cells x:=[.pointer x.Ring,Ua x.rows,Ua x.cols,.slice x.l.a x.l.n x.l.c,Ua x.top]
 get:=xw [.ptr,.int .i64,.int .i64,.slice,.int .i64] vS.mk
 ok:=zn λ_=>rfl
structure VQ where
 l:Slc
def VQ.rep:Rep where
 T:=VQ
 cells x:=[.slice x.l.a x.l.n x.l.c]
 get:=xw [.slice] VQ.mk
 ok:=zn λ_=>rfl
structure VE where
 r:Int
 left:Int
 lo:Int
 hi:Int
def VE.rep:Rep where
 T:=VE
 cells x:=[.int .i32 x.r,Ua x.left,.int .u8 x.lo,.int .u8 x.hi]
 get:=xw [.int .i32,.int .i64,.int .u8,.int .u8] VE.mk
 ok:=zn λ_=>rfl
structure Jz where
 e0:Int
 e1:Int
 e2:Int
def Jz.rep:Rep where
 T:=Jz
 cells x:=[Ua x.e0,Ua x.e1,Ua x.e2]
 get:=xw [.int .i64,.int .i64,.int .i64] Jz.mk
 ok:=zn λ_=>rfl
structure qV where
 e0:Int
 e1:Int
 e2:Int
def qV.rep:Rep where
 T:=qV
 cells x:=[.int .u8 x.e0,.int .u8 x.e1,.int .u8 x.e2]
 get:=xw [.int .u8,.int .u8,.int .u8] qV.mk
 ok:=zn λ_=>rfl
structure zw where
 most:Int
 l:Slc
 at_:Int
 gone:Int
def zw.rep:Rep where
 T:=zw
 cells x:=[Ua x.most,.slice x.l.a x.l.n x.l.c,Ua x.at_,Ua x.gone]
 get:=xw [.int .i64,.slice,.int .i64,.int .i64] zw.mk
 ok:=zn λ_=>rfl
structure qbo where
 cols:Int
 l:Option Nat
def qbo.rep:Rep where
 T:=qbo
 cells x:=[Ua x.cols,.map x.l]
 get:=xw [.int .i64,.map] qbo.mk
 ok:=zn λ_=>rfl
structure qex where
 What:Int
 Image:Int
 Place:Int
 X:Int
 Y:Int
 Z:Int
def qex.rep:Rep where
 T:=qex
 cells x:=[.int .u8 x.What,Ua x.Image,Ua x.Place,Ua x.X,Ua x.Y,Ua x.Z]
 get:=xw [.int .u8,.int .i64,.int .i64,.int .i64,.int .i64,.int .i64] qex.mk
 ok:=zn λ_=>rfl
structure qfj where
 Decoder:Option Addr
 k:qh
 most:Int
 need:Int
 pieces:Slc
 held:Int
 failed:Int
 over:Bool
def qfj.rep:Rep where
 T:=qfj
 cells x:=[.pointer x.Decoder,.int .u8 x.k.Action,.int .u8 x.k.Medium,.int .u8 x.k.Zip,.int .u8 x.k.What,Ua x.k.Quiet,Ua x.k.Format,Ua x.k.W,Ua x.k.H,Ua x.k.Id,Ua x.k.Number,Ua x.k.Place,Ua x.k.More,Ua x.k.X,Ua x.k.Y,Ua x.k.PW,Ua x.k.PH,Ua x.k.DX,Ua x.k.DY,Ua x.k.Rows,Ua x.k.Cols,Ua x.k.Z,Ua x.k.Stay,Ua x.most,Ua x.need,.slice x.pieces.a x.pieces.n x.pieces.c,Ua x.held,Ua x.failed,.bool x.over]
 get:=xw [.ptr,.int .u8,.int .u8,.int .u8,.int .u8,.int .i64,.int .i64,.int .i64,.int .i64,.int .i64,.int .i64,.int .i64,.int .i64,.int .i64,.int .i64,.int .i64,.int .i64,.int .i64,.int .i64,.int .i64,.int .i64,.int .i64,.int .i64,.int .i64,.int .i64,.slice,.int .i64,.int .i64,.bool] (λv0 v1 v2 v3 v4 v5 v6 v7 v8 v9 v10 v11 v12 v13 v14 v15 v16 v17 v18 v19 v20 v21 v22 v23 v24 v25 v26 v27 v28=>⟨v0,⟨v1,v2,v3,v4,v5,v6,v7,v8,v9,v10,v11,v12,v13,v14,v15,v16,v17,v18,v19,v20,v21,v22⟩,v23,v24,v25,v26,v27,v28⟩)
 ok:=zn λ_=>rfl
structure zv where
 key:ByteArray
 n:Int
def zv.rep:Rep where
 T:=zv
 cells x:=[.string x.key,Ua x.n]
 get:=xw [.string,.int .i64] zv.mk
 ok:=zn λ_=>rfl
structure yN where
 lo:Int
 hi:Int
def yN.rep:Rep where
 T:=yN
 cells x:=[.int .u8 x.lo,.int .u8 x.hi]
 get:=xw [.int .u8,.int .u8] yN.mk
 ok:=zn λ_=>rfl
structure qvr where
 e0:Jz
 e1:Jz
 e2:Jz
 e3:Jz
 e4:Jz
 e5:Jz
def qvr.rep:Rep where
 T:=qvr
 cells x:=[Ua x.e0.e0,Ua x.e0.e1,Ua x.e0.e2,Ua x.e1.e0,Ua x.e1.e1,Ua x.e1.e2,Ua x.e2.e0,Ua x.e2.e1,Ua x.e2.e2,Ua x.e3.e0,Ua x.e3.e1,Ua x.e3.e2,Ua x.e4.e0,Ua x.e4.e1,Ua x.e4.e2,Ua x.e5.e0,Ua x.e5.e1,Ua x.e5.e2]
 get:=xw [.int .i64,.int .i64,.int .i64,.int .i64,.int .i64,.int .i64,.int .i64,.int .i64,.int .i64,.int .i64,.int .i64,.int .i64,.int .i64,.int .i64,.int .i64,.int .i64,.int .i64,.int .i64] (λv0 v1 v2 v3 v4 v5 v6 v7 v8 v9 v10 v11 v12 v13 v14 v15 v16 v17=>⟨⟨v0,v1,v2⟩,⟨v3,v4,v5⟩,⟨v6,v7,v8⟩,⟨v9,v10,v11⟩,⟨v12,v13,v14⟩,⟨v15,v16,v17⟩⟩)
 ok:=zn λ_=>rfl
structure Zu where
 v:Int
 n:Int
 fill:Int
 over:Bool
 bad:Bool
def Zu.rep:Rep where
 T:=Zu
 cells x:=[.int .u32 x.v,Ua x.n,Ua x.fill,.bool x.over,.bool x.bad]
 get:=xw [.int .u32,.int .i64,.int .i64,.bool,.bool] Zu.mk
 ok:=zn λ_=>rfl
structure xQ where
 lo:Int
 hi:Int
def xQ.rep:Rep where
 T:=xQ
 cells x:=[.int .i32 x.lo,.int .i32 x.hi]
 get:=xw [.int .i32,.int .i32] xQ.mk
 ok:=zn λ_=>rfl
structure qcw where
 W:Int
 H:Int
 Depth:Int
 Color:Int
 Lace:Int
def qcw.rep:Rep where
 T:=qcw
 cells x:=[Ua x.W,Ua x.H,Ua x.Depth,Ua x.Color,Ua x.Lace]
 get:=xw [.int .i64,.int .i64,.int .i64,.int .i64,.int .i64] qcw.mk
 ok:=zn λ_=>rfl
structure XX where
 Decoder:Option Addr
 head:Slc
 tail:Slc
 sum:Value
 over:Int
 failed:Int
def XX.rep:Rep where
 T:=XX
 cells x:=[.pointer x.Decoder,.slice x.head.a x.head.n x.head.c,.slice x.tail.a x.tail.n x.tail.c,x.sum,Ua x.over,Ua x.failed]
 get:=xw [.ptr,.slice,.slice,.raw,.int .i64,.int .i64] XX.mk
 ok:=zn λ_=>rfl
structure qew where
 Kind:ByteArray
 Data:Slc
def qew.rep:Rep where
 T:=qew
 cells x:=[.string x.Kind,.slice x.Data.a x.Data.n x.Data.c]
 get:=xw [.string,.slice] qew.mk
 ok:=zn λ_=>rfl
structure qr1 where
 Head:qcw
 palette:Slc
 trans:Slc
 hasPalette:Bool
 hasTr:Bool
 data:Slc
 hasData:Bool
 wasData:Bool
def qr1.rep:Rep where
 T:=qr1
 cells x:=[Ua x.Head.W,Ua x.Head.H,Ua x.Head.Depth,Ua x.Head.Color,Ua x.Head.Lace,.slice x.palette.a x.palette.n x.palette.c,.slice x.trans.a x.trans.n x.trans.c,.bool x.hasPalette,.bool x.hasTr,.slice x.data.a x.data.n x.data.c,.bool x.hasData,.bool x.wasData]
 get:=xw [.int .i64,.int .i64,.int .i64,.int .i64,.int .i64,.slice,.slice,.bool,.bool,.slice,.bool,.bool] (λv0 v1 v2 v3 v4 v5 v6 v7 v8 v9 v10 v11=>⟨⟨v0,v1,v2,v3,v4⟩,v5,v6,v7,v8,v9,v10,v11⟩)
 ok:=zn λ_=>rfl
structure Q8 where
 most:Int
 state:Int
 last:Bool
 wait:Slc
 skip:Int
 left:Int
 signs:Option Addr
 dists:Option Addr
 ring:Slc
 total:Int
 told:Int
 took:Int
 given:Int
 failed:Int
 out:Slc
def Q8.rep:Rep where
 T:=Q8
 cells x:=[Ua x.most,Ua x.state,.bool x.last,.slice x.wait.a x.wait.n x.wait.c,Ua x.skip,Ua x.left,.pointer x.signs,.pointer x.dists,.slice x.ring.a x.ring.n x.ring.c,Ua x.total,Ua x.told,Ua x.took,Ua x.given,Ua x.failed,.slice x.out.a x.out.n x.out.c]
 get:=xw [.int .i64,.int .i64,.bool,.slice,.int .i64,.int .i64,.ptr,.ptr,.slice,.int .i64,.int .i64,.int .i64,.int .i64,.int .i64,.slice] Q8.mk
 ok:=zn λ_=>rfl
structure qbk where
 a:Int
 b:Int
def qbk.rep:Rep where
 T:=qbk
 cells x:=[.int .u32 x.a,.int .u32 x.b]
 get:=xw [.int .u32,.int .u32] qbk.mk
 ok:=zn λ_=>rfl
structure VP where
 X:Int
 Y:Int
 DX:Int
 DY:Int
def VP.rep:Rep where
 T:=VP
 cells x:=[Ua x.X,Ua x.Y,Ua x.DX,Ua x.DY]
 get:=xw [.int .i64,.int .i64,.int .i64,.int .i64] VP.mk
 ok:=zn λ_=>rfl
structure qt where
 e0:Int
 e1:Int
 e2:Int
 e3:Int
def qt.rep:Rep where
 T:=qt
 cells x:=[.int .u8 x.e0,.int .u8 x.e1,.int .u8 x.e2,.int .u8 x.e3]
 get:=xw [.int .u8,.int .u8,.int .u8,.int .u8] qt.mk
 ok:=zn λ_=>rfl
structure VF where
 b:Slc
 at_:Int
def VF.rep:Rep where
 T:=VF
 cells x:=[.slice x.b.a x.b.n x.b.c,Ua x.at_]
 get:=xw [.slice,.int .i64] VF.mk
 ok:=zn λ_=>rfl
structure qtk where
 e0:Int
 e1:Int
 e2:Int
 e3:Int
 e4:Int
 e5:Int
 e6:Int
 e7:Int
 e8:Int
 e9:Int
 e10:Int
 e11:Int
 e12:Int
 e13:Int
 e14:Int
 e15:Int
 e16:Int
 e17:Int
 e18:Int
def qtk.rep:Rep where
 T:=qtk
 cells x:=[Ua x.e0,Ua x.e1,Ua x.e2,Ua x.e3,Ua x.e4,Ua x.e5,Ua x.e6,Ua x.e7,Ua x.e8,Ua x.e9,Ua x.e10,Ua x.e11,Ua x.e12,Ua x.e13,Ua x.e14,Ua x.e15,Ua x.e16,Ua x.e17,Ua x.e18]
 get:=xw [.int .i64,.int .i64,.int .i64,.int .i64,.int .i64,.int .i64,.int .i64,.int .i64,.int .i64,.int .i64,.int .i64,.int .i64,.int .i64,.int .i64,.int .i64,.int .i64,.int .i64,.int .i64,.int .i64] qtk.mk
 ok:=zn λ_=>rfl
structure qnm where
 e0:Int
 e1:Int
 e2:Int
 e3:Int
 e4:Int
 e5:Int
 e6:Int
 e7:Int
 e8:Int
 e9:Int
 e10:Int
 e11:Int
 e12:Int
 e13:Int
 e14:Int
 e15:Int
def qnm.rep:Rep where
 T:=qnm
 cells x:=[Ua x.e0,Ua x.e1,Ua x.e2,Ua x.e3,Ua x.e4,Ua x.e5,Ua x.e6,Ua x.e7,Ua x.e8,Ua x.e9,Ua x.e10,Ua x.e11,Ua x.e12,Ua x.e13,Ua x.e14,Ua x.e15]
 get:=xw [.int .i64,.int .i64,.int .i64,.int .i64,.int .i64,.int .i64,.int .i64,.int .i64,.int .i64,.int .i64,.int .i64,.int .i64,.int .i64,.int .i64,.int .i64,.int .i64] qnm.mk
 ok:=zn λ_=>rfl
structure qjg where
 count:qnm
 sorted:Slc
 codes:Slc
 lengths:Slc
 last:Int
def qjg.rep:Rep where
 T:=qjg
 cells x:=[Ua x.count.e0,Ua x.count.e1,Ua x.count.e2,Ua x.count.e3,Ua x.count.e4,Ua x.count.e5,Ua x.count.e6,Ua x.count.e7,Ua x.count.e8,Ua x.count.e9,Ua x.count.e10,Ua x.count.e11,Ua x.count.e12,Ua x.count.e13,Ua x.count.e14,Ua x.count.e15,.slice x.sorted.a x.sorted.n x.sorted.c,.slice x.codes.a x.codes.n x.codes.c,.slice x.lengths.a x.lengths.n x.lengths.c,Ua x.last]
 get:=xw [.int .i64,.int .i64,.int .i64,.int .i64,.int .i64,.int .i64,.int .i64,.int .i64,.int .i64,.int .i64,.int .i64,.int .i64,.int .i64,.int .i64,.int .i64,.int .i64,.slice,.slice,.slice,.int .i64] (λv0 v1 v2 v3 v4 v5 v6 v7 v8 v9 v10 v11 v12 v13 v14 v15 v16 v17 v18 v19=>⟨⟨v0,v1,v2,v3,v4,v5,v6,v7,v8,v9,v10,v11,v12,v13,v14,v15⟩,v16,v17,v18,v19⟩)
 ok:=zn λ_=>rfl
structure qju where
 v:Int
def qju.rep:Rep where
 T:=qju
 cells x:=[.int .u32 x.v]
 get:=xw [.int .u32] qju.mk
 ok:=zn λ_=>rfl
structure qo7 where
 e0:Int
 e1:Int
 e2:Int
 e3:Int
 e4:Int
 e5:Int
def qo7.rep:Rep where
 T:=qo7
 cells x:=[.int .u8 x.e0,.int .u8 x.e1,.int .u8 x.e2,.int .u8 x.e3,.int .u8 x.e4,.int .u8 x.e5]
 get:=xw [.int .u8,.int .u8,.int .u8,.int .u8,.int .u8,.int .u8] qo7.mk
 ok:=zn λ_=>rfl
structure qe2 where
 e0:Int
 e1:Int
 e2:Int
 e3:Int
 e4:Int
 e5:Int
 e6:Int
 e7:Int
 e8:Int
 e9:Int
 e10:Int
 e11:Int
 e12:Int
 e13:Int
 e14:Int
 e15:Int
def qe2.rep:Rep where
 T:=qe2
 cells x:=[.int .u32 x.e0,.int .u32 x.e1,.int .u32 x.e2,.int .u32 x.e3,.int .u32 x.e4,.int .u32 x.e5,.int .u32 x.e6,.int .u32 x.e7,.int .u32 x.e8,.int .u32 x.e9,.int .u32 x.e10,.int .u32 x.e11,.int .u32 x.e12,.int .u32 x.e13,.int .u32 x.e14,.int .u32 x.e15]
 get:=xw [.int .u32,.int .u32,.int .u32,.int .u32,.int .u32,.int .u32,.int .u32,.int .u32,.int .u32,.int .u32,.int .u32,.int .u32,.int .u32,.int .u32,.int .u32,.int .u32] qe2.mk
 ok:=zn λ_=>rfl
noncomputable abbrev PG:Program:=Tryz.prog
abbrev qjy:TypeId:=0
abbrev q8n:TypeId:=2
abbrev zJ:TypeId:=3
abbrev qx8:TypeId:=4
abbrev qF:TypeId:=5
abbrev zk:TypeId:=9
abbrev q4s:TypeId:=20
abbrev Qe:TypeId:=21
abbrev qj:TypeId:=26
abbrev qx:TypeId:=31
abbrev Zr:TypeId:=33
abbrev jB:TypeId:=36
abbrev zm:TypeId:=44
abbrev zA:TypeId:=47
abbrev qfq:TypeId:=52
abbrev qch:TypeId:=55
abbrev zai:TypeId:=59
abbrev Ko:TypeId:=61
abbrev qO:TypeId:=69
abbrev jx:TypeId:=71
abbrev zU:TypeId:=73
abbrev Kc:TypeId:=74
abbrev xm:TypeId:=79
abbrev Zs:TypeId:=82
abbrev zu:TypeId:=85
abbrev jZ:TypeId:=86
abbrev zo:TypeId:=88
abbrev Yu:TypeId:=94
abbrev zr:TypeId:=96
abbrev zi:TypeId:=99
abbrev Jx:TypeId:=114
abbrev qc0:TypeId:=118
abbrev zg:TypeId:=126
abbrev ja:TypeId:=128
abbrev qJ:TypeId:=136
abbrev xo:TypeId:=146
abbrev xJ:TypeId:=148
abbrev xf:TypeId:=149
abbrev vH:TypeId:=150
abbrev qp9:TypeId:=152
abbrev jg:TypeId:=154
abbrev yI:TypeId:=161
abbrev qmq:TypeId:=162
abbrev QP:TypeId:=171
abbrev zp:TypeId:=177
abbrev zL:TypeId:=181
abbrev zt:TypeId:=193
abbrev zV:TypeId:=194
abbrev y1:TypeId:=197
abbrev qB:TypeId:=203
abbrev qmy:TypeId:=211
abbrev jL:TypeId:=224
abbrev vd:TypeId:=228
abbrev qei:TypeId:=236
abbrev qdf:TypeId:=247
abbrev qw2:TypeId:=249
abbrev zj:TypeId:=290
abbrev Jv:TypeId:=297
abbrev vV:TypeId:=309
abbrev zhc:TypeId:=337
abbrev X7:TypeId:=346
abbrev xc:TypeId:=348
abbrev jD:TypeId:=368
abbrev Q6:TypeId:=401
abbrev qe7:TypeId:=412
abbrev qK:TypeId:=475
abbrev qrt:Nat:=16
abbrev qdb:Nat:=21
abbrev quz:Nat:=27
abbrev qsi:Nat:=29
abbrev qap:Nat:=37
abbrev qs2:Nat:=40
abbrev XL:Nat:=52
abbrev qu2:Nat:=65
abbrev q0q:Nat:=98
abbrev qlf:Nat:=100
abbrev yU:Nat:=212
abbrev yY:Nat:=262
abbrev JZ:Nat:=288
abbrev Kk:Nat:=292
abbrev Ve:Nat:=307
abbrev KI:Nat:=310
abbrev Y6:Nat:=316
abbrev VR:Nat:=382
abbrev qtx:Nat:=408
abbrev qvl:Nat:=410
abbrev qfn:Nat:=527
abbrev qgv:Nat:=544
abbrev qd7:Nat:=546
abbrev zpf:Nat:=2
def reg (t:TypeId):Option Rep:=match t with
 | 31=>some qf.rep
 | 52=>some qY.rep
 | 79=>some qA.rep
 | 80=>some qim.rep
 | 82=>some qQ.rep
 | 88=>some qy.rep
 | 96=>some Q7.rep
 | 99=>some zl.rep
 | 59=>some vF.rep
 | 61=>some qmu.rep
 | 118=>some ze.rep
 | 71=>some qL.rep
 | 146=>some qP.rep
 | 149=>some qP.rep
 | 150=>some qP.rep
 | 148=>some jb.rep
 | 152=>some zE.rep
 | 154=>some qu.rep
 | 173=>some Qn.rep
 | 175=>some y7.rep
 | 176=>some Zv.rep
 | 181=>some qE.rep
 | 126=>some qh.rep
 | 128=>some qb8.rep
 | 114=>some XV.rep
 | 193=>some qs.rep
 | 203=>some qg.rep
 | 211=>some jz.rep
 | 73=>some xZ.rep
 | 136=>some qm.rep
 | 161=>some vS.rep
 | 224=>some VQ.rep
 | 247=>some VE.rep
 | 248=>some Jz.rep
 | 194=>some qV.rep
 | 290=>some zw.rep
 | 297=>some qbo.rep
 | 316=>some qex.rep
 | 348=>some qfj.rep
 | 368=>some zv.rep
 | 388=>some yN.rep
 | 391=>some qvr.rep
 | 401=>some Zu.rep
 | 412=>some xQ.rep
 | 443=>some qcw.rep
 | 456=>some XX.rep
 | 466=>some qew.rep
 | 445=>some qr1.rep
 | 482=>some Q8.rep
 | 484=>some qbk.rep
 | 470=>some VP.rep
 | 475=>some qt.rep
 | 501=>some VF.rep
 | 511=>some qtk.rep
 | 521=>some qnm.rep
 | 523=>some qjg.rep
 | 526=>some qju.rep
 | 548=>some qo7.rep
 | 558=>some qe2.rep
 | _=>none
def zcb:List Nat:=[2,3,4,5,6,7,8,9,10,11,12,13,14,15,16,17,18,19,20,21,22,23,24,25,26,27,28,29,30,31,32,33,34,35,36,37,38,39,40,41,42,43,44,45,46,47,48,49,50,51,52,53,54,55,56,57,58,59,60,61,62,63,64,65,66,67,68,69,70,71,72,73,74,75,76,77,78,79,80,81,82,83,84,85,86,87,88,89,90,91,92,93,94,95,96,97,98,99,100,101,102,103,104,105,106,107,108,109,110,111,112,113,114,115,116,117,118,119,120,121,122,123,124,125,126,127,128,129,130,131,132,133,134,135,136,137,138,139,140,141,143,144,145,146,147,148,149,150,151,152,153,154,155,156,157,158,159,160,161,162,163,164,165,166,167,168,169,170,171,172,173,174,175,176,177,178,179,180,181,182,183,184,185,186,187,188,189,190,191,192,193,194,195,196,198,199,200,201,202,203,204,205,206,207,208,209,210,211,212,213,214,215,216,217,218,219,220,221,222,223,224,225,226,227,228,229,230,231,232,233,234,235,236,237,238,239,240,241,242,243,244,245,246,247,248,249,250,251,252,253,254,255,256,257,258,259,260,261,262,263,264,265,266,267,268,269,270,271,272,273,274,275,276,277,278,279,280,281,282,283,284,285,286,287,288,289,290,291,292,293,294,295,296,297,298,299,300,301,302,303,305,306,307,308,309,310,311,312,313,314,315,316,317,318,319,320,321,322,323,324,325,326,327,328,329,330,331,332,333,334,335,336,337,338,339,340,341,342,343,344,345,346,347,348,349,350,351,352,353,354,355,356,357,358,359,360,361,362,363,364,365,366,367,369,370,371,372,373,374,375,376,377,378,379,380,381,382,383,384,385,386,387,388,389,390,391,392,393,394,395,398,399,401,402,403,404,405,406,407,408,409,410,411,412,413,414,415,416,417,418,419,420,421,422,423,424,425,426,427,428,429,430,432,433,434,435,436,437,438,439,440,441,442,443,444,445,446,447,448,449,450,451,452,453,454,455,456,457,458,459,460,461,462,463,464,465,466,467,468,469,470,471,472,473,474,475,476,477,478,479,480,481,482,483,484,485,486,487,488,489,490,491,492,493,494,495,496,497,498,499,500,501,502,503,504,522,525,526,527,528,529,530,531,532,533,534,535,536,537,538,539,540,541,542,543,544,545,546,547,548,549,550,551,560]
noncomputable def C:Cx:={ P:=Tryz.prog,reg:=reg,plain:=λn=>zcb.elem n }
theorem C.plain_ok (g:Nat) (h:C.plain g=true):yO C.P g=true:=by
 have h':g∈zcb:=by simpa [C] using h
 have:zcb.all (λg=>yO Tryz.prog g)=true:=by kernel_rfl
 exact List.all_eq_true.1 this g h'
theorem C.mixed:C.P.follows .mixedOrders=true:=by kernel_rfl
theorem fnO {f:FuncId} {fn:Func} {ks:List Kind} {a:List Value} {w:World} {K:Go.Vc.Cur ks} {sh:Prop} (n:List Ann) (hf:C.P.funcs[f]?=some fn) (h:sh)
  (hb:fn.body=some (fn.body.getD .skip):=by rfl) (e:zn9 C (fn.body.getD .skip) fn.results.toList fn.ntmps n ks a w (zly ks K)=sh:=by kernel_rfl):qw C.P f a ks w K:=by
 rw [<-e] at h;exact qv1 C.plain_ok C.mixed hf hb h
def Qc (wx hx cut:Int)(w:World)(K:Bool->Ub):=qw PG 3 [Ua wx,Ua hx,Ua cut] [Kind.bool] w K
def ZO (w:World)(K:Bool->Ub):=qw PG 4 [] [Kind.bool] w K
def kA (n many:Int)(w:World)(K:Int->Ub):=qw PG 5 [Ua n,Ua many] [Kind.int .i64] w K
def kC (rows cols quota:Int)(w:World)(K:Option Addr->Ub):=qw PG 6 [Ua rows,Ua cols,Ua quota] [Kind.ptr] w K
def vn (head:ByteArray)(text:Slc)(w:World)(K:Slc->Ub):=qw PG 7 [.string head,.slice text.a text.n text.c] [Kind.slice] w K
def ZT (wx hx:Int)(colours:Slc)(w:World)(K:Slc->Ub):=qw PG 8 [Ua wx,Ua hx,.slice colours.a colours.n colours.c] [Kind.slice] w K
def jQ (t:Option Addr)(b:Slc)(w:World)(K:Ub):=qw PG 9 [.pointer t,.slice b.a b.n b.c] [] w K
def xh (t:Option Addr)(w:World)(K:Option Addr->Ub):=qw PG 10 [.pointer t] [Kind.ptr] w K
def vU (s:Option Addr)(id:Int)(w:World)(K:qf->Bool->Ub):=qw PG 11 [.pointer s,Ua id] [Kind.struct qf.rep,Kind.bool] w K
def ku (s:Option Addr)(w:World)(K:Slc->Ub):=qw PG 12 [.pointer s] [Kind.slice] w K
def qfs (a b:Option Addr)(w:World)(K:Bool->Ub):=qw PG 13 [.pointer a,.pointer b] [Kind.bool] w K
def kF (t:Option Addr)(w:World)(K:Slc->Ub):=qw PG 14 [.pointer t] [Kind.slice] w K
def zF (t:Option Addr)(w:World)(K:qf->Int->Ub):=qw PG 15 [.pointer t] [Kind.struct qf.rep,Kind.int .i64] w K
def jm (t:Option Addr)(w:World)(K:Slc->Ub):=qw PG 16 [.pointer t] [Kind.slice] w K
def Vw (l:Slc)(w:World)(K:ByteArray->Ub):=qw PG 17 [.slice l.a l.n l.c] [Kind.string] w K
def qjd (c:qY)(w:World)(K:Option Addr->Int->Ub):=qw PG 18 [ag qY.rep c] [Kind.ptr,Kind.int .i64] w K
def zX (n:Int)(w:World)(K:ByteArray->Ub):=qw PG 19 [Ua n] [Kind.string] w K
def ZJ (p:Option Addr)(b:Slc)(say:Value)(w:World)(K:Ub):=qw PG 20 [.pointer p,.slice b.a b.n b.c,say] [] w K
def Xz (t:Option Addr)(e:ze)(w:World)(K:Ub):=qw PG 21 [.pointer t,ag ze.rep e] [] w K
def QL (e:Option Addr)(w:World)(K:Option Addr->Ub):=qw PG 22 [.pointer e] [Kind.ptr] w K
def xD (s:Option Addr)(id:Int)(w:World)(K:qf->Bool->Ub):=qw PG 23 [.pointer s,Ua id] [Kind.struct qf.rep,Kind.bool] w K
def zI (s:Slc)(w:World)(K:Slc->Ub):=qw PG 24 [.slice s.a s.n s.c] [Kind.slice] w K
def yp (seq:Value)(w:World)(K:Slc->Ub):=qw PG 25 [seq] [Kind.slice] w K
def je (m:Option Nat)(w:World)(K:Value->Ub):=qw PG 26 [.map m] [Kind.raw] w K
def Jy (t:Option Addr)(w:World)(K:Slc->Ub):=qw PG 27 [.pointer t] [Kind.slice] w K
def zG (s1 s2:Slc)(eq:Value)(w:World)(K:Bool->Ub):=qw PG 28 [.slice s1.a s1.n s1.c,.slice s2.a s2.n s2.c,eq] [Kind.bool] w K
def qos (a b:Slc)(w:World)(K:Bool->Ub):=qw PG 29 [.slice a.a a.n a.c,.slice b.a b.n b.c] [Kind.bool] w K
def yT (t:Option Addr)(w:World)(K:qQ->Ub):=qw PG 30 [.pointer t] [Kind.struct qQ.rep] w K
def qc5 (a b:Option Addr)(w:World)(K:Bool->Ub):=qw PG 31 [.pointer a,.pointer b] [Kind.bool] w K
def qaa (a b:Option Addr)(w:World)(K:Bool->Ub):=qw PG 32 [.pointer a,.pointer b] [Kind.bool] w K
def qga (a b:Option Addr)(w:World)(K:Bool->Ub):=qw PG 33 [.pointer a,.pointer b] [Kind.bool] w K
def xl (s:Slc)(w:World)(K:Slc->Ub):=qw PG 34 [.slice s.a s.n s.c] [Kind.slice] w K
def qjx (s:qy)(w:World)(K:qf->Int->Ub):=qw PG 35 [ag qy.rep s] [Kind.struct qf.rep,Kind.int .i64] w K
def XP (t:Option Addr)(image:Value)(w:World)(K:qy->Ub):=qw PG 36 [.pointer t,image] [Kind.struct qy.rep] w K
def JC (e:Option Addr)(id:Int)(w:World)(K:qf->Bool->Ub):=qw PG 37 [.pointer e,Ua id] [Kind.struct qf.rep,Kind.bool] w K
def qbs (f:Value)(w:World)(K:Slc->Ub):=qw PG 38 [f] [Kind.slice] w K
def vI (s:Option Addr)(w:World)(K:Option Addr->Ub):=qw PG 39 [.pointer s] [Kind.ptr] w K
def V7 (g:Option Addr)(row:Int)(w:World)(K:Slc->Bool->Ub):=qw PG 40 [.pointer g,Ua row] [Kind.slice,Kind.bool] w K
def xp (l:Slc)(w:World)(K:Slc->Ub):=qw PG 41 [.slice l.a l.n l.c] [Kind.slice] w K
def kK (b:Option Addr)(c:Int)(w:World)(K:Value->Ub):=qw PG 42 [.pointer b,.int .u8 c] [Kind.raw] w K
def y2 (b:Option Addr)(p:Slc)(w:World)(K:Int->Value->Ub):=qw PG 43 [.pointer b,.slice p.a p.n p.c] [Kind.int .i64,Kind.raw] w K
def qkt (l:Slc)(w:World)(K:Slc->Ub):=qw PG 44 [.slice l.a l.n l.c] [Kind.slice] w K
def ZQ (s cutset:ByteArray)(w:World)(K:ByteArray->Ub):=qw PG 45 [.string s,.string cutset] [Kind.string] w K
def yh (b:Option Addr)(w:World)(K:ByteArray->Ub):=qw PG 46 [.pointer b] [Kind.string] w K
def qi7 (c:qY)(w:World)(K:Option Addr->Int->Ub):=qw PG 47 [ag qY.rep c] [Kind.ptr,Kind.int .i64] w K
def qnu (quota:Int)(w:World)(K:Option Addr->Int->Ub):=qw PG 48 [Ua quota] [Kind.ptr,Kind.int .i64] w K
def qwz (w:World)(K:Option Addr->Ub):=qw PG 49 [] [Kind.ptr] w K
def JR (p:Option Addr)(b:Slc)(w:World)(K:Int->Ub):=qw PG 50 [.pointer p,.slice b.a b.n b.c] [Kind.int .i64] w K
def ZU (p:Option Addr)(c:Int)(w:World)(K:Ub):=qw PG 51 [.pointer p,.int .u8 c] [] w K
def VX (clear:Bool)(most:Int)(w:World)(K:Option Addr->Int->Ub):=qw PG 53 [.bool clear,Ua most] [Kind.ptr,Kind.int .i64] w K
def Vz (t:Option Addr)(b:Slc)(w:World)(K:Ub):=qw PG 54 [.pointer t,.slice b.a b.n b.c] [] w K
def XY (t:Option Addr)(ok:Bool)(w:World)(K:Ub):=qw PG 55 [.pointer t,.bool ok] [] w K
def YR (t:Option Addr)(b:Slc)(w:World)(K:Ub):=qw PG 56 [.pointer t,.slice b.a b.n b.c] [] w K
def Vy (t:Option Addr)(ok:Bool)(w:World)(K:Ub):=qw PG 57 [.pointer t,.bool ok] [] w K
def qnk (e:Option Addr)(w:World)(K:Ub):=qw PG 58 [.pointer e] [] w K
def js (s:Option Addr)(e:ze)(w:World)(K:Slc->Ub):=qw PG 59 [.pointer s,ag ze.rep e] [Kind.slice] w K
def zK (t:Option Addr)(w:World)(K:Ub):=qw PG 60 [.pointer t] [] w K
def JW (s:Option Addr)(w:World)(K:Option Addr->Ub):=qw PG 61 [.pointer s] [Kind.ptr] w K
def Yv (seq:Value)(w:World)(K:Slc->Ub):=qw PG 62 [seq] [Kind.slice] w K
def qab (g:Option Addr)(i:Int)(w:World)(K:Slc->Bool->Ub):=qw PG 65 [.pointer g,Ua i] [Kind.slice,Kind.bool] w K
def vu (s1 s2:Slc)(w:World)(K:Bool->Ub):=qw PG 66 [.slice s1.a s1.n s1.c,.slice s2.a s2.n s2.c] [Kind.bool] w K
def kG (s:Option Addr)(w:World)(K:qQ->Ub):=qw PG 67 [.pointer s] [Kind.struct qQ.rep] w K
def xS (t:Option Addr)(n:Int)(private_:Bool)(w:World)(K:Bool->Ub):=qw PG 68 [.pointer t,Ua n,.bool private_] [Kind.bool] w K
def yH (s1 s2:Slc)(w:World)(K:Bool->Ub):=qw PG 69 [.slice s1.a s1.n s1.c,.slice s2.a s2.n s2.c] [Kind.bool] w K
def jC (s1 s2:Slc)(w:World)(K:Bool->Ub):=qw PG 70 [.slice s1.a s1.n s1.c,.slice s2.a s2.n s2.c] [Kind.bool] w K
def Qd (t:Option Addr)(w:World)(K:Option Addr->Ub):=qw PG 71 [.pointer t] [Kind.ptr] w K
def QB (t:Option Addr)(w:World)(K:Slc->Ub):=qw PG 72 [.pointer t] [Kind.slice] w K
def yq (s:Option Addr)(id:Int)(w:World)(K:Int->Bool->Ub):=qw PG 73 [.pointer s,Ua id] [Kind.int .i64,Kind.bool] w K
def qbx (a b:qf)(w:World)(K:Bool->Ub):=qw PG 74 [ag qf.rep a,ag qf.rep b] [Kind.bool] w K
def yi (a b:Slc)(w:World)(K:Bool->Ub):=qw PG 75 [.slice a.a a.n a.c,.slice b.a b.n b.c] [Kind.bool] w K
def jl (v lo hi:Int)(w:World)(K:Bool->Ub):=qw PG 76 [Ua v,Ua lo,Ua hi] [Kind.bool] w K
def qe3 (wx hx:Int)(w:World)(K:qf->Int->Ub):=qw PG 77 [Ua wx,Ua hx] [Kind.struct qf.rep,Kind.int .i64] w K
def YP (m:qf)(l:Slc)(w:World)(K:qf->Ub):=qw PG 78 [ag qf.rep m,.slice l.a l.n l.c] [Kind.struct qf.rep] w K
def jP (t:Option Addr)(w:World)(K:qu->Ub):=qw PG 79 [.pointer t] [Kind.struct qu.rep] w K
def zq (e:Option Addr)(v:zE)(w:World)(K:Slc->Ub):=qw PG 80 [.pointer e,ag zE.rep v] [Kind.slice] w K
def j9 (s:Option Addr)(w:World)(K:Option Addr->Ub):=qw PG 81 [.pointer s] [Kind.ptr] w K
def V2 (g:Option Addr)(w:World)(K:Option Addr->Ub):=qw PG 82 [.pointer g] [Kind.ptr] w K
def QX (g:Option Addr)(row:Int)(w:World)(K:Bool->Ub):=qw PG 83 [.pointer g,Ua row] [Kind.bool] w K
def zY (s:Slc)(w:World)(K:Slc->Ub):=qw PG 84 [.slice s.a s.n s.c] [Kind.slice] w K
def y8 (l:Slc)(col:Int)(w:World)(K:Bool->Ub):=qw PG 85 [.slice l.a l.n l.c,Ua col] [Kind.bool] w K
def xq (b:Option Addr)(w:World)(K:Ub):=qw PG 86 [.pointer b] [] w K
def qnp (r:Int)(w:World)(K:Bool->Ub):=qw PG 87 [.int .i32 r] [Kind.bool] w K
def y5 (s:ByteArray)(c:Int)(w:World)(K:ByteArray->Ub):=qw PG 88 [.string s,.int .u8 c] [Kind.string] w K
def qdg (c:qY)(w:World)(K:Int->Ub):=qw PG 92 [ag qY.rep c] [Kind.int .i64] w K
def qkc (rows cols back:Int)(w:World)(K:Option Addr->Int->Ub):=qw PG 93 [Ua rows,Ua cols,Ua back] [Kind.ptr,Kind.int .i64] w K
def Qx (s:Option Addr)(w:World)(K:Ub):=qw PG 94 [.pointer s] [] w K
def qns (quota:Int)(w:World)(K:Option Addr->Int->Ub):=qw PG 95 [Ua quota] [Kind.ptr,Kind.int .i64] w K
def qwn (w:World)(K:Option Addr->Ub):=qw PG 96 [] [Kind.ptr] w K
def q36 (w:World)(K:Option Addr->Ub):=qw PG 97 [] [Kind.ptr] w K
def Qj (s:Slc)(f:Value)(w:World)(K:Int->Ub):=qw PG 99 [.slice s.a s.n s.c,f] [Kind.int .i64] w K
def Y1 (c:Int)(w:World)(K:Bool->Ub):=qw PG 100 [.int .u8 c] [Kind.bool] w K
def xO (p:Option Addr)(l:Slc)(w:World)(K:Ub):=qw PG 101 [.pointer p,.slice l.a l.n l.c] [] w K
def QO (p:Option Addr)(c:Int)(w:World)(K:Ub):=qw PG 102 [.pointer p,.int .u8 c] [] w K
def QT (p:Option Addr)(c:Int)(w:World)(K:Ub):=qw PG 103 [.pointer p,.int .u8 c] [] w K
def jG (p:Option Addr)(l:Slc)(w:World)(K:Ub):=qw PG 104 [.pointer p,.slice l.a l.n l.c] [] w K
def vY (d:Option Addr)(w:World)(K:Slc->Ub):=qw PG 105 [.pointer d] [Kind.slice] w K
def ke (p:Option Addr)(b:Int)(w:World)(K:Ub):=qw PG 106 [.pointer p,.int .u8 b] [] w K
def xi (p:Option Addr)(state:Int)(w:World)(K:Ub):=qw PG 107 [.pointer p,Ua state] [] w K
def qff (n:Int)(w:World)(K:qs->Ub):=qw PG 108 [Ua n] [Kind.struct qs.rep] w K
def jk (d:Option Addr)(w:World)(K:Int->Ub):=qw PG 109 [.pointer d] [Kind.int .i64] w K
def vq (d:Option Addr)(b:Slc)(w:World)(K:Int->Ub):=qw PG 110 [.pointer d,.slice b.a b.n b.c] [Kind.int .i64] w K
def zB (e:Option Addr)(n:Int)(w:World)(K:Int->Ub):=qw PG 111 [.pointer e,Ua n] [Kind.int .i64] w K
def jX (t:Option Addr)(w:World)(K:Ub):=qw PG 112 [.pointer t] [] w K
def ZL (d:Option Addr)(w:World)(K:qf->Int->Ub):=qw PG 113 [.pointer d] [Kind.struct qf.rep,Kind.int .i64] w K
def xn (e:Option Addr)(m:qf)(v:qu)(w:World)(K:qg->Ub):=qw PG 114 [.pointer e,ag qf.rep m,ag qu.rep v] [Kind.struct qg.rep] w K
def zS (s:Option Addr)(rows cols:Int)(w:World)(K:Ub):=qw PG 115 [.pointer s,Ua rows,Ua cols] [] w K
def ko (e:Option Addr)(command:Slc)(v:qu)(w:World)(K:qg->Ub):=qw PG 116 [.pointer e,.slice command.a command.n command.c,ag qu.rep v] [Kind.struct qg.rep] w K
def Qv (s:Option Addr)(r:Int)(w:World)(K:Ub):=qw PG 117 [.pointer s,.int .i32 r] [] w K
def Xa (s:Option Addr)(c:Int)(w:World)(K:Ub):=qw PG 118 [.pointer s,.int .u8 c] [] w K
def qku (s:Option Addr)(inter:ByteArray)(c:Int)(w:World)(K:Ub):=qw PG 119 [.pointer s,.string inter,.int .u8 c] [] w K
def kd (s:Option Addr)(e:ze)(w:World)(K:Slc->Ub):=qw PG 120 [.pointer s,ag ze.rep e] [Kind.slice] w K
def yM (s:Option Addr)(w:World)(K:Slc->Ub):=qw PG 121 [.pointer s] [Kind.slice] w K
def qmh (e:Option Addr)(alt:Bool)(line rows from_ to:Int)(w:World)(K:Ub):=qw PG 122 [.pointer e,.bool alt,Ua line,Ua rows,Ua from_,Ua to] [] w K
def yR (s:Option Addr)(w:World)(K:Int->Int->Ub):=qw PG 123 [.pointer s] [Kind.int .i64,Kind.int .i64] w K
def vQ (e:Option Addr)(alt:Bool)(first:Int)(w:World)(K:Ub):=qw PG 124 [.pointer e,.bool alt,Ua first] [] w K
def zZ (m:Option Nat)(w:World)(K:Option Nat->Ub):=qw PG 125 [.map m] [Kind.map] w K
def yf (r:Option Addr)(i:Int)(w:World)(K:Slc->Bool->Ub):=qw PG 129 [.pointer r,Ua i] [Kind.slice,Kind.bool] w K
def QZ (s:Option Addr)(n:Int)(private_:Bool)(w:World)(K:Bool->Bool->Ub):=qw PG 130 [.pointer s,Ua n,.bool private_] [Kind.bool,Kind.bool] w K
def Qu (e:Option Addr)(w:World)(K:Option Addr->Ub):=qw PG 131 [.pointer e] [Kind.ptr] w K
def jd (s:Slc)(w:World)(K:Slc->Ub):=qw PG 132 [.slice s.a s.n s.c] [Kind.slice] w K
def XH (wx hx:Int)(w:World)(K:Bool->Ub):=qw PG 133 [Ua wx,Ua hx] [Kind.bool] w K
def yg (l:Value)(w:World)(K:ByteArray->Ub):=qw PG 134 [l] [Kind.string] w K
def QI (s:Option Addr)(w:World)(K:Int->Int->Ub):=qw PG 135 [.pointer s] [Kind.int .i64,Kind.int .i64] w K
def yo (s:Option Addr)(w:World)(K:Bool->Ub):=qw PG 136 [.pointer s] [Kind.bool] w K
def Ja (s:Option Addr)(w:World)(K:Int->Ub):=qw PG 137 [.pointer s] [Kind.int .i64] w K
def qax (t:Option Addr)(v:zE)(w:World)(K:Slc->Ub):=qw PG 138 [.pointer t,ag zE.rep v] [Kind.slice] w K
def QQ (r:Option Addr)(w:World)(K:Option Addr->Ub):=qw PG 139 [.pointer r] [Kind.ptr] w K
def jt (s:Slc)(w:World)(K:Slc->Ub):=qw PG 140 [.slice s.a s.n s.c] [Kind.slice] w K
def Xw (l:Slc)(col kind:Int)(w:World)(K:Bool->Ub):=qw PG 141 [.slice l.a l.n l.c,Ua col,Ua kind] [Kind.bool] w K
def j6 (v lo hi:Int)(w:World)(K:Bool->Ub):=qw PG 146 [Ua v,Ua lo,Ua hi] [Kind.bool] w K
def qeo (n:Int)(w:World)(K:Bool->Ub):=qw PG 147 [Ua n] [Kind.bool] w K
def Zc (most:Int)(w:World)(K:Option Addr->Int->Ub):=qw PG 148 [Ua most] [Kind.ptr,Kind.int .i64] w K
def XG (g:Option Addr)(a:qA)(w:World)(K:Ub):=qw PG 149 [.pointer g,ag qA.rep a] [] w K
def jJ (s:Option Addr)(w:World)(K:Int->Int->Ub):=qw PG 150 [.pointer s] [Kind.int .i64,Kind.int .i64] w K
def qq8 (cols:Int)(w:World)(K:Option Addr->Int->Ub):=qw PG 151 [Ua cols] [Kind.ptr,Kind.int .i64] w K
def qdm (w:World)(K:qQ->Ub):=qw PG 152 [] [Kind.struct qQ.rep] w K
def KY (s:Option Addr)(w:World)(K:Ub):=qw PG 153 [.pointer s] [] w K
def yu (p:Option Addr)(w:World)(K:Ub):=qw PG 154 [.pointer p] [] w K
def kr (p:Option Addr)(c:Int)(w:World)(K:Ub):=qw PG 155 [.pointer p,.int .u8 c] [] w K
def y6 (p:Option Addr)(c:Int)(w:World)(K:Ub):=qw PG 156 [.pointer p,.int .u8 c] [] w K
def vm (p:Option Addr)(c:Int)(w:World)(K:Ub):=qw PG 157 [.pointer p,.int .u8 c] [] w K
def Q2 (p:Option Addr)(c:Int)(w:World)(K:Ub):=qw PG 158 [.pointer p,.int .u8 c] [] w K
def qbb (d:Option Addr)(w:World)(K:Bool->Ub):=qw PG 159 [.pointer d] [Kind.bool] w K
def vG (v:Int)(w:World)(K:Int->Bool->Ub):=qw PG 160 [Ua v] [Kind.int .u8,Kind.bool] w K
def Zn (d:Option Addr)(c:Int)(w:World)(K:Ub):=qw PG 161 [.pointer d,.int .u8 c] [] w K
def Qt (s:Option Addr)(n:Int)(w:World)(K:Slc->Int->Ub):=qw PG 162 [.pointer s,Ua n] [Kind.slice,Kind.int .i64] w K
def ZP (e:Option Addr)(w:World)(K:Int->Ub):=qw PG 163 [.pointer e] [Kind.int .i64] w K
def kE (e:Option Addr)(ids:Slc)(w:World)(K:Ub):=qw PG 164 [.pointer e,.slice ids.a ids.n ids.c] [] w K
def vM (d:Option Addr)(w:World)(K:Ub):=qw PG 165 [.pointer d] [] w K
def QA (s:Option Addr)(id number:Int)(m:qf)(w:World)(K:Int->Slc->Int->Ub):=qw PG 166 [.pointer s,Ua id,Ua number,ag qf.rep m] [Kind.int .i64,Kind.slice,Kind.int .i64] w K
def jq (e:Option Addr)(k:qh)(id:Int)(v:qu)(w:World)(K:qg->Bool->Ub):=qw PG 167 [.pointer e,ag qh.rep k,Ua id,ag qu.rep v] [Kind.struct qg.rep,Kind.bool] w K
def Ke (w:World)(K:qh->Ub):=qw PG 168 [] [Kind.struct qh.rep] w K
def ji (s:Option Addr)(w:World)(K:Ub):=qw PG 169 [.pointer s] [] w K
def ju (s:Option Addr)(row col:Int)(w:World)(K:Ub):=qw PG 170 [.pointer s,Ua row,Ua col] [] w K
def qj2 (b:Slc)(w:World)(K:Slc->Slc->Ub):=qw PG 171 [.slice b.a b.n b.c] [Kind.slice,Kind.slice] w K
def qi1 (b:Slc)(w:World)(K:qh->Int->Ub):=qw PG 172 [.slice b.a b.n b.c] [Kind.struct qh.rep,Kind.int .i64] w K
def yy (e:Option Addr)(k:qh)(text:Slc)(v:qu)(w:World)(K:qg->Ub):=qw PG 173 [.pointer e,ag qh.rep k,.slice text.a text.n text.c,ag qu.rep v] [Kind.struct qg.rep] w K
def kx (e:Option Addr)(w:World)(K:Ub):=qw PG 174 [.pointer e] [] w K
def QH (e:Option Addr)(k:qh)(text:Slc)(v:qu)(w:World)(K:qg->Ub):=qw PG 175 [.pointer e,ag qh.rep k,.slice text.a text.n text.c,ag qu.rep v] [Kind.struct qg.rep] w K
def ZW (e:Option Addr)(k:qh)(v:qu)(w:World)(K:qg->Ub):=qw PG 176 [.pointer e,ag qh.rep k,ag qu.rep v] [Kind.struct qg.rep] w K
def qlh (e:Option Addr)(k:qh)(v:qu)(w:World)(K:Ub):=qw PG 177 [.pointer e,ag qh.rep k,ag qu.rep v] [] w K
def zP (e:Option Addr)(k:qh)(x:Int)(word:ByteArray)(w:World)(K:qg->Ub):=qw PG 178 [.pointer e,ag qh.rep k,Ua x,.string word] [Kind.struct qg.rep] w K
def qf2 (set b:Int)(w:World)(K:Int->Ub):=qw PG 179 [.int .u8 set,.int .u8 b] [Kind.int .i32] w K
def yr (s:Option Addr)(r:Int)(w:World)(K:Ub):=qw PG 180 [.pointer s,.int .i32 r] [] w K
def quh (s:Option Addr)(col n:Int)(w:World)(K:Int->Ub):=qw PG 181 [.pointer s,Ua col,Ua n] [Kind.int .i64] w K
def Za (p:Slc)(i none_:Int)(w:World)(K:Int->Ub):=qw PG 184 [.slice p.a p.n p.c,Ua i,Ua none_] [Kind.int .i64] w K
def qnd (s:Option Addr)(w:World)(K:Ub):=qw PG 185 [.pointer s] [] w K
def QY (s:Option Addr)(n:Int)(on:Bool)(w:World)(K:Ub):=qw PG 186 [.pointer s,Ua n,.bool on] [] w K
def kh (s:ByteArray)(w:World)(K:Slc->Ub):=qw PG 187 [.string s] [Kind.slice] w K
def vp (s:Option Addr)(w:World)(K:ByteArray->Ub):=qw PG 188 [.pointer s] [Kind.string] w K
def yA (i:Int)(w:World)(K:ByteArray->Ub):=qw PG 189 [Ua i] [Kind.string] w K
def qle (s:Option Addr)(n:Int)(w:World)(K:Int->Ub):=qw PG 190 [.pointer s,Ua n] [Kind.int .i64] w K
def Zj (s:Option Addr)(p:Slc)(c:Int)(w:World)(K:Slc->Ub):=qw PG 191 [.pointer s,.slice p.a p.n p.c,.int .u8 c] [Kind.slice] w K
def QF (e:Option Addr)(l:Slc)(w:World)(K:Ub):=qw PG 192 [.pointer e,.slice l.a l.n l.c] [] w K
def X0 (g:Option Addr)(w:World)(K:Int->Ub):=qw PG 194 [.pointer g] [Kind.int .i64] w K
def J0 (g:Option Addr)(w:World)(K:Int->Ub):=qw PG 195 [.pointer g] [Kind.int .i64] w K
def ZI (t:Option Addr)(alt:Bool)(first:Int)(w:World)(K:Slc->Ub):=qw PG 196 [.pointer t,.bool alt,Ua first] [Kind.slice] w K
def qcd (t:Option Addr)(w:World)(K:Option Addr->Ub):=qw PG 209 [.pointer t] [Kind.ptr] w K
def ZZ (p:qm)(line rows from_ past:Int)(w:World)(K:Bool->Ub):=qw PG 210 [ag qm.rep p,Ua line,Ua rows,Ua from_,Ua past] [Kind.bool] w K
def jc (x:Slc)(cmp:Value)(w:World)(K:Ub):=qw PG 211 [.slice x.a x.n x.c,cmp] [] w K
def Qp (a b:qm)(w:World)(K:Int->Ub):=qw PG 212 [ag qm.rep a,ag qm.rep b] [Kind.int .i64] w K
def va (g:Option Addr)(n:Int)(a:qA)(w:World)(K:Slc->Ub):=qw PG 216 [.pointer g,Ua n,ag qA.rep a] [Kind.slice] w K
def Vs (g:Option Addr)(w:World)(K:Int->Int->Ub):=qw PG 217 [.pointer g] [Kind.int .i64,Kind.int .i64] w K
def ZR (s:Option Addr)(cols:Int)(w:World)(K:Int->Ub):=qw PG 218 [.pointer s,Ua cols] [Kind.int .i64] w K
def kq (c:Int)(w:World)(K:Bool->Ub):=qw PG 219 [.int .u8 c] [Kind.bool] w K
def qau (p:Option Addr)(c:Int)(w:World)(K:Ub):=qw PG 220 [.pointer p,.int .u8 c] [] w K
def yx (p:Option Addr)(c:Int)(w:World)(K:Ub):=qw PG 221 [.pointer p,.int .u8 c] [] w K
def QK (p:Option Addr)(c:Int)(w:World)(K:Bool->Ub):=qw PG 222 [.pointer p,.int .u8 c] [Kind.bool] w K
def XI (d:Option Addr)(b:Int)(w:World)(K:Slc->Ub):=qw PG 223 [.pointer d,.int .u8 b] [Kind.slice] w K
def yw (p:Option Addr)(w:World)(K:Ub):=qw PG 224 [.pointer p] [] w K
def Zl (p:Option Addr)(c:Int)(w:World)(K:Ub):=qw PG 225 [.pointer p,.int .u8 c] [] w K
def vR (d:Option Addr)(w:World)(K:Ub):=qw PG 226 [.pointer d] [] w K
def Q1 (d:Option Addr)(v n:Int)(w:World)(K:Ub):=qw PG 227 [.pointer d,Ua v,Ua n] [] w K
def yZ (s:Option Addr)(n:Int)(w:World)(K:Slc->Ub):=qw PG 228 [.pointer s,Ua n] [Kind.slice] w K
def JV (l:Option Addr)(w:World)(K:Int->Ub):=qw PG 229 [.pointer l] [Kind.int .i64] w K
def JF (t:Option Addr)(image:Int)(w:World)(K:Int->Ub):=qw PG 230 [.pointer t,Ua image] [Kind.int .i64] w K
def jO (d:Option Addr)(i:Int)(w:World)(K:Int->Ub):=qw PG 231 [.pointer d,Ua i] [Kind.int .i64] w K
def Qy (d:Option Addr)(w:World)(K:Ub):=qw PG 232 [.pointer d] [] w K
def vX (d:Option Addr)(wx hx:Int)(w:World)(K:Bool->Ub):=qw PG 233 [.pointer d,Ua wx,Ua hx] [Kind.bool] w K
def ye (m:qf)(w:World)(K:Bool->Ub):=qw PG 234 [ag qf.rep m] [Kind.bool] w K
def Z6 (n:Int)(w:World)(K:Bool->Ub):=qw PG 235 [Ua n] [Kind.bool] w K
def vr (s:Option Addr)(w:World)(K:Ub):=qw PG 236 [.pointer s] [] w K
def kZ (s:Option Addr)(id:Int)(w:World)(K:Bool->Ub):=qw PG 237 [.pointer s,Ua id] [Kind.bool] w K
def V1 (s:Option Addr)(id:Int)(w:World)(K:Bool->Ub):=qw PG 238 [.pointer s,Ua id] [Kind.bool] w K
def Zo (e:Option Addr)(k:qh)(id:Int)(v:qu)(w:World)(K:qm->Int->Ub):=qw PG 239 [.pointer e,ag qh.rep k,Ua id,ag qu.rep v] [Kind.struct qm.rep,Kind.int .i64] w K
def Kd (t:Option Addr)(p:qm)(w:World)(K:Int->Ub):=qw PG 240 [.pointer t,ag qm.rep p] [Kind.int .i64] w K
def xV (g:Option Addr)(top past n:Int)(a:qA)(w:World)(K:Int->Ub):=qw PG 241 [.pointer g,Ua top,Ua past,Ua n,ag qA.rep a] [Kind.int .i64] w K
def xM (s:Option Addr)(w:World)(K:qA->Ub):=qw PG 242 [.pointer s] [Kind.struct qA.rep] w K
def qbp (v lo hi:Int)(w:World)(K:Int->Ub):=qw PG 243 [Ua v,Ua lo,Ua hi] [Kind.int .i64] w K
def qm8 (s sep:Slc)(w:World)(K:Slc->Slc->Bool->Ub):=qw PG 244 [.slice s.a s.n s.c,.slice sep.a sep.n sep.c] [Kind.slice,Kind.slice,Kind.bool] w K
def Jf (b:Slc)(w:World)(K:Slc->Ub):=qw PG 245 [.slice b.a b.n b.c] [Kind.slice] w K
def YQ (s sep:ByteArray)(w:World)(K:Slc->Ub):=qw PG 246 [.string s,.string sep] [Kind.slice] w K
def qac (k:Option Addr)(s:ByteArray)(w:World)(K:Bool->Ub):=qw PG 247 [.pointer k,.string s] [Kind.bool] w K
def XA (l:Option Addr)(text:Slc)(w:World)(K:Int->Ub):=qw PG 248 [.pointer l,.slice text.a text.n text.c] [Kind.int .i64] w K
def JS (e:Option Addr)(k:qh)(v:qu)(w:World)(K:qg->Ub):=qw PG 249 [.pointer e,ag qh.rep k,ag qu.rep v] [Kind.struct qg.rep] w K
def qrz (k:qh)(room:Int)(w:World)(K:Option Addr->Int->Ub):=qw PG 250 [ag qh.rep k,Ua room] [Kind.ptr,Kind.int .i64] w K
def QN (e:Option Addr)(k:qh)(w:World)(K:Int->Bool->Ub):=qw PG 251 [.pointer e,ag qh.rep k] [Kind.int .i64,Kind.bool] w K
def Kb (s:Option Addr)(id:Int)(w:World)(K:Bool->Ub):=qw PG 252 [.pointer s,Ua id] [Kind.bool] w K
def QS (s:Option Addr)(n:Int)(w:World)(K:Int->Bool->Ub):=qw PG 253 [.pointer s,Ua n] [Kind.int .i64,Kind.bool] w K
def Zi (e:Option Addr)(ids:Slc)(goes:Value)(w:World)(K:Ub):=qw PG 255 [.pointer e,.slice ids.a ids.n ids.c,goes] [] w K
def qxb (e:Int)(w:World)(K:ByteArray->Ub):=qw PG 257 [Ua e] [Kind.string] w K
def qjq (k:qh)(word:ByteArray)(w:World)(K:Slc->Ub):=qw PG 258 [ag qh.rep k,.string word] [Kind.slice] w K
def qvy (w:World)(K:Slc->Ub):=qw PG 259 [] [Kind.slice] w K
def qni (r:Int)(w:World)(K:Int->Ub):=qw PG 260 [.int .i32 r] [Kind.int .i64] w K
def JI (g:Option Addr)(row:Int)(f:Value)(w:World)(K:Bool->Ub):=qw PG 261 [.pointer g,Ua row,f] [Kind.bool] w K
def Vo (l:Slc)(c0 c1 c2:Addr)(w:World)(K:Slc->Ub):=qw PG 262 [.slice l.a l.n l.c,.pointer (some c0),.pointer (some c1),.pointer (some c2)] [Kind.slice] w K
def JL (l:Slc)(col n:Int)(a:qA)(w:World)(K:Slc->Ub):=qw PG 263 [.slice l.a l.n l.c,Ua col,Ua n,ag qA.rep a] [Kind.slice] w K
def YS (l:Slc)(col r width:Int)(a:qA)(w:World)(K:Slc->Bool->Ub):=qw PG 264 [.slice l.a l.n l.c,Ua col,.int .i32 r,Ua width,ag qA.rep a] [Kind.slice,Kind.bool] w K
def V4 (s:Option Addr)(w:World)(K:Slc->Ub):=qw PG 267 [.pointer s] [Kind.slice] w K
def qr6 (cols:Int)(a:qA)(w:World)(K:Slc->Ub):=qw PG 268 [Ua cols,ag qA.rep a] [Kind.slice] w K
def qna (s:Option Addr)(w:World)(K:Ub):=qw PG 272 [.pointer s] [] w K
def qhj (s:Option Addr)(w:World)(K:Ub):=qw PG 273 [.pointer s] [] w K
def qmi (s:Option Addr)(w:World)(K:Ub):=qw PG 275 [.pointer s] [] w K
def Yb (s:Option Addr)(to:Int)(all:Bool)(w:World)(K:Ub):=qw PG 276 [.pointer s,Ua to,.bool all] [] w K
def q4x (a:qA)(params:Slc)(w:World)(K:qA->Ub):=qw PG 278 [ag qA.rep a,.slice params.a params.n params.c] [Kind.struct qA.rep] w K
def qgp (s:Option Addr)(p:Slc)(w:World)(K:Ub):=qw PG 279 [.pointer s,.slice p.a p.n p.c] [] w K
def qq4 (s:Option Addr)(col:Int)(w:World)(K:Bool->Ub):=qw PG 280 [.pointer s,Ua col] [Kind.bool] w K
def qtg (s:Option Addr)(w:World)(K:Ub):=qw PG 281 [.pointer s] [] w K
def qlz (s:Option Addr)(n:Int)(w:World)(K:Ub):=qw PG 282 [.pointer s,Ua n] [] w K
def qg0 (s:Option Addr)(how:Int)(w:World)(K:Ub):=qw PG 283 [.pointer s,Ua how] [] w K
def qjl (s:Option Addr)(how:Int)(w:World)(K:Ub):=qw PG 284 [.pointer s,Ua how] [] w K
def Qs (s:Option Addr)(c n:Int)(w:World)(K:Ub):=qw PG 285 [.pointer s,.int .u8 c,Ua n] [] w K
def Kr (s:Option Addr)(c n:Int)(w:World)(K:Ub):=qw PG 286 [.pointer s,.int .u8 c,Ua n] [] w K
def qm9 (s:Option Addr)(p:Slc)(c n:Int)(w:World)(K:Ub):=qw PG 287 [.pointer s,.slice p.a p.n p.c,.int .u8 c,Ua n] [] w K
def XJ (id:Int)(w:World)(K:Bool->Ub):=qw PG 288 [Ua id] [Kind.bool] w K
def kW (t:Option Addr)(goes:Value)(w:World)(K:Slc->Ub):=qw PG 289 [.pointer t,goes] [Kind.slice] w K
def Vt (g:Option Addr)(w:World)(K:Int->Ub):=qw PG 291 [.pointer g] [Kind.int .i64] w K
def K5 (p:qm)(c0 c1:Addr)(w:World)(K:Bool->Ub):=qw PG 292 [ag qm.rep p,.pointer (some c0),.pointer (some c1)] [Kind.bool] w K
def vh (data:Slc)(n:Int)(cmp:Value)(w:World)(K:Ub):=qw PG 299 [.slice data.a data.n data.c,Ua n,cmp] [] w K
def k6 (s:ByteArray)(c:Int)(w:World)(K:Int->Ub):=qw PG 301 [.string s,.int .u8 c] [Kind.int .i64] w K
def qcx (n:Int)(w:World)(K:Int->Ub):=qw PG 303 [Ua n] [Kind.int .i64] w K
def ZV (d:Option Addr)(b:Int)(w:World)(K:Slc->Ub):=qw PG 305 [.pointer d,.int .u8 b] [Kind.slice] w K
def kI (s:Slc)(w:World)(K:Slc->Ub):=qw PG 306 [.slice s.a s.n s.c] [Kind.slice] w K
def Zg (a b:Int)(c0:Addr)(w:World)(K:Int->Ub):=qw PG 307 [Ua a,Ua b,.pointer (some c0)] [Kind.int .i64] w K
def yv (x y:Int)(w:World)(K:Int->Ub):=qw PG 308 [Ua x,Ua y] [Kind.int .i64] w K
def ya (x:Slc)(cmp:Value)(w:World)(K:Int->Ub):=qw PG 309 [.slice x.a x.n x.c,cmp] [Kind.int .i64] w K
def YM (p:qm)(c0:Addr)(w:World)(K:Bool->Ub):=qw PG 310 [ag qm.rep p,.pointer (some c0)] [Kind.bool] w K
def qnx (hx l s:Int)(w:World)(K:qs->Bool->Ub):=qw PG 311 [Ua hx,Ua l,Ua s] [Kind.struct qs.rep,Kind.bool] w K
def qbg (at_ n side:Int)(w:World)(K:Int->Ub):=qw PG 312 [Ua at_,Ua n,Ua side] [Kind.int .i64] w K
def VO (wx hx dx dy cw ch:Int)(w:World)(K:Int->Int->Ub):=qw PG 313 [Ua wx,Ua hx,Ua dx,Ua dy,Ua cw,Ua ch] [Kind.int .i64,Kind.int .i64] w K
def xe (v lo hi:Int)(w:World)(K:Bool->Ub):=qw PG 314 [Ua v,Ua lo,Ua hi] [Kind.bool] w K
def qob (p:qm)(w:World)(K:Bool->Ub):=qw PG 315 [ag qm.rep p] [Kind.bool] w K
def qaq (o:qm)(c0:Addr)(w:World)(K:Bool->Ub):=qw PG 316 [ag qm.rep o,.pointer (some c0)] [Kind.bool] w K
def zR (slices:Slc)(w:World)(K:Slc->Ub):=qw PG 317 [.slice slices.a slices.n slices.c] [Kind.slice] w K
def x9 (r:Option Addr)(t:Slc)(w:World)(K:Slc->Bool->Ub):=qw PG 318 [.pointer r,.slice t.a t.n t.c] [Kind.slice,Kind.bool] w K
def qgf (s sep:Slc)(w:World)(K:Int->Ub):=qw PG 319 [.slice s.a s.n s.c,.slice sep.a sep.n sep.c] [Kind.int .i64] w K
def qb5 (s sep:ByteArray)(sepSave n:Int)(w:World)(K:Slc->Ub):=qw PG 320 [.string s,.string sep,Ua sepSave,Ua n] [Kind.slice] w K
def qkq (s:ByteArray)(w:World)(K:Int->Bool->Ub):=qw PG 321 [.string s] [Kind.int .i64,Kind.bool] w K
def Zq (k:Option Addr)(c:Int)(w:World)(K:Option Addr->Ub):=qw PG 322 [.pointer k,.int .u8 c] [Kind.ptr] w K
def qdo (c:Int)(w:World)(K:Bool->Ub):=qw PG 323 [.int .u8 c] [Kind.bool] w K
def Qb (k:Option Addr)(c:Int)(w:World)(K:Option Addr->Ub):=qw PG 324 [.pointer k,.int .u8 c] [Kind.ptr] w K
def qfb (s:ByteArray)(w:World)(K:Int->Bool->Ub):=qw PG 325 [.string s] [Kind.int .i64,Kind.bool] w K
def QU (d:Option Addr)(c:Int)(w:World)(K:Slc->Int->Ub):=qw PG 326 [.pointer d,.int .u8 c] [Kind.slice,Kind.int .i64] w K
def vf (l:Option Addr)(b:Slc)(w:World)(K:Int->Ub):=qw PG 327 [.pointer l,.slice b.a b.n b.c] [Kind.int .i64] w K
def jE (l:Option Addr)(e:Int)(w:World)(K:Ub):=qw PG 328 [.pointer l,Ua e] [] w K
def XB (l:Option Addr)(w:World)(K:qf->Int->Ub):=qw PG 329 [.pointer l] [Kind.struct qf.rep,Kind.int .i64] w K
def ZK (e:Option Addr)(k:qh)(m:qf)(v:qu)(w:World)(K:qg->Ub):=qw PG 330 [.pointer e,ag qh.rep k,ag qf.rep m,ag qu.rep v] [Kind.struct qg.rep] w K
def qit (k:qh)(w:World)(K:Int->Int->Ub):=qw PG 331 [ag qh.rep k] [Kind.int .i64,Kind.int .i64] w K
def qak (w:World)(K:Option Addr->Ub):=qw PG 332 [] [Kind.ptr] w K
def X3 (t:Option Addr)(image:Int)(w:World)(K:Bool->Ub):=qw PG 335 [.pointer t,Ua image] [Kind.bool] w K
def qn2 (elems:Slc)(sep:ByteArray)(w:World)(K:ByteArray->Ub):=qw PG 336 [.slice elems.a elems.n elems.c,.string sep] [Kind.string] w K
def qsv (r:Int)(l:Slc)(w:World)(K:Bool->Ub):=qw PG 337 [.int .i32 r,.slice l.a l.n l.c] [Kind.bool] w K
def qre (w:World)(K:Slc->Ub):=qw PG 338 [] [Kind.slice] w K
def qr3 (w:World)(K:Slc->Ub):=qw PG 339 [] [Kind.slice] w K
def JK (l:Slc)(cols:Int)(w:World)(K:Slc->Ub):=qw PG 340 [.slice l.a l.n l.c,Ua cols] [Kind.slice] w K
def VC (l:Slc)(col n:Int)(w:World)(K:Int->Ub):=qw PG 341 [.slice l.a l.n l.c,Ua col,Ua n] [Kind.int .i64] w K
def jv (slices:Slc)(w:World)(K:Slc->Ub):=qw PG 342 [.slice slices.a slices.n slices.c] [Kind.slice] w K
def Jo (n:Int)(a:qA)(w:World)(K:Slc->Ub):=qw PG 343 [Ua n,ag qA.rep a] [Kind.slice] w K
def JG (l:Slc)(from_ to:Int)(w:World)(K:Slc->Ub):=qw PG 344 [.slice l.a l.n l.c,Ua from_,Ua to] [Kind.slice] w K
def vz (m:Option Nat)(w:World)(K:Value->Ub):=qw PG 345 [.map m] [Kind.raw] w K
def vB (r:Option Addr)(w:World)(K:Int->Ub):=qw PG 357 [.pointer r] [Kind.int .i64] w K
def zT (data:Slc)(a b:Int)(cmp:Value)(w:World)(K:Ub):=qw PG 359 [.slice data.a data.n data.c,Ua a,Ua b,cmp] [] w K
def k7 (data:Slc)(a m b:Int)(cmp:Value)(w:World)(K:Ub):=qw PG 360 [.slice data.a data.n data.c,Ua a,Ua m,Ua b,cmp] [] w K
def XU (x:Int)(w:World)(K:Bool->Ub):=qw PG 362 [Ua x] [Kind.bool] w K
def VJ (n more size:Int)(w:World)(K:Int->Ub):=qw PG 363 [Ua n,Ua more,Ua size] [Kind.int .i64] w K
def jy (v lo hi:Int)(w:World)(K:Bool->Ub):=qw PG 364 [Ua v,Ua lo,Ua hi] [Kind.bool] w K
def xu (s:Slc)(n:Int)(w:World)(K:Slc->Ub):=qw PG 365 [.slice s.a s.n s.c,Ua n] [Kind.slice] w K
def vj (r:Option Addr)(w:World)(K:Ub):=qw PG 366 [.pointer r] [] w K
def Km (b:Slc)(c:Int)(w:World)(K:Int->Ub):=qw PG 367 [.slice b.a b.n b.c,.int .u8 c] [Kind.int .i64] w K
def Zf (s sep:Slc)(w:World)(K:Int->Ub):=qw PG 369 [.slice s.a s.n s.c,.slice sep.a sep.n sep.c] [Kind.int .i64] w K
def qud (s:ByteArray)(n:Int)(w:World)(K:Slc->Ub):=qw PG 370 [.string s,Ua n] [Kind.slice] w K
def qk6 (s substr:ByteArray)(w:World)(K:Int->Ub):=qw PG 371 [.string s,.string substr] [Kind.int .i64] w K
def qk7 (s substr:ByteArray)(w:World)(K:Int->Ub):=qw PG 372 [.string s,.string substr] [Kind.int .i64] w K
def ZH (s prefix_:ByteArray)(w:World)(K:ByteArray->Bool->Ub):=qw PG 373 [.string s,.string prefix_] [Kind.string,Kind.bool] w K
def QE (d:Option Addr)(c:Int)(w:World)(K:Slc->Bool->Ub):=qw PG 374 [.pointer d,.int .u8 c] [Kind.slice,Kind.bool] w K
def JP (l:Option Addr)(w:World)(K:Ub):=qw PG 375 [.pointer l] [] w K
def Ze (d:Option Addr)(w:World)(K:Slc->Int->Ub):=qw PG 376 [.pointer d] [Kind.slice,Kind.int .i64] w K
def xL (slices:Slc)(w:World)(K:Slc->Ub):=qw PG 377 [.slice slices.a slices.n slices.c] [Kind.slice] w K
def qm4 (l:Option Addr)(b:Slc)(w:World)(K:Slc->Int->Ub):=qw PG 378 [.pointer l,.slice b.a b.n b.c] [Kind.slice,Kind.int .i64] w K
def ZG (l:Option Addr)(b:Slc)(w:World)(K:qf->Int->Ub):=qw PG 379 [.pointer l,.slice b.a b.n b.c] [Kind.struct qf.rep,Kind.int .i64] w K
def VM (n:Int)(w:World)(K:Bool->Ub):=qw PG 380 [Ua n] [Kind.bool] w K
def xg (s:Slc)(f:Value)(w:World)(K:Bool->Ub):=qw PG 381 [.slice s.a s.n s.c,f] [Kind.bool] w K
def qar (p:qm)(c0:Addr)(w:World)(K:Bool->Ub):=qw PG 382 [ag qm.rep p,.pointer (some c0)] [Kind.bool] w K
def xC (s:Slc)(n:Int)(w:World)(K:Slc->Ub):=qw PG 385 [.slice s.a s.n s.c,Ua n] [Kind.slice] w K
def vW (s prefix_:ByteArray)(w:World)(K:ByteArray->Bool->Ub):=qw PG 402 [.string s,.string prefix_] [Kind.string,Kind.bool] w K
def kJ (d:Option Addr)(w:World)(K:Bool->Ub):=qw PG 403 [.pointer d] [Kind.bool] w K
def kH (d:Option Addr)(w:World)(K:Slc->Ub):=qw PG 404 [.pointer d] [Kind.slice] w K
def X8 (d:Option Addr)(w:World)(K:Ub):=qw PG 405 [.pointer d] [] w K
def y3 (s:Slc)(n:Int)(w:World)(K:Slc->Ub):=qw PG 406 [.slice s.a s.n s.c,Ua n] [Kind.slice] w K
def V6 (wx hx:Int)(b:Slc)(w:World)(K:qf->Int->Ub):=qw PG 408 [Ua wx,Ua hx,.slice b.a b.n b.c] [Kind.struct qf.rep,Kind.int .i64] w K
def q5v (b:Slc)(pixels:Int)(w:World)(K:qf->Int->Ub):=qw PG 409 [.slice b.a b.n b.c,Ua pixels] [Kind.struct qf.rep,Kind.int .i64] w K
def YU (wx hx:Int)(b:Slc)(w:World)(K:qf->Int->Ub):=qw PG 410 [Ua wx,Ua hx,.slice b.a b.n b.c] [Kind.struct qf.rep,Kind.int .i64] w K
def xA (s:Slc)(f:Value)(w:World)(K:Int->Ub):=qw PG 411 [.slice s.a s.n s.c,f] [Kind.int .i64] w K
def xB (s prefix_:ByteArray)(w:World)(K:Bool->Ub):=qw PG 422 [.string s,.string prefix_] [Kind.bool] w K
def qbh (wx hx per:Int)(b:Slc)(w:World)(K:qf->Int->Ub):=qw PG 427 [Ua wx,Ua hx,Ua per,.slice b.a b.n b.c] [Kind.struct qf.rep,Kind.int .i64] w K
def yK (s:qy)(f:Value)(w:World)(K:Ub):=qw PG 522 [ag qy.rep s,f] [] w K
def Qq (l:qP)(m:qf)(w:World)(K:qf->Ub):=qw PG 526 [ag qP.rep l,ag qf.rep m] [Kind.struct qf.rep] w K
def Xe (row col:Int)(c:zl)(c0 c1:Addr)(w:World)(K:Ub):=qw PG 527 [Ua row,Ua col,ag zl.rep c,.pointer (some c0),.pointer (some c1)] [] w K
def VI (a:qA)(w:World)(K:qs->qs->Ub):=qw PG 528 [ag qA.rep a] [Kind.struct qs.rep,Kind.struct qs.rep] w K
def qbw (m:qf)(x y wx hx:Int)(c:qt)(w:World)(K:Ub):=qw PG 529 [ag qf.rep m,Ua x,Ua y,Ua wx,Ua hx,ag qt.rep c] [] w K
def zz (c:qs)(w:World)(K:qt->Ub):=qw PG 530 [ag qs.rep c] [Kind.struct qt.rep] w K
def JE (s:qy)(row col:Int)(w:World)(K:zl->Ub):=qw PG 531 [ag qy.rep s,Ua row,Ua col] [Kind.struct zl.rep] w K
def qbm (c:Int)(fore:Bool)(w:World)(K:qs->Ub):=qw PG 532 [Ua c,.bool fore] [Kind.struct qs.rep] w K
def qtu (c:Int)(w:World)(K:Bool->Ub):=qw PG 533 [Ua c] [Kind.bool] w K
def VH (v:Int)(w:World)(K:qs->Ub):=qw PG 534 [Ua v] [Kind.struct qs.rep] w K
def q48 (n:Int)(w:World)(K:qs->Ub):=qw PG 535 [Ua n] [Kind.struct qs.rep] w K
def vJ (l:jb)(m:qf)(w:World)(K:qf->Ub):=qw PG 536 [ag jb.rep l,ag qf.rep m] [Kind.struct qf.rep] w K
def qb6 (s:qy)(p:qm)(w:World)(K:Int->Int->Int->Int->Ub):=qw PG 537 [ag qy.rep s,ag qm.rep p] [Kind.int .i64,Kind.int .i64,Kind.int .i64,Kind.int .i64] w K
def qmg (m:qf)(x y wx hx:Int)(w:World)(K:qf->Ub):=qw PG 538 [ag qf.rep m,Ua x,Ua y,Ua wx,Ua hx] [Kind.struct qf.rep] w K
def qoj (out src:qf)(x y wx hx:Int)(w:World)(K:Ub):=qw PG 539 [ag qf.rep out,ag qf.rep src,Ua x,Ua y,Ua wx,Ua hx] [] w K
def Z2 (at_ n side:Int)(w:World)(K:Int->Int->Ub):=qw PG 540 [Ua at_,Ua n,Ua side] [Kind.int .i64,Kind.int .i64] w K
def yL (dst src:qt)(w:World)(K:qt->Ub):=qw PG 541 [ag qt.rep dst,ag qt.rep src] [Kind.struct qt.rep] w K
def yJ (m:qf)(x y:Int)(w:World)(K:qt->Ub):=qw PG 542 [ag qf.rep m,Ua x,Ua y] [Kind.struct qt.rep] w K
def Zb (l:qP)(m:qf)(w:World)(K:qf->Ub):=qw PG 543 [ag qP.rep l,ag qf.rep m] [Kind.struct qf.rep] w K
def X6 (row col:Int)(c:zl)(c0 c1:Addr)(w:World)(K:Ub):=qw PG 544 [Ua row,Ua col,ag zl.rep c,.pointer (some c0),.pointer (some c1)] [] w K
def qmv (r wx hx:Int)(a:qA)(lay:Value)(w:World)(K:Ub):=qw PG 545 [.int .i32 r,Ua wx,Ua hx,ag qA.rep a,lay] [] w K
def Jt (x y wx hx:Int)(k:qt)(c0 c1 c2 c3:Addr)(w:World)(K:Ub):=qw PG 546 [Ua x,Ua y,Ua wx,Ua hx,ag qt.rep k,.pointer (some c0),.pointer (some c1),.pointer (some c2),.pointer (some c3)] [] w K
def QV (l:qP)(m:qf)(w:World)(K:qf->Ub):=qw PG 547 [ag qP.rep l,ag qf.rep m] [Kind.struct qf.rep] w K
abbrev yE:List Value:=[Ua 0,Ua 0,.slice none 0 0]
abbrev xb:List Value:=[.int .u8 0,.int .u8 0,.int .u8 0,.int .u8 0]
abbrev xz:List Value:=[.slice none 0 0,Ua 0,Ua 0,.bool false]
abbrev xG:List Value:=[Ua 0,Ua 0,Ua 0,Ua 0,.slice none 0 0,.slice none 0 0,.map none,Ua 0,.bool false,Ua 0,Ua 0]
abbrev xW:List Value:=[.int .u8 0,.int .u8 0,.int .u8 0,.int .u8 0,Ua 0,Ua 0,Ua 0,Ua 0,Ua 0,Ua 0,Ua 0,Ua 0,Ua 0,Ua 0,Ua 0,Ua 0,Ua 0,Ua 0,Ua 0,Ua 0,Ua 0,Ua 0]
abbrev xX:List Value:=[Ua 0,Ua 0,.bool false,Ua 0,Ua 0,Ua 0,Ua 0,Ua 0,Ua 0,Ua 0,Ua 0,Ua 0,Ua 0,Ua 0]
abbrev vi:List Value:=[.int .u8 0,.int .u8 0,.int .u8 0]
abbrev vl:List Value:=[Ua 0,Ua 0,.bool false,Ua 0,Ua 0,Ua 0,.bool false,.int .u8 0,.int .u8 0,Ua 0]
abbrev vw:List Value:=[Ua 0,Ua 0,Ua 0,.slice none 0 0,Ua 0,Ua 0]
abbrev vx:List Value:=[.slice none 0 0]
abbrev vy:List Value:=[.int .i32 0,Ua 0,Ua 0,Ua 0,Ua 0]
abbrev vD:List Value:=[.bool false]
abbrev ua:List Value:=[.int .i32 0,Ua 0,.int .u8 0,.int .u8 0]
abbrev ub:=Option Addr
abbrev uc:=ByteArray
end Go.Proofs.YtjhgepnpnapnoaaGreatDoor
