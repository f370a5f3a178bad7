import Derived.Test.YtlmpnfhmpjldaaaGreatDoorVc
import Derived.Test.YtlmpnfhmpjldaaaGreatDoorChecked
import Derived.KernelRfl
set_option maxRecDepth 100000
set_option linter.unusedVariables false
namespace Go.Proofs.YtlmpnfhmpjldaaaGreatDoor
open Go.Vc
structure qo where
 Rows:Int
 Cols:Int
 CellW:Int
 CellH:Int
 Back:Int
 Quota:Int
def qo.rep:Rep where
 T:=qo
 cells x:=[Ua x.Rows,Ua x.Cols,Ua x.CellW,Ua x.CellH,Ua x.Back,Ua x.Quota]
 get:=jc [.int .i64,.int .i64,.int .i64,.int .i64,.int .i64,.int .i64] qo.mk
 ok:=qT λ_=>rfl
structure qa where
 W:Int
 H:Int
 P:Slc
def qa.rep:Rep where
 T:=qa
 cells x:=[Ua x.W,Ua x.H,.slice x.P.a x.P.n x.P.c]
 get:=jc [.int .i64,.int .i64,.slice] qa.mk
 ok:=qT λ_=>rfl
structure kK where
 e0:Int
 e1:Int
def kK.rep:Rep where
 T:=kK
 cells x:=[Ua x.e0,Ua x.e1]
 get:=jc [.int .i64,.int .i64] kK.mk
 ok:=qT λ_=>rfl
structure qkr where
 c:qo
 s:Option Addr
 e:Option Addr
 p:Option Addr
 d:Option Addr
 command:Slc
 long:Bool
 replies:Slc
 firsts:kK
def qkr.rep:Rep where
 T:=qkr
 cells x:=[Ua x.c.Rows,Ua x.c.Cols,Ua x.c.CellW,Ua x.c.CellH,Ua x.c.Back,Ua x.c.Quota,.pointer x.s,.pointer x.e,.pointer x.p,.pointer x.d,.slice x.command.a x.command.n x.command.c,.bool x.long,.slice x.replies.a x.replies.n x.replies.c,Ua x.firsts.e0,Ua x.firsts.e1]
 get:=jc [.int .i64,.int .i64,.int .i64,.int .i64,.int .i64,.int .i64,.ptr,.ptr,.ptr,.ptr,.slice,.bool,.slice,.int .i64,.int .i64] (λv0 v1 v2 v3 v4 v5 v6 v7 v8 v9 v10 v11 v12 v13 v14=>⟨⟨v0,v1,v2,v3,v4,v5⟩,v6,v7,v8,v9,v10,v11,v12,⟨v13,v14⟩⟩)
 ok:=qT λ_=>rfl
structure Zo where
 Need:Int
 V:Int
 Lo:Int
 Hi:Int
def Zo.rep:Rep where
 T:=Zo
 cells x:=[Ua x.Need,Ua x.V,.int .u8 x.Lo,.int .u8 x.Hi]
 get:=jc [.int .i64,.int .i64,.int .u8,.int .u8] Zo.mk
 ok:=qT λ_=>rfl
structure qho where
 S:Int
 Ends:Bool
 U:Zo
 Private:Int
 Inter:Slc
 Wrong:Bool
 First:Bool
 Params:Slc
 Some:Bool
 Last:Int
 Count:Int
 Data:Slc
 out:Slc
def qho.rep:Rep where
 T:=qho
 cells x:=[Ua x.S,.bool x.Ends,Ua x.U.Need,Ua x.U.V,.int .u8 x.U.Lo,.int .u8 x.U.Hi,.int .u8 x.Private,.slice x.Inter.a x.Inter.n x.Inter.c,.bool x.Wrong,.bool x.First,.slice x.Params.a x.Params.n x.Params.c,.bool x.Some,Ua x.Last,Ua x.Count,.slice x.Data.a x.Data.n x.Data.c,.slice x.out.a x.out.n x.out.c]
 get:=jc [.int .i64,.bool,.int .i64,.int .i64,.int .u8,.int .u8,.int .u8,.slice,.bool,.bool,.slice,.bool,.int .i64,.int .i64,.slice,.slice] (λv0 v1 v2 v3 v4 v5 v6 v7 v8 v9 v10 v11 v12 v13 v14 v15=>⟨v0,v1,⟨v2,v3,v4,v5⟩,v6,v7,v8,v9,v10,v11,v12,v13,v14,v15⟩)
 ok:=qT λ_=>rfl
structure qpo where
 C:qo
 S:Option Addr
 E:Option Addr
 P:Option Addr
 D:Option Addr
 Cmd:Slc
 Long:Bool
 Reply:Slc
def qpo.rep:Rep where
 T:=qpo
 cells x:=[Ua x.C.Rows,Ua x.C.Cols,Ua x.C.CellW,Ua x.C.CellH,Ua x.C.Back,Ua x.C.Quota,.pointer x.S,.pointer x.E,.pointer x.P,.pointer x.D,.slice x.Cmd.a x.Cmd.n x.Cmd.c,.bool x.Long,.slice x.Reply.a x.Reply.n x.Reply.c]
 get:=jc [.int .i64,.int .i64,.int .i64,.int .i64,.int .i64,.int .i64,.ptr,.ptr,.ptr,.ptr,.slice,.bool,.slice] (λv0 v1 v2 v3 v4 v5 v6 v7 v8 v9 v10 v11 v12=>⟨⟨v0,v1,v2,v3,v4,v5⟩,v6,v7,v8,v9,v10,v11,v12⟩)
 ok:=qT λ_=>rfl
structure qt where
 Fg:Int
 Bg:Int
 Flags:Int
def qt.rep:Rep where
 T:=qt
 cells x:=[Ua x.Fg,Ua x.Bg,Ua x.Flags]
 get:=jc [.int .i64,.int .i64,.int .i64] qt.mk
 ok:=qT λ_=>rfl
structure Qz where
 e0:Int
 e1:Int
def Qz.rep:Rep where
 T:=Qz
 cells x:=[.int .u8 x.e0,.int .u8 x.e1]
 get:=jc [.int .u8,.int .u8] Qz.mk
 ok:=qT λ_=>rfl
structure qA where
 Row:Int
 Col:Int
 Wrap:Bool
 A:qt
 Origin:Bool
 Sets:Qz
 Shift:Int
def qA.rep:Rep where
 T:=qA
 cells x:=[Ua x.Row,Ua x.Col,.bool x.Wrap,Ua x.A.Fg,Ua x.A.Bg,Ua x.A.Flags,.bool x.Origin,.int .u8 x.Sets.e0,.int .u8 x.Sets.e1,Ua x.Shift]
 get:=jc [.int .i64,.int .i64,.bool,.int .i64,.int .i64,.int .i64,.bool,.int .u8,.int .u8,.int .i64] (λv0 v1 v2 v3 v4 v5 v6 v7 v8 v9=>⟨v0,v1,v2,⟨v3,v4,v5⟩,v6,⟨v7,v8⟩,v9⟩)
 ok:=qT λ_=>rfl
structure qx where
 Rows:Int
 Cols:Int
 CellW:Int
 CellH:Int
 Lines:Slc
 Places:Slc
 Images:Option Nat
 Top:Int
 Cursor:Bool
 Row:Int
 Col:Int
def qx.rep:Rep where
 T:=qx
 cells x:=[Ua x.Rows,Ua x.Cols,Ua x.CellW,Ua x.CellH,.slice x.Lines.a x.Lines.n x.Lines.c,.slice x.Places.a x.Places.n x.Places.c,.map x.Images,Ua x.Top,.bool x.Cursor,Ua x.Row,Ua x.Col]
 get:=jc [.int .i64,.int .i64,.int .i64,.int .i64,.slice,.slice,.map,.int .i64,.bool,.int .i64,.int .i64] qx.mk
 ok:=qT λ_=>rfl
structure yH where
 addr:Option Addr
 buf:Slc
def yH.rep:Rep where
 T:=yH
 cells x:=[.pointer x.addr,.slice x.buf.a x.buf.n x.buf.c]
 get:=jc [.ptr,.slice] yH.mk
 ok:=qT λ_=>rfl
structure qP where
 R:Int
 Kind:Int
 A:qt
def qP.rep:Rep where
 T:=qP
 cells x:=[.int .i32 x.R,Ua x.Kind,Ua x.A.Fg,Ua x.A.Bg,Ua x.A.Flags]
 get:=jc [.int .i32,.int .i64,.int .i64,.int .i64,.int .i64] (λv0 v1 v2 v3 v4=>⟨v0,v1,⟨v2,v3,v4⟩⟩)
 ok:=qT λ_=>rfl
structure yr where
 e0:Option Addr
 e1:Option Addr
def yr.rep:Rep where
 T:=yr
 cells x:=[.pointer x.e0,.pointer x.e1]
 get:=jc [.ptr,.ptr] yr.mk
 ok:=qT λ_=>rfl
structure vB where
 c:qA
 is:Bool
def vB.rep:Rep where
 T:=vB
 cells x:=[Ua x.c.Row,Ua x.c.Col,.bool x.c.Wrap,Ua x.c.A.Fg,Ua x.c.A.Bg,Ua x.c.A.Flags,.bool x.c.Origin,.int .u8 x.c.Sets.e0,.int .u8 x.c.Sets.e1,Ua x.c.Shift,.bool x.is]
 get:=jc [.int .i64,.int .i64,.bool,.int .i64,.int .i64,.int .i64,.bool,.int .u8,.int .u8,.int .i64,.bool] (λv0 v1 v2 v3 v4 v5 v6 v7 v8 v9 v10=>⟨⟨v0,v1,v2,⟨v3,v4,v5⟩,v6,⟨v7,v8⟩,v9⟩,v10⟩)
 ok:=qT λ_=>rfl
structure Q6 where
 e0:vB
 e1:vB
def Q6.rep:Rep where
 T:=Q6
 cells x:=[Ua x.e0.c.Row,Ua x.e0.c.Col,.bool x.e0.c.Wrap,Ua x.e0.c.A.Fg,Ua x.e0.c.A.Bg,Ua x.e0.c.A.Flags,.bool x.e0.c.Origin,.int .u8 x.e0.c.Sets.e0,.int .u8 x.e0.c.Sets.e1,Ua x.e0.c.Shift,.bool x.e0.is,Ua x.e1.c.Row,Ua x.e1.c.Col,.bool x.e1.c.Wrap,Ua x.e1.c.A.Fg,Ua x.e1.c.A.Bg,Ua x.e1.c.A.Flags,.bool x.e1.c.Origin,.int .u8 x.e1.c.Sets.e0,.int .u8 x.e1.c.Sets.e1,Ua x.e1.c.Shift,.bool x.e1.is]
 get:=jc [.int .i64,.int .i64,.bool,.int .i64,.int .i64,.int .i64,.bool,.int .u8,.int .u8,.int .i64,.bool,.int .i64,.int .i64,.bool,.int .i64,.int .i64,.int .i64,.bool,.int .u8,.int .u8,.int .i64,.bool] (λv0 v1 v2 v3 v4 v5 v6 v7 v8 v9 v10 v11 v12 v13 v14 v15 v16 v17 v18 v19 v20 v21=>⟨⟨⟨v0,v1,v2,⟨v3,v4,v5⟩,v6,⟨v7,v8⟩,v9⟩,v10⟩,⟨⟨v11,v12,v13,⟨v14,v15,v16⟩,v17,⟨v18,v19⟩,v20⟩,v21⟩⟩)
 ok:=qT λ_=>rfl
structure qC where
 grids:yr
 now:Int
 c:qA
 saved:Q6
 modes:Option Nat
 private_:Option Nat
 top:Int
 past:Int
 stops:Option Addr
 char:Int
 areas:Slc
def qC.ks:List Kind:=[.ptr,.ptr,.int .i64,.int .i64,.int .i64,.bool,.int .i64,.int .i64,.int .i64,.bool,.int .u8,.int .u8,.int .i64,.int .i64,.int .i64,.bool,.int .i64,.int .i64,.int .i64,.bool,.int .u8,.int .u8,.int .i64,.bool,.int .i64,.int .i64,.bool,.int .i64,.int .i64,.int .i64,.bool,.int .u8,.int .u8,.int .i64,.bool,.map,.map,.int .i64,.int .i64,.ptr,.int .i32,.slice]
def qC.rep:Rep where
 T:=qC
 cells x:=[.pointer x.grids.e0,.pointer x.grids.e1,Ua x.now,Ua x.c.Row,Ua x.c.Col,.bool x.c.Wrap,Ua x.c.A.Fg,Ua x.c.A.Bg,Ua x.c.A.Flags,.bool x.c.Origin,.int .u8 x.c.Sets.e0,.int .u8 x.c.Sets.e1,Ua x.c.Shift,Ua x.saved.e0.c.Row,Ua x.saved.e0.c.Col,.bool x.saved.e0.c.Wrap,Ua x.saved.e0.c.A.Fg,Ua x.saved.e0.c.A.Bg,Ua x.saved.e0.c.A.Flags,.bool x.saved.e0.c.Origin,.int .u8 x.saved.e0.c.Sets.e0,.int .u8 x.saved.e0.c.Sets.e1,Ua x.saved.e0.c.Shift,.bool x.saved.e0.is,Ua x.saved.e1.c.Row,Ua x.saved.e1.c.Col,.bool x.saved.e1.c.Wrap,Ua x.saved.e1.c.A.Fg,Ua x.saved.e1.c.A.Bg,Ua x.saved.e1.c.A.Flags,.bool x.saved.e1.c.Origin,.int .u8 x.saved.e1.c.Sets.e0,.int .u8 x.saved.e1.c.Sets.e1,Ua x.saved.e1.c.Shift,.bool x.saved.e1.is,.map x.modes,.map x.private_,Ua x.top,Ua x.past,.pointer x.stops,.int .i32 x.char,.slice x.areas.a x.areas.n x.areas.c]
 get:=jc qC.ks (λv0 v1 v2 v3 v4 v5 v6 v7 v8 v9 v10 v11 v12 v13 v14 v15 v16 v17 v18 v19 v20 v21 v22 v23 v24 v25 v26 v27 v28 v29 v30 v31 v32 v33 v34 v35 v36 v37 v38 v39 v40 v41=>⟨⟨v0,v1⟩,v2,⟨v3,v4,v5,⟨v6,v7,v8⟩,v9,⟨v10,v11⟩,v12⟩,⟨⟨⟨v13,v14,v15,⟨v16,v17,v18⟩,v19,⟨v20,v21⟩,v22⟩,v23⟩,⟨⟨v24,v25,v26,⟨v27,v28,v29⟩,v30,⟨v31,v32⟩,v33⟩,v34⟩⟩,v35,v36,v37,v38,v39,v40,v41⟩)
 ok:=qT λ_=>rfl
structure qb where
 Action:Int
 Medium:Int
 Zip:Int
 What:Int
 Quiet:Int
 Format:Int
 W:Int
 H:Int
 Id:Int
 Number:Int
 Place:Int
 More:Int
 X:Int
 Y:Int
 PW:Int
 PH:Int
 DX:Int
 DY:Int
 Rows:Int
 Cols:Int
 Z:Int
 Stay:Int
def qb.rep:Rep where
 T:=qb
 cells x:=[.int .u8 x.Action,.int .u8 x.Medium,.int .u8 x.Zip,.int .u8 x.What,Ua x.Quiet,Ua x.Format,Ua x.W,Ua x.H,Ua x.Id,Ua x.Number,Ua x.Place,Ua x.More,Ua x.X,Ua x.Y,Ua x.PW,Ua x.PH,Ua x.DX,Ua x.DY,Ua x.Rows,Ua x.Cols,Ua x.Z,Ua x.Stay]
 get:=jc [.int .u8,.int .u8,.int .u8,.int .u8,.int .i64,.int .i64,.int .i64,.int .i64,.int .i64,.int .i64,.int .i64,.int .i64,.int .i64,.int .i64,.int .i64,.int .i64,.int .i64,.int .i64,.int .i64,.int .i64,.int .i64,.int .i64] qb.mk
 ok:=qT λ_=>rfl
structure qbn where
 quota:Int
 s:Option Addr
 t:Option Addr
 l:Option Addr
 first:qb
def qbn.rep:Rep where
 T:=qbn
 cells x:=[Ua x.quota,.pointer x.s,.pointer x.t,.pointer x.l,.int .u8 x.first.Action,.int .u8 x.first.Medium,.int .u8 x.first.Zip,.int .u8 x.first.What,Ua x.first.Quiet,Ua x.first.Format,Ua x.first.W,Ua x.first.H,Ua x.first.Id,Ua x.first.Number,Ua x.first.Place,Ua x.first.More,Ua x.first.X,Ua x.first.Y,Ua x.first.PW,Ua x.first.PH,Ua x.first.DX,Ua x.first.DY,Ua x.first.Rows,Ua x.first.Cols,Ua x.first.Z,Ua x.first.Stay]
 get:=jc [.int .i64,.ptr,.ptr,.ptr,.int .u8,.int .u8,.int .u8,.int .u8,.int .i64,.int .i64,.int .i64,.int .i64,.int .i64,.int .i64,.int .i64,.int .i64,.int .i64,.int .i64,.int .i64,.int .i64,.int .i64,.int .i64,.int .i64,.int .i64,.int .i64,.int .i64] (λv0 v1 v2 v3 v4 v5 v6 v7 v8 v9 v10 v11 v12 v13 v14 v15 v16 v17 v18 v19 v20 v21 v22 v23 v24 v25=>⟨v0,v1,v2,v3,⟨v4,v5,v6,v7,v8,v9,v10,v11,v12,v13,v14,v15,v16,v17,v18,v19,v20,v21,v22,v23,v24,v25⟩⟩)
 ok:=qT λ_=>rfl
structure JR where
 state:Int
 ends:Bool
 chars:Option Addr
 private_:Int
 inter:Slc
 wrong:Bool
 first:Bool
 params:Slc
 some_:Bool
 last:Int
 data:Slc
 say:Value
def JR.rep:Rep where
 T:=JR
 cells x:=[Ua x.state,.bool x.ends,.pointer x.chars,.int .u8 x.private_,.slice x.inter.a x.inter.n x.inter.c,.bool x.wrong,.bool x.first,.slice x.params.a x.params.n x.params.c,.bool x.some_,Ua x.last,.slice x.data.a x.data.n x.data.c,x.say]
 get:=jc [.int .i64,.bool,.ptr,.int .u8,.slice,.bool,.bool,.slice,.bool,.int .i64,.slice,.raw] JR.mk
 ok:=qT λ_=>rfl
structure Jy where
 e0:Option Addr
 e1:Option Addr
def Jy.rep:Rep where
 T:=Jy
 cells x:=[.pointer x.e0,.pointer x.e1]
 get:=jc [.ptr,.ptr] Jy.mk
 ok:=qT λ_=>rfl
structure Xg where
 e0:qA
 e1:qA
def Xg.rep:Rep where
 T:=Xg
 cells x:=[Ua x.e0.Row,Ua x.e0.Col,.bool x.e0.Wrap,Ua x.e0.A.Fg,Ua x.e0.A.Bg,Ua x.e0.A.Flags,.bool x.e0.Origin,.int .u8 x.e0.Sets.e0,.int .u8 x.e0.Sets.e1,Ua x.e0.Shift,Ua x.e1.Row,Ua x.e1.Col,.bool x.e1.Wrap,Ua x.e1.A.Fg,Ua x.e1.A.Bg,Ua x.e1.A.Flags,.bool x.e1.Origin,.int .u8 x.e1.Sets.e0,.int .u8 x.e1.Sets.e1,Ua x.e1.Shift]
 get:=jc [.int .i64,.int .i64,.bool,.int .i64,.int .i64,.int .i64,.bool,.int .u8,.int .u8,.int .i64,.int .i64,.int .i64,.bool,.int .i64,.int .i64,.int .i64,.bool,.int .u8,.int .u8,.int .i64] (λv0 v1 v2 v3 v4 v5 v6 v7 v8 v9 v10 v11 v12 v13 v14 v15 v16 v17 v18 v19=>⟨⟨v0,v1,v2,⟨v3,v4,v5⟩,v6,⟨v7,v8⟩,v9⟩,⟨v10,v11,v12,⟨v13,v14,v15⟩,v16,⟨v17,v18⟩,v19⟩⟩)
 ok:=qT λ_=>rfl
structure ql7 where
 e0:Bool
 e1:Bool
def ql7.rep:Rep where
 T:=ql7
 cells x:=[.bool x.e0,.bool x.e1]
 get:=jc [.bool,.bool] ql7.mk
 ok:=qT λ_=>rfl
structure JS where
 G:Jy
 Now:Int
 C:qA
 Saved:Xg
 Has:ql7
 Insert:Bool
 Newline:Bool
 Private:Slc
 Top:Int
 Past:Int
 T:Option Addr
 Char:Int
 Areas:Slc
def JS.ks:List Kind:=[.ptr,.ptr,.int .i64,.int .i64,.int .i64,.bool,.int .i64,.int .i64,.int .i64,.bool,.int .u8,.int .u8,.int .i64,.int .i64,.int .i64,.bool,.int .i64,.int .i64,.int .i64,.bool,.int .u8,.int .u8,.int .i64,.int .i64,.int .i64,.bool,.int .i64,.int .i64,.int .i64,.bool,.int .u8,.int .u8,.int .i64,.bool,.bool,.bool,.bool,.slice,.int .i64,.int .i64,.ptr,.int .i64,.slice]
def JS.rep:Rep where
 T:=JS
 cells x:=[.pointer x.G.e0,.pointer x.G.e1,Ua x.Now,Ua x.C.Row,Ua x.C.Col,.bool x.C.Wrap,Ua x.C.A.Fg,Ua x.C.A.Bg,Ua x.C.A.Flags,.bool x.C.Origin,.int .u8 x.C.Sets.e0,.int .u8 x.C.Sets.e1,Ua x.C.Shift,Ua x.Saved.e0.Row,Ua x.Saved.e0.Col,.bool x.Saved.e0.Wrap,Ua x.Saved.e0.A.Fg,Ua x.Saved.e0.A.Bg,Ua x.Saved.e0.A.Flags,.bool x.Saved.e0.Origin,.int .u8 x.Saved.e0.Sets.e0,.int .u8 x.Saved.e0.Sets.e1,Ua x.Saved.e0.Shift,Ua x.Saved.e1.Row,Ua x.Saved.e1.Col,.bool x.Saved.e1.Wrap,Ua x.Saved.e1.A.Fg,Ua x.Saved.e1.A.Bg,Ua x.Saved.e1.A.Flags,.bool x.Saved.e1.Origin,.int .u8 x.Saved.e1.Sets.e0,.int .u8 x.Saved.e1.Sets.e1,Ua x.Saved.e1.Shift,.bool x.Has.e0,.bool x.Has.e1,.bool x.Insert,.bool x.Newline,.slice x.Private.a x.Private.n x.Private.c,Ua x.Top,Ua x.Past,.pointer x.T,Ua x.Char,.slice x.Areas.a x.Areas.n x.Areas.c]
 get:=jc JS.ks (λv0 v1 v2 v3 v4 v5 v6 v7 v8 v9 v10 v11 v12 v13 v14 v15 v16 v17 v18 v19 v20 v21 v22 v23 v24 v25 v26 v27 v28 v29 v30 v31 v32 v33 v34 v35 v36 v37 v38 v39 v40 v41 v42=>⟨⟨v0,v1⟩,v2,⟨v3,v4,v5,⟨v6,v7,v8⟩,v9,⟨v10,v11⟩,v12⟩,⟨⟨v13,v14,v15,⟨v16,v17,v18⟩,v19,⟨v20,v21⟩,v22⟩,⟨v23,v24,v25,⟨v26,v27,v28⟩,v29,⟨v30,v31⟩,v32⟩⟩,⟨v33,v34⟩,v35,v36,v37,v38,v39,v40,v41,v42⟩)
 ok:=qT λ_=>rfl
structure Jr where
 L:Slc
def Jr.rep:Rep where
 T:=Jr
 cells x:=[.slice x.L.a x.L.n x.L.c]
 get:=jc [.slice] Jr.mk
 ok:=qT λ_=>rfl
structure qh1 where
 Quota:Int
 S:Option Addr
 P:Jr
 L:Option Addr
 K:qb
def qh1.rep:Rep where
 T:=qh1
 cells x:=[Ua x.Quota,.pointer x.S,.slice x.P.L.a x.P.L.n x.P.L.c,.pointer x.L,.int .u8 x.K.Action,.int .u8 x.K.Medium,.int .u8 x.K.Zip,.int .u8 x.K.What,Ua x.K.Quiet,Ua x.K.Format,Ua x.K.W,Ua x.K.H,Ua x.K.Id,Ua x.K.Number,Ua x.K.Place,Ua x.K.More,Ua x.K.X,Ua x.K.Y,Ua x.K.PW,Ua x.K.PH,Ua x.K.DX,Ua x.K.DY,Ua x.K.Rows,Ua x.K.Cols,Ua x.K.Z,Ua x.K.Stay]
 get:=jc [.int .i64,.ptr,.slice,.ptr,.int .u8,.int .u8,.int .u8,.int .u8,.int .i64,.int .i64,.int .i64,.int .i64,.int .i64,.int .i64,.int .i64,.int .i64,.int .i64,.int .i64,.int .i64,.int .i64,.int .i64,.int .i64,.int .i64,.int .i64,.int .i64,.int .i64] (λv0 v1 v2 v3 v4 v5 v6 v7 v8 v9 v10 v11 v12 v13 v14 v15 v16 v17 v18 v19 v20 v21 v22 v23 v24 v25=>⟨v0,v1,⟨v2⟩,v3,⟨v4,v5,v6,v7,v8,v9,v10,v11,v12,v13,v14,v15,v16,v17,v18,v19,v20,v21,v22,v23,v24,v25⟩⟩)
 ok:=qT λ_=>rfl
structure qE where
 Rows:Int
 Cols:Int
 CellW:Int
 CellH:Int
 Lines:Slc
 Places:Slc
 Images:Slc
 Top:Int
 Cursor:Bool
 Row:Int
 Col:Int
def qE.rep:Rep where
 T:=qE
 cells x:=[Ua x.Rows,Ua x.Cols,Ua x.CellW,Ua x.CellH,.slice x.Lines.a x.Lines.n x.Lines.c,.slice x.Places.a x.Places.n x.Places.c,.slice x.Images.a x.Images.n x.Images.c,Ua x.Top,.bool x.Cursor,Ua x.Row,Ua x.Col]
 get:=jc [.int .i64,.int .i64,.int .i64,.int .i64,.slice,.slice,.slice,.int .i64,.bool,.int .i64,.int .i64] qE.mk
 ok:=qT λ_=>rfl
structure zg where
 Kind:Int
 R:Int
 B:Int
 Private:Int
 Inter:ByteArray
 Params:Slc
 Data:Slc
def zg.rep:Rep where
 T:=zg
 cells x:=[Ua x.Kind,.int .i32 x.R,.int .u8 x.B,.int .u8 x.Private,.string x.Inter,.slice x.Params.a x.Params.n x.Params.c,.slice x.Data.a x.Data.n x.Data.c]
 get:=jc [.int .i64,.int .i32,.int .u8,.int .u8,.string,.slice,.slice] zg.mk
 ok:=qT λ_=>rfl
structure qN where
 s:qx
def qN.rep:Rep where
 T:=qN
 cells x:=[Ua x.s.Rows,Ua x.s.Cols,Ua x.s.CellW,Ua x.s.CellH,.slice x.s.Lines.a x.s.Lines.n x.s.Lines.c,.slice x.s.Places.a x.s.Places.n x.s.Places.c,.map x.s.Images,Ua x.s.Top,.bool x.s.Cursor,Ua x.s.Row,Ua x.s.Col]
 get:=jc [.int .i64,.int .i64,.int .i64,.int .i64,.slice,.slice,.map,.int .i64,.bool,.int .i64,.int .i64] (λv0 v1 v2 v3 v4 v5 v6 v7 v8 v9 v10=>⟨⟨v0,v1,v2,v3,v4,v5,v6,v7,v8,v9,v10⟩⟩)
 ok:=qT λ_=>rfl
structure zO where
 s:qx
 above:Bool
def zO.rep:Rep where
 T:=zO
 cells x:=[Ua x.s.Rows,Ua x.s.Cols,Ua x.s.CellW,Ua x.s.CellH,.slice x.s.Lines.a x.s.Lines.n x.s.Lines.c,.slice x.s.Places.a x.s.Places.n x.s.Places.c,.map x.s.Images,Ua x.s.Top,.bool x.s.Cursor,Ua x.s.Row,Ua x.s.Col,.bool x.above]
 get:=jc [.int .i64,.int .i64,.int .i64,.int .i64,.slice,.slice,.map,.int .i64,.bool,.int .i64,.int .i64,.bool] (λv0 v1 v2 v3 v4 v5 v6 v7 v8 v9 v10 v11=>⟨⟨v0,v1,v2,v3,v4,v5,v6,v7,v8,v9,v10⟩,v11⟩)
 ok:=qT λ_=>rfl
structure qD where
 Alt:Bool
 Top:Int
 Rows:Int
 Cols:Int
 Row:Int
 Col:Int
def qD.rep:Rep where
 T:=qD
 cells x:=[.bool x.Alt,Ua x.Top,Ua x.Rows,Ua x.Cols,Ua x.Row,Ua x.Col]
 get:=jc [.bool,.int .i64,.int .i64,.int .i64,.int .i64,.int .i64] qD.mk
 ok:=qT λ_=>rfl
structure qs where
 View:qD
 CellW:Int
 CellH:Int
def qs.rep:Rep where
 T:=qs
 cells x:=[.bool x.View.Alt,Ua x.View.Top,Ua x.View.Rows,Ua x.View.Cols,Ua x.View.Row,Ua x.View.Col,Ua x.CellW,Ua x.CellH]
 get:=jc [.bool,.int .i64,.int .i64,.int .i64,.int .i64,.int .i64,.int .i64,.int .i64] (λv0 v1 v2 v3 v4 v5 v6 v7=>⟨⟨v0,v1,v2,v3,v4,v5⟩,v6,v7⟩)
 ok:=qT λ_=>rfl
structure kT where
 Ring:Option Addr
 rows:Int
 cols:Int
 l:Slc
 top:Int
def kT.rep:Rep where
 T:=kT
 cells x:=[.pointer x.Ring,Ua x.rows,Ua x.cols,.slice x.l.a x.l.n x.l.c,Ua x.top]
 get:=jc [.ptr,.int .i64,.int .i64,.slice,.int .i64] kT.mk
 ok:=qT λ_=>rfl
structure xy where
 quota:Int
 reserved:Int
 used:Int
 clock:Int
 l:Option Nat
def xy.rep:Rep where
 T:=xy
 cells x:=[Ua x.quota,Ua x.reserved,Ua x.used,Ua x.clock,.map x.l]
 get:=jc [.int .i64,.int .i64,.int .i64,.int .i64,.map] xy.mk
 ok:=qT λ_=>rfl
structure KJ where
 l:Slc
def KJ.rep:Rep where
 T:=KJ
 cells x:=[.slice x.l.a x.l.n x.l.c]
 get:=jc [.slice] KJ.mk
 ok:=qT λ_=>rfl
structure KL where
 r:Int
 left:Int
 lo:Int
 hi:Int
def KL.rep:Rep where
 T:=KL
 cells x:=[.int .i32 x.r,Ua x.left,.int .u8 x.lo,.int .u8 x.hi]
 get:=jc [.int .i32,.int .i64,.int .u8,.int .u8] KL.mk
 ok:=qT λ_=>rfl
structure qh4 where
 Rows:Int
 Cols:Int
 Most:Int
 L:Slc
 Old:Slc
 Top:Int
def qh4.rep:Rep where
 T:=qh4
 cells x:=[Ua x.Rows,Ua x.Cols,Ua x.Most,.slice x.L.a x.L.n x.L.c,.slice x.Old.a x.Old.n x.Old.c,Ua x.Top]
 get:=jc [.int .i64,.int .i64,.int .i64,.slice,.slice,.int .i64] qh4.mk
 ok:=qT λ_=>rfl
structure qcj where
 Quota:Int
 Res:Int
 Clock:Int
 L:Slc
def qcj.rep:Rep where
 T:=qcj
 cells x:=[Ua x.Quota,Ua x.Res,Ua x.Clock,.slice x.L.a x.L.n x.L.c]
 get:=jc [.int .i64,.int .i64,.int .i64,.slice] qcj.mk
 ok:=qT λ_=>rfl
structure qf where
 Image:Int
 Id:Int
 Alt:Bool
 Line:Int
 Col:Int
 Rows:Int
 Cols:Int
 X:Int
 Y:Int
 W:Int
 H:Int
 DX:Int
 DY:Int
 Z:Int
def qf.rep:Rep where
 T:=qf
 cells x:=[Ua x.Image,Ua x.Id,.bool x.Alt,Ua x.Line,Ua x.Col,Ua x.Rows,Ua x.Cols,Ua x.X,Ua x.Y,Ua x.W,Ua x.H,Ua x.DX,Ua x.DY,Ua x.Z]
 get:=jc [.int .i64,.int .i64,.bool,.int .i64,.int .i64,.int .i64,.int .i64,.int .i64,.int .i64,.int .i64,.int .i64,.int .i64,.int .i64,.int .i64] qf.mk
 ok:=qT λ_=>rfl
structure qM where
 number:Int
 m:qa
 stamp:Int
 born:Int
def qM.rep:Rep where
 T:=qM
 cells x:=[Ua x.number,Ua x.m.W,Ua x.m.H,.slice x.m.P.a x.m.P.n x.m.P.c,Ua x.stamp,Ua x.born]
 get:=jc [.int .i64,.int .i64,.int .i64,.slice,.int .i64,.int .i64] (λv0 v1 v2 v3 v4 v5=>⟨v0,⟨v1,v2,v3⟩,v4,v5⟩)
 ok:=qT λ_=>rfl
structure qg where
 e0:Int
 e1:Int
 e2:Int
def qg.rep:Rep where
 T:=qg
 cells x:=[.int .u8 x.e0,.int .u8 x.e1,.int .u8 x.e2]
 get:=jc [.int .u8,.int .u8,.int .u8] qg.mk
 ok:=qT λ_=>rfl
structure xo where
 e0:Int
 e1:Int
 e2:Int
 e3:Int
def xo.rep:Rep where
 T:=xo
 cells x:=[.int .u8 x.e0,.int .u8 x.e1,.int .u8 x.e2,.int .u8 x.e3]
 get:=jc [.int .u8,.int .u8,.int .u8,.int .u8] xo.mk
 ok:=qT λ_=>rfl
structure vf where
 V:qD
 CellW:Int
 CellH:Int
def vf.rep:Rep where
 T:=vf
 cells x:=[.bool x.V.Alt,Ua x.V.Top,Ua x.V.Rows,Ua x.V.Cols,Ua x.V.Row,Ua x.V.Col,Ua x.CellW,Ua x.CellH]
 get:=jc [.bool,.int .i64,.int .i64,.int .i64,.int .i64,.int .i64,.int .i64,.int .i64] (λv0 v1 v2 v3 v4 v5 v6 v7=>⟨⟨v0,v1,v2,v3,v4,v5⟩,v6,v7⟩)
 ok:=qT λ_=>rfl
structure qc where
 Reply:Slc
 Rows:Int
 Cols:Int
 Moves:Bool
def qc.rep:Rep where
 T:=qc
 cells x:=[.slice x.Reply.a x.Reply.n x.Reply.c,Ua x.Rows,Ua x.Cols,.bool x.Moves]
 get:=jc [.slice,.int .i64,.int .i64,.bool] qc.mk
 ok:=qT λ_=>rfl
structure zZ where
 Alt:Bool
 Line:Int
 Rows:Int
 From:Int
 To:Int
def zZ.rep:Rep where
 T:=zZ
 cells x:=[.bool x.Alt,Ua x.Line,Ua x.Rows,Ua x.From,Ua x.To]
 get:=jc [.bool,.int .i64,.int .i64,.int .i64,.int .i64] zZ.mk
 ok:=qT λ_=>rfl
structure zm where
 most:Int
 l:Slc
 at_:Int
 gone:Int
def zm.rep:Rep where
 T:=zm
 cells x:=[Ua x.most,.slice x.l.a x.l.n x.l.c,Ua x.at_,Ua x.gone]
 get:=jc [.int .i64,.slice,.int .i64,.int .i64] zm.mk
 ok:=qT λ_=>rfl
structure YP where
 cols:Int
 l:Option Nat
def YP.rep:Rep where
 T:=YP
 cells x:=[Ua x.cols,.map x.l]
 get:=jc [.int .i64,.map] YP.mk
 ok:=qT λ_=>rfl
structure K5 where
 e0:Int
 e1:Int
 e2:Int
def K5.rep:Rep where
 T:=K5
 cells x:=[Ua x.e0,Ua x.e1,Ua x.e2]
 get:=jc [.int .i64,.int .i64,.int .i64] K5.mk
 ok:=qT λ_=>rfl
structure KN where
 e0:Int
 e1:Int
 e2:Int
def KN.rep:Rep where
 T:=KN
 cells x:=[.int .u8 x.e0,.int .u8 x.e1,.int .u8 x.e2]
 get:=jc [.int .u8,.int .u8,.int .u8] KN.mk
 ok:=qT λ_=>rfl
structure qcw where
 What:Int
 Image:Int
 Place:Int
 X:Int
 Y:Int
 Z:Int
def qcw.rep:Rep where
 T:=qcw
 cells x:=[.int .u8 x.What,Ua x.Image,Ua x.Place,Ua x.X,Ua x.Y,Ua x.Z]
 get:=jc [.int .u8,.int .i64,.int .i64,.int .i64,.int .i64,.int .i64] qcw.mk
 ok:=qT λ_=>rfl
structure qdm where
 Decoder:Option Addr
 k:qb
 most:Int
 need:Int
 pieces:Slc
 held:Int
 failed:Int
 over:Bool
def qdm.rep:Rep where
 T:=qdm
 cells x:=[.pointer x.Decoder,.int .u8 x.k.Action,.int .u8 x.k.Medium,.int .u8 x.k.Zip,.int .u8 x.k.What,Ua x.k.Quiet,Ua x.k.Format,Ua x.k.W,Ua x.k.H,Ua x.k.Id,Ua x.k.Number,Ua x.k.Place,Ua x.k.More,Ua x.k.X,Ua x.k.Y,Ua x.k.PW,Ua x.k.PH,Ua x.k.DX,Ua x.k.DY,Ua x.k.Rows,Ua x.k.Cols,Ua x.k.Z,Ua x.k.Stay,Ua x.most,Ua x.need,.slice x.pieces.a x.pieces.n x.pieces.c,Ua x.held,Ua x.failed,.bool x.over]
 get:=jc [.ptr,.int .u8,.int .u8,.int .u8,.int .u8,.int .i64,.int .i64,.int .i64,.int .i64,.int .i64,.int .i64,.int .i64,.int .i64,.int .i64,.int .i64,.int .i64,.int .i64,.int .i64,.int .i64,.int .i64,.int .i64,.int .i64,.int .i64,.int .i64,.int .i64,.slice,.int .i64,.int .i64,.bool] (λv0 v1 v2 v3 v4 v5 v6 v7 v8 v9 v10 v11 v12 v13 v14 v15 v16 v17 v18 v19 v20 v21 v22 v23 v24 v25 v26 v27 v28=>⟨v0,⟨v1,v2,v3,v4,v5,v6,v7,v8,v9,v10,v11,v12,v13,v14,v15,v16,v17,v18,v19,v20,v21,v22⟩,v23,v24,v25,v26,v27,v28⟩)
 ok:=qT λ_=>rfl
structure zl where
 key:ByteArray
 n:Int
def zl.rep:Rep where
 T:=zl
 cells x:=[.string x.key,Ua x.n]
 get:=jc [.string,.int .i64] zl.mk
 ok:=qT λ_=>rfl
structure vS where
 lo:Int
 hi:Int
def vS.rep:Rep where
 T:=vS
 cells x:=[.int .u8 x.lo,.int .u8 x.hi]
 get:=jc [.int .u8,.int .u8] vS.mk
 ok:=qT λ_=>rfl
structure qs9 where
 e0:K5
 e1:K5
 e2:K5
 e3:K5
 e4:K5
 e5:K5
def qs9.rep:Rep where
 T:=qs9
 cells x:=[Ua x.e0.e0,Ua x.e0.e1,Ua x.e0.e2,Ua x.e1.e0,Ua x.e1.e1,Ua x.e1.e2,Ua x.e2.e0,Ua x.e2.e1,Ua x.e2.e2,Ua x.e3.e0,Ua x.e3.e1,Ua x.e3.e2,Ua x.e4.e0,Ua x.e4.e1,Ua x.e4.e2,Ua x.e5.e0,Ua x.e5.e1,Ua x.e5.e2]
 get:=jc [.int .i64,.int .i64,.int .i64,.int .i64,.int .i64,.int .i64,.int .i64,.int .i64,.int .i64,.int .i64,.int .i64,.int .i64,.int .i64,.int .i64,.int .i64,.int .i64,.int .i64,.int .i64] (λv0 v1 v2 v3 v4 v5 v6 v7 v8 v9 v10 v11 v12 v13 v14 v15 v16 v17=>⟨⟨v0,v1,v2⟩,⟨v3,v4,v5⟩,⟨v6,v7,v8⟩,⟨v9,v10,v11⟩,⟨v12,v13,v14⟩,⟨v15,v16,v17⟩⟩)
 ok:=qT λ_=>rfl
structure QC where
 v:Int
 n:Int
 fill:Int
 over:Bool
 bad:Bool
def QC.rep:Rep where
 T:=QC
 cells x:=[.int .u32 x.v,Ua x.n,Ua x.fill,.bool x.over,.bool x.bad]
 get:=jc [.int .u32,.int .i64,.int .i64,.bool,.bool] QC.mk
 ok:=qT λ_=>rfl
structure xu where
 lo:Int
 hi:Int
def xu.rep:Rep where
 T:=xu
 cells x:=[.int .i32 x.lo,.int .i32 x.hi]
 get:=jc [.int .i32,.int .i32] xu.mk
 ok:=qT λ_=>rfl
structure qbs where
 W:Int
 H:Int
 Depth:Int
 Color:Int
 Lace:Int
def qbs.rep:Rep where
 T:=qbs
 cells x:=[Ua x.W,Ua x.H,Ua x.Depth,Ua x.Color,Ua x.Lace]
 get:=jc [.int .i64,.int .i64,.int .i64,.int .i64,.int .i64] qbs.mk
 ok:=qT λ_=>rfl
structure JY where
 Decoder:Option Addr
 head:Slc
 tail:Slc
 sum:Value
 over:Int
 failed:Int
def JY.rep:Rep where
 T:=JY
 cells x:=[.pointer x.Decoder,.slice x.head.a x.head.n x.head.c,.slice x.tail.a x.tail.n x.tail.c,x.sum,Ua x.over,Ua x.failed]
 get:=jc [.ptr,.slice,.slice,.raw,.int .i64,.int .i64] JY.mk
 ok:=qT λ_=>rfl
structure qc7 where
 Kind:ByteArray
 Data:Slc
def qc7.rep:Rep where
 T:=qc7
 cells x:=[.string x.Kind,.slice x.Data.a x.Data.n x.Data.c]
 get:=jc [.string,.slice] qc7.mk
 ok:=qT λ_=>rfl
structure qp6 where
 Head:qbs
 palette:Slc
 trans:Slc
 hasPalette:Bool
 hasTr:Bool
 data:Slc
 hasData:Bool
 wasData:Bool
def qp6.rep:Rep where
 T:=qp6
 cells x:=[Ua x.Head.W,Ua x.Head.H,Ua x.Head.Depth,Ua x.Head.Color,Ua x.Head.Lace,.slice x.palette.a x.palette.n x.palette.c,.slice x.trans.a x.trans.n x.trans.c,.bool x.hasPalette,.bool x.hasTr,.slice x.data.a x.data.n x.data.c,.bool x.hasData,.bool x.wasData]
 get:=jc [.int .i64,.int .i64,.int .i64,.int .i64,.int .i64,.slice,.slice,.bool,.bool,.slice,.bool,.bool] (λv0 v1 v2 v3 v4 v5 v6 v7 v8 v9 v10 v11=>⟨⟨v0,v1,v2,v3,v4⟩,v5,v6,v7,v8,v9,v10,v11⟩)
 ok:=qT λ_=>rfl
structure yE where
 most:Int
 state:Int
 last:Bool
 wait:Slc
 skip:Int
 left:Int
 signs:Option Addr
 dists:Option Addr
 ring:Slc
 total:Int
 told:Int
 took:Int
 given:Int
 failed:Int
 out:Slc
def yE.rep:Rep where
 T:=yE
 cells x:=[Ua x.most,Ua x.state,.bool x.last,.slice x.wait.a x.wait.n x.wait.c,Ua x.skip,Ua x.left,.pointer x.signs,.pointer x.dists,.slice x.ring.a x.ring.n x.ring.c,Ua x.total,Ua x.told,Ua x.took,Ua x.given,Ua x.failed,.slice x.out.a x.out.n x.out.c]
 get:=jc [.int .i64,.int .i64,.bool,.slice,.int .i64,.int .i64,.ptr,.ptr,.slice,.int .i64,.int .i64,.int .i64,.int .i64,.int .i64,.slice] yE.mk
 ok:=qT λ_=>rfl
structure YO where
 a:Int
 b:Int
def YO.rep:Rep where
 T:=YO
 cells x:=[.int .u32 x.a,.int .u32 x.b]
 get:=jc [.int .u32,.int .u32] YO.mk
 ok:=qT λ_=>rfl
structure KB where
 X:Int
 Y:Int
 DX:Int
 DY:Int
def KB.rep:Rep where
 T:=KB
 cells x:=[Ua x.X,Ua x.Y,Ua x.DX,Ua x.DY]
 get:=jc [.int .i64,.int .i64,.int .i64,.int .i64] KB.mk
 ok:=qT λ_=>rfl
structure qh where
 e0:Int
 e1:Int
 e2:Int
 e3:Int
def qh.rep:Rep where
 T:=qh
 cells x:=[.int .u8 x.e0,.int .u8 x.e1,.int .u8 x.e2,.int .u8 x.e3]
 get:=jc [.int .u8,.int .u8,.int .u8,.int .u8] qh.mk
 ok:=qT λ_=>rfl
structure KD where
 b:Slc
 at_:Int
def KD.rep:Rep where
 T:=KD
 cells x:=[.slice x.b.a x.b.n x.b.c,Ua x.at_]
 get:=jc [.slice,.int .i64] KD.mk
 ok:=qT λ_=>rfl
structure qrf where
 e0:Int
 e1:Int
 e2:Int
 e3:Int
 e4:Int
 e5:Int
 e6:Int
 e7:Int
 e8:Int
 e9:Int
 e10:Int
 e11:Int
 e12:Int
 e13:Int
 e14:Int
 e15:Int
 e16:Int
 e17:Int
 e18:Int
def qrf.rep:Rep where
 T:=qrf
 cells x:=[Ua x.e0,Ua x.e1,Ua x.e2,Ua x.e3,Ua x.e4,Ua x.e5,Ua x.e6,Ua x.e7,Ua x.e8,Ua x.e9,Ua x.e10,Ua x.e11,Ua x.e12,Ua x.e13,Ua x.e14,Ua x.e15,Ua x.e16,Ua x.e17,Ua x.e18]
 get:=jc [.int .i64,.int .i64,.int .i64,.int .i64,.int .i64,.int .i64,.int .i64,.int .i64,.int .i64,.int .i64,.int .i64,.int .i64,.int .i64,.int .i64,.int .i64,.int .i64,.int .i64,.int .i64,.int .i64] qrf.mk
 ok:=qT λ_=>rfl
structure qmb where
 e0:Int
 e1:Int
 e2:Int
 e3:Int
 e4:Int
 e5:Int
 e6:Int
 e7:Int
 e8:Int
 e9:Int
 e10:Int
 e11:Int
 e12:Int
 e13:Int
 e14:Int
 e15:Int
def qmb.rep:Rep where
 T:=qmb
 cells x:=[Ua x.e0,Ua x.e1,Ua x.e2,Ua x.e3,Ua x.e4,Ua x.e5,Ua x.e6,Ua x.e7,Ua x.e8,Ua x.e9,Ua x.e10,Ua x.e11,Ua x.e12,Ua x.e13,Ua x.e14,Ua x.e15]
 get:=jc [.int .i64,.int .i64,.int .i64,.int .i64,.int .i64,.int .i64,.int .i64,.int .i64,.int .i64,.int .i64,.int .i64,.int .i64,.int .i64,.int .i64,.int .i64,.int .i64] qmb.mk
 ok:=qT λ_=>rfl
structure qgc where
 count:qmb
 sorted:Slc
 codes:Slc
 lengths:Slc
 last:Int
def qgc.rep:Rep where
 T:=qgc
 cells x:=[Ua x.count.e0,Ua x.count.e1,Ua x.count.e2,Ua x.count.e3,Ua x.count.e4,Ua x.count.e5,Ua x.count.e6,Ua x.count.e7,Ua x.count.e8,Ua x.count.e9,Ua x.count.e10,Ua x.count.e11,Ua x.count.e12,Ua x.count.e13,Ua x.count.e14,Ua x.count.e15,.slice x.sorted.a x.sorted.n x.sorted.c,.slice x.codes.a x.codes.n x.codes.c,.slice x.lengths.a x.lengths.n x.lengths.c,Ua x.last]
 get:=jc [.int .i64,.int .i64,.int .i64,.int .i64,.int .i64,.int .i64,.int .i64,.int .i64,.int .i64,.int .i64,.int .i64,.int .i64,.int .i64,.int .i64,.int .i64,.int .i64,.slice,.slice,.slice,.int .i64] (λv0 v1 v2 v3 v4 v5 v6 v7 v8 v9 v10 v11 v12 v13 v14 v15 v16 v17 v18 v19=>⟨⟨v0,v1,v2,v3,v4,v5,v6,v7,v8,v9,v10,v11,v12,v13,v14,v15⟩,v16,v17,v18,v19⟩)
 ok:=qT λ_=>rfl
structure qg4 where
 v:Int
def qg4.rep:Rep where
 T:=qg4
 cells x:=[.int .u32 x.v]
 get:=jc [.int .u32] qg4.mk
 ok:=qT λ_=>rfl
structure qmf where
 e0:Int
 e1:Int
 e2:Int
 e3:Int
 e4:Int
 e5:Int
def qmf.rep:Rep where
 T:=qmf
 cells x:=[.int .u8 x.e0,.int .u8 x.e1,.int .u8 x.e2,.int .u8 x.e3,.int .u8 x.e4,.int .u8 x.e5]
 get:=jc [.int .u8,.int .u8,.int .u8,.int .u8,.int .u8,.int .u8] qmf.mk
 ok:=qT λ_=>rfl
structure qde where
 e0:Int
 e1:Int
 e2:Int
 e3:Int
 e4:Int
 e5:Int
 e6:Int
 e7:Int
 e8:Int
 e9:Int
 e10:Int
 e11:Int
 e12:Int
 e13:Int
 e14:Int
 e15:Int
def qde.rep:Rep where
 T:=qde
 cells x:=[.int .u32 x.e0,.int .u32 x.e1,.int .u32 x.e2,.int .u32 x.e3,.int .u32 x.e4,.int .u32 x.e5,.int .u32 x.e6,.int .u32 x.e7,.int .u32 x.e8,.int .u32 x.e9,.int .u32 x.e10,.int .u32 x.e11,.int .u32 x.e12,.int .u32 x.e13,.int .u32 x.e14,.int .u32 x.e15]
 get:=jc [.int .u32,.int .u32,.int .u32,.int .u32,.int .u32,.int .u32,.int .u32,.int .u32,.int .u32,.int .u32,.int .u32,.int .u32,.int .u32,.int .u32,.int .u32,.int .u32] qde.mk
 ok:=qT λ_=>rfl
noncomputable abbrev PG:Program:=Tryz.prog
abbrev qg7:TypeId:=0
abbrev q61:TypeId:=2
abbrev zz:TypeId:=3
abbrev qce:TypeId:=4
abbrev za:TypeId:=5
abbrev zC:TypeId:=9
abbrev q44:TypeId:=20
abbrev yk:TypeId:=21
abbrev jC:TypeId:=23
abbrev qm:TypeId:=34
abbrev qz:TypeId:=41
abbrev qZ:TypeId:=44
abbrev xA:TypeId:=46
abbrev zr:TypeId:=47
abbrev qa0:TypeId:=49
abbrev q9n:TypeId:=58
abbrev qhp:TypeId:=60
abbrev xf:TypeId:=70
abbrev q0e:TypeId:=73
abbrev quh:TypeId:=76
abbrev zH:TypeId:=80
abbrev qn2:TypeId:=83
abbrev yq:TypeId:=89
abbrev vE:TypeId:=90
abbrev jX:TypeId:=93
abbrev Vj:TypeId:=95
abbrev QD:TypeId:=99
abbrev zk:TypeId:=104
abbrev qnv:TypeId:=114
abbrev YJ:TypeId:=117
abbrev jv:TypeId:=121
abbrev j8:TypeId:=134
abbrev zf:TypeId:=136
abbrev Vw:TypeId:=142
abbrev zj:TypeId:=144
abbrev qR:TypeId:=147
abbrev zy:TypeId:=160
abbrev zw:TypeId:=164
abbrev qV:TypeId:=170
abbrev zL:TypeId:=172
abbrev qa9:TypeId:=176
abbrev Z1:TypeId:=178
abbrev qL:TypeId:=192
abbrev jp:TypeId:=195
abbrev qO:TypeId:=196
abbrev zG:TypeId:=198
abbrev jl:TypeId:=206
abbrev xx:TypeId:=212
abbrev zb:TypeId:=214
abbrev jK:TypeId:=229
abbrev xh:TypeId:=231
abbrev jE:TypeId:=232
abbrev kJ:TypeId:=233
abbrev qn8:TypeId:=235
abbrev zS:TypeId:=237
abbrev yh:TypeId:=244
abbrev qka:TypeId:=245
abbrev Qh:TypeId:=254
abbrev qak:TypeId:=261
abbrev vb:TypeId:=262
abbrev qsr:TypeId:=264
abbrev qym:TypeId:=272
abbrev q5l:TypeId:=277
abbrev qum:TypeId:=279
abbrev Xc:TypeId:=285
abbrev j9:TypeId:=287
abbrev qI:TypeId:=298
abbrev qlu:TypeId:=306
abbrev kh:TypeId:=314
abbrev qcu:TypeId:=320
abbrev qY:TypeId:=326
abbrev Zm:TypeId:=329
abbrev kW:TypeId:=411
abbrev zg7:TypeId:=442
abbrev jh:TypeId:=465
abbrev Jv:TypeId:=498
abbrev qcf:TypeId:=509
abbrev qJ:TypeId:=571
abbrev qad:Nat:=46
abbrev Yh:Nat:=49
abbrev qra:Nat:=52
abbrev qzh:Nat:=65
abbrev qtp:Nat:=73
abbrev JZ:Nat:=93
abbrev qi5:Nat:=147
abbrev qhv:Nat:=243
abbrev vX:Nat:=312
abbrev Jk:Nat:=336
abbrev JI:Nat:=340
abbrev X7:Nat:=358
abbrev XO:Nat:=361
abbrev V3:Nat:=367
abbrev KV:Nat:=433
abbrev qr9:Nat:=458
abbrev qta:Nat:=460
abbrev qdl:Nat:=595
abbrev qfe:Nat:=612
abbrev qb1:Nat:=614
abbrev zn3:Nat:=2
def reg (t:TypeId):Option Rep:=match t with
 | 23=>some qo.rep
 | 41=>some qa.rep
 | 121=>some qa.rep
 | 58=>some kK.rep
 | 60=>some qkr.rep
 | 69=>some Zo.rep
 | 73=>some qho.rep
 | 76=>some qpo.rep
 | 80=>some qt.rep
 | 81=>some Qz.rep
 | 83=>some qA.rep
 | 90=>some qA.rep
 | 136=>some qx.rep
 | 144=>some yH.rep
 | 147=>some qP.rep
 | 156=>some yr.rep
 | 158=>some vB.rep
 | 159=>some Q6.rep
 | 164=>some qC.rep
 | 112=>some qb.rep
 | 170=>some qb.rep
 | 172=>some qbn.rep
 | 178=>some JR.rep
 | 78=>some Jy.rep
 | 84=>some Xg.rep
 | 85=>some ql7.rep
 | 89=>some JS.rep
 | 108=>some Jr.rep
 | 264=>some Jr.rep
 | 114=>some qh1.rep
 | 212=>some qE.rep
 | 176=>some zg.rep
 | 229=>some qN.rep
 | 232=>some qN.rep
 | 233=>some qN.rep
 | 231=>some zO.rep
 | 235=>some qD.rep
 | 277=>some qD.rep
 | 237=>some qs.rep
 | 244=>some kT.rep
 | 198=>some xy.rep
 | 195=>some KJ.rep
 | 261=>some KL.rep
 | 95=>some qh4.rep
 | 117=>some qcj.rep
 | 189=>some qf.rep
 | 192=>some qf.rep
 | 206=>some qM.rep
 | 214=>some qg.rep
 | 272=>some xo.rep
 | 279=>some vf.rep
 | 298=>some qc.rep
 | 306=>some zZ.rep
 | 326=>some zm.rep
 | 329=>some YP.rep
 | 345=>some K5.rep
 | 215=>some KN.rep
 | 418=>some qcw.rep
 | 287=>some qdm.rep
 | 465=>some zl.rep
 | 482=>some vS.rep
 | 487=>some qs9.rep
 | 498=>some QC.rep
 | 509=>some xu.rep
 | 540=>some qbs.rep
 | 553=>some JY.rep
 | 563=>some qc7.rep
 | 542=>some qp6.rep
 | 578=>some yE.rep
 | 580=>some YO.rep
 | 567=>some KB.rep
 | 571=>some qh.rep
 | 597=>some KD.rep
 | 607=>some qrf.rep
 | 617=>some qmb.rep
 | 619=>some qgc.rep
 | 622=>some qg4.rep
 | 652=>some qmf.rep
 | 660=>some qde.rep
 | _=>none
def q92:List Nat:=[2,3,4,5,6,7,8,9,10,11,12,13,14,15,16,17,18,19,20,21,22,23,24,25,26,27,28,29,30,31,32,33,34,35,36,37,38,39,40,41,42,43,44,45,46,47,48,49,50,51,52,53,54,55,56,57,58,59,60,61,62,63,64,65,66,67,68,69,70,71,72,73,74,75,76,77,78,79,80,81,82,83,84,85,86,87,88,89,90,91,92,93,94,95,96,97,98,99,100,101,102,103,104,105,106,107,108,109,110,111,112,113,114,115,116,117,118,119,120,121,122,123,124,125,126,127,128,129,130,131,132,133,134,135,136,137,138,139,140,141,142,143,144,145,146,147,148,149,150,151,152,153,154,155,156,157,158,159,160,161,162,163,164,165,166,167,168,169,170,171,172,173,174,175,176,177,178,180,181,182,183,184,185,186,187,188,189,190,191,192,193,194,195,196,197,198,199,200,201,202,203,204,205,206,207,208,209,210,211,212,213,214,215,216,217,218,219,220,221,222,223,224,225,226,227,228,229,230,231,232,233,234,235,236,237,238,239,240,241,242,243,244,245,246,247,248,249,251,252,253,254,255,256,257,258,259,260,261,262,263,264,265,266,267,268,269,270,271,272,273,274,275,276,277,278,279,280,281,282,283,284,285,286,287,288,289,290,291,292,293,294,295,296,297,298,299,300,301,302,303,304,305,306,307,308,309,310,311,312,313,314,315,316,317,318,319,320,321,322,323,324,325,326,327,328,329,330,331,332,333,334,335,336,337,338,339,340,341,342,343,344,345,347,348,349,350,351,352,353,354,355,356,357,358,359,360,361,362,363,364,365,366,367,368,369,370,371,372,373,374,375,376,377,378,379,380,381,382,383,384,385,386,387,388,389,390,391,392,393,394,395,396,397,398,399,400,401,402,403,404,405,406,407,408,409,410,411,412,413,414,415,416,417,418,420,421,422,423,424,425,426,427,428,429,430,431,432,433,434,435,436,437,438,439,440,441,442,443,444,445,448,449,451,452,453,454,455,456,457,458,459,460,461,462,463,464,465,466,467,468,469,470,471,472,473,474,475,476,477,478,479,480,482,483,484,485,486,487,488,489,490,491,492,493,494,495,496,497,498,499,500,501,502,503,504,505,506,507,508,509,510,511,512,513,514,515,516,517,518,519,520,521,522,523,524,525,526,527,528,529,530,531,532,533,534,535,536,537,538,539,540,541,542,543,544,545,546,547,548,549,550,551,552,553,554,576,577,578,579,580,581,582,583,584,585,586,591,593,594,595,596,597,598,599,600,601,602,603,604,605,606,607,608,609,610,611,612,613,614,615,617,618,619,620,629]
noncomputable def C:Cx:={ P:=Tryz.prog,reg:=reg,plain:=λn=>q92.elem n }
theorem C.plain_ok (g:Nat) (h:C.plain g=true):yg C.P g=true:=by
 have h':g∈q92:=by simpa [C] using h
 have:q92.all (λg=>yg Tryz.prog g)=true:=by kernel_rfl
 exact List.all_eq_true.1 this g h'
theorem C.mixed:C.P.follows .mixedOrders=true:=by kernel_rfl
theorem fnO {f:FuncId} {fn:Func} {ks:List Kind} {a:List Value} {w:World} {K:Go.Vc.Cur ks} {sh:Prop} (n:List Ann) (hf:C.P.funcs[f]?=some fn) (h:sh)
  (hb:fn.body=some (fn.body.getD .skip):=by rfl) (e:zm8 C (fn.body.getD .skip) fn.results.toList fn.ntmps n ks a w (zjo ks K)=sh:=by kernel_rfl):qj C.P f a ks w K:=by
 rw [<-e] at h;exact qu2 C.plain_ok C.mixed hf hb h
def qoe (c:qo)(w:World)(K:Bool->Ub):=qj PG 3 [ag qo.rep c] [Kind.bool] w K
def qjx (w:World)(K:Bool->Ub):=qj PG 4 [] [Kind.bool] w K
def Ki (c:qo)(w:World)(K:Option Addr->Int->Ub):=qj PG 5 [ag qo.rep c] [Kind.ptr,Kind.int .i64] w K
def qmq (c:qo)(w:World)(K:Option Addr->Int->Ub):=qj PG 6 [ag qo.rep c] [Kind.ptr,Kind.int .i64] w K
def qlh (t r:Option Addr)(w:World)(K:Bool->Ub):=qj PG 7 [.pointer t,.pointer r] [Kind.bool] w K
def qd2 (t r:Option Addr)(w:World)(K:Bool->Ub):=qj PG 8 [.pointer t,.pointer r] [Kind.bool] w K
def ZO (t:Option Addr)(w:World)(K:qo->Ub):=qj PG 9 [.pointer t] [Kind.struct qo.rep] w K
def xe (t:Option Addr)(w:World)(K:Slc->Ub):=qj PG 10 [.pointer t] [Kind.slice] w K
def qc4 (t:Option Addr)(w:World)(K:Int->Ub):=qj PG 11 [.pointer t] [Kind.int .i64] w K
def qr3 (c:qo)(w:World)(K:Int->Ub):=qj PG 12 [ag qo.rep c] [Kind.int .i64] w K
def Kc (t:Option Addr)(b:Slc)(w:World)(K:Ub):=qj PG 13 [.pointer t,.slice b.a b.n b.c] [] w K
def j7 (t:Option Addr)(w:World)(K:qa->Int->Ub):=qj PG 14 [.pointer t] [Kind.struct qa.rep,Kind.int .i64] w K
def je (t:Option Addr)(w:World)(K:Slc->Ub):=qj PG 15 [.pointer t] [Kind.slice] w K
def Kz (l:Slc)(w:World)(K:ByteArray->Ub):=qj PG 16 [.slice l.a l.n l.c] [Kind.string] w K
def qg6 (c:qo)(w:World)(K:Option Addr->Int->Ub):=qj PG 17 [ag qo.rep c] [Kind.ptr,Kind.int .i64] w K
def qkc (quota:Int)(w:World)(K:Option Addr->Int->Ub):=qj PG 18 [Ua quota] [Kind.ptr,Kind.int .i64] w K
def quf (w:World)(K:Option Addr->Ub):=qj PG 19 [] [Kind.ptr] w K
def qmp (c:qo)(w:World)(K:Option Addr->Int->Ub):=qj PG 20 [ag qo.rep c] [Kind.ptr,Kind.int .i64] w K
def q2g (quota:Int)(w:World)(K:Option Addr->Int->Ub):=qj PG 21 [Ua quota] [Kind.ptr,Kind.int .i64] w K
def ZR (t:Option Addr)(w:World)(K:qA->Ub):=qj PG 22 [.pointer t] [Kind.struct qA.rep] w K
def qgw (a b:Slc)(w:World)(K:Bool->Ub):=qj PG 23 [.slice a.a a.n a.c,.slice b.a b.n b.c] [Kind.bool] w K
def VH (t:Option Addr)(w:World)(K:Slc->Ub):=qj PG 24 [.pointer t] [Kind.slice] w K
def xF (s:Option Addr)(n:Int)(private_:Bool)(w:World)(K:Bool->Bool->Ub):=qj PG 25 [.pointer s,Ua n,.bool private_] [Kind.bool,Kind.bool] w K
def vJ (t:Option Addr)(n:Int)(private_:Bool)(w:World)(K:Bool->Ub):=qj PG 26 [.pointer t,Ua n,.bool private_] [Kind.bool] w K
def vV (t:Option Addr)(w:World)(K:Option Addr->Ub):=qj PG 27 [.pointer t] [Kind.ptr] w K
def Z7 (t:Option Addr)(w:World)(K:Option Addr->Ub):=qj PG 28 [.pointer t] [Kind.ptr] w K
def qqb (a b:Slc)(w:World)(K:Bool->Ub):=qj PG 29 [.slice a.a a.n a.c,.slice b.a b.n b.c] [Kind.bool] w K
def Js (t:Option Addr)(w:World)(K:Slc->Ub):=qj PG 30 [.pointer t] [Kind.slice] w K
def vY (s:Option Addr)(w:World)(K:Int->Ub):=qj PG 31 [.pointer s] [Kind.int .i64] w K
def Kh (s:Option Addr)(w:World)(K:Int->Ub):=qj PG 32 [.pointer s] [Kind.int .i64] w K
def xR (s:Option Addr)(w:World)(K:Int->Ub):=qj PG 33 [.pointer s] [Kind.int .i64] w K
def yD (s:Option Addr)(w:World)(K:Slc->Ub):=qj PG 34 [.pointer s] [Kind.slice] w K
def VO (s:Option Addr)(w:World)(K:Slc->Ub):=qj PG 35 [.pointer s] [Kind.slice] w K
def qzr (a b:qa)(w:World)(K:Bool->Ub):=qj PG 38 [ag qa.rep a,ag qa.rep b] [Kind.bool] w K
def yS (t:Option Addr)(w:World)(K:qa->Int->Ub):=qj PG 39 [.pointer t] [Kind.struct qa.rep,Kind.int .i64] w K
def kP (s:Option Addr)(w:World)(K:Int->Int->Ub):=qj PG 40 [.pointer s] [Kind.int .i64,Kind.int .i64] w K
def jO (s:Slc)(w:World)(K:Slc->Ub):=qj PG 41 [.slice s.a s.n s.c] [Kind.slice] w K
def qks (d:Option Addr)(w:World)(K:Int->Ub):=qj PG 42 [.pointer d] [Kind.int .i64] w K
def Vb (e:Option Addr)(others:Int)(w:World)(K:Int->Ub):=qj PG 43 [.pointer e,Ua others] [Kind.int .i64] w K
def Yq (p:Option Addr)(w:World)(K:Int->Ub):=qj PG 44 [.pointer p] [Kind.int .i64] w K
def QX (p:Option Addr)(b:Slc)(say:Value)(w:World)(K:Ub):=qj PG 45 [.pointer p,.slice b.a b.n b.c,say] [] w K
def JG (t:Option Addr)(e:zg)(w:World)(K:Ub):=qj PG 46 [.pointer t,ag zg.rep e] [] w K
def qib (s:qx)(w:World)(K:qa->Int->Ub):=qj PG 47 [ag qx.rep s] [Kind.struct qa.rep,Kind.int .i64] w K
def Xl (t:Option Addr)(image:Value)(w:World)(K:qx->Ub):=qj PG 48 [.pointer t,image] [Kind.struct qx.rep] w K
def Z5 (e:Option Addr)(id:Int)(w:World)(K:qa->Bool->Ub):=qj PG 49 [.pointer e,Ua id] [Kind.struct qa.rep,Kind.bool] w K
def YS (f:Value)(w:World)(K:Slc->Ub):=qj PG 50 [f] [Kind.slice] w K
def kR (s:Option Addr)(w:World)(K:Option Addr->Ub):=qj PG 51 [.pointer s] [Kind.ptr] w K
def Ke (g:Option Addr)(row:Int)(w:World)(K:Slc->Bool->Ub):=qj PG 52 [.pointer g,Ua row] [Kind.slice,Kind.bool] w K
def jL (l:Slc)(w:World)(K:Slc->Ub):=qj PG 53 [.slice l.a l.n l.c] [Kind.slice] w K
def xQ (b:Option Addr)(c:Int)(w:World)(K:Value->Ub):=qj PG 54 [.pointer b,.int .u8 c] [Kind.raw] w K
def vF (b:Option Addr)(p:Slc)(w:World)(K:Int->Value->Ub):=qj PG 55 [.pointer b,.slice p.a p.n p.c] [Kind.int .i64,Kind.raw] w K
def qhz (l:Slc)(w:World)(K:Slc->Ub):=qj PG 56 [.slice l.a l.n l.c] [Kind.slice] w K
def QP (s cutset:ByteArray)(w:World)(K:ByteArray->Ub):=qj PG 57 [.string s,.string cutset] [Kind.string] w K
def kZ (b:Option Addr)(w:World)(K:ByteArray->Ub):=qj PG 58 [.pointer b] [Kind.string] w K
def qbl (c:qo)(w:World)(K:Int->Ub):=qj PG 59 [ag qo.rep c] [Kind.int .i64] w K
def qhy (rows cols back:Int)(w:World)(K:Option Addr->Int->Ub):=qj PG 60 [Ua rows,Ua cols,Ua back] [Kind.ptr,Kind.int .i64] w K
def y5 (s:Option Addr)(w:World)(K:Ub):=qj PG 61 [.pointer s] [] w K
def ql2 (quota:Int)(w:World)(K:Option Addr->Int->Ub):=qj PG 62 [Ua quota] [Kind.ptr,Kind.int .i64] w K
def qui (w:World)(K:Option Addr->Ub):=qj PG 63 [] [Kind.ptr] w K
def q27 (w:World)(K:Option Addr->Ub):=qj PG 64 [] [Kind.ptr] w K
def qjv (c:qo)(w:World)(K:Int->Ub):=qj PG 66 [ag qo.rep c] [Kind.int .i64] w K
def qcs (w:World)(K:qA->Ub):=qj PG 67 [] [Kind.struct qA.rep] w K
def Jn (rows cols back:Int)(w:World)(K:Option Addr->Int->Ub):=qj PG 68 [Ua rows,Ua cols,Ua back] [Kind.ptr,Kind.int .i64] w K
def qff (cols:Int)(w:World)(K:Option Addr->Int->Ub):=qj PG 69 [Ua cols] [Kind.ptr,Kind.int .i64] w K
def q2z (quota:Int)(w:World)(K:Option Addr->Int->Ub):=qj PG 70 [Ua quota] [Kind.ptr,Kind.int .i64] w K
def xU (s:Option Addr)(w:World)(K:qA->Ub):=qj PG 71 [.pointer s] [Kind.struct qA.rep] w K
def qow (a b:Slc)(w:World)(K:Bool->Ub):=qj PG 72 [.slice a.a a.n a.c,.slice b.a b.n b.c] [Kind.bool] w K
def VS (g:Option Addr)(i:Int)(w:World)(K:Slc->Bool->Ub):=qj PG 73 [.pointer g,Ua i] [Kind.slice,Kind.bool] w K
def Kt (s:Option Addr)(n:Int)(w:World)(K:Bool->Ub):=qj PG 74 [.pointer s,Ua n] [Kind.bool] w K
def yU (s:Option Addr)(n:Int)(private_:Bool)(w:World)(K:Bool->Bool->Ub):=qj PG 75 [.pointer s,Ua n,.bool private_] [Kind.bool,Kind.bool] w K
def yO (e:Option Addr)(w:World)(K:Option Addr->Ub):=qj PG 76 [.pointer e] [Kind.ptr] w K
def y7 (e:Option Addr)(w:World)(K:Option Addr->Ub):=qj PG 77 [.pointer e] [Kind.ptr] w K
def zM (s:Slc)(w:World)(K:Slc->Ub):=qj PG 79 [.slice s.a s.n s.c] [Kind.slice] w K
def vo (seq:Value)(w:World)(K:Slc->Ub):=qj PG 80 [seq] [Kind.slice] w K
def zN (m:Option Nat)(w:World)(K:Value->Ub):=qj PG 81 [.map m] [Kind.raw] w K
def xB (s:Option Addr)(id:Int)(w:World)(K:qa->Bool->Ub):=qj PG 82 [.pointer s,Ua id] [Kind.struct qa.rep,Kind.bool] w K
def jb (s:Slc)(w:World)(K:Slc->Ub):=qj PG 83 [.slice s.a s.n s.c] [Kind.slice] w K
def q19 (a b:qa)(w:World)(K:Bool->Ub):=qj PG 85 [ag qa.rep a,ag qa.rep b] [Kind.bool] w K
def zcr (m:qa)(w:World)(K:qa->Ub):=qj PG 86 [ag qa.rep m] [Kind.struct qa.rep] w K
def qo5 (s:qE)(w:World)(K:qa->Int->Ub):=qj PG 87 [ag qE.rep s] [Kind.struct qa.rep,Kind.int .i64] w K
def Kk (t:Option Addr)(w:World)(K:qE->Ub):=qj PG 88 [.pointer t] [Kind.struct qE.rep] w K
def jo (s:Option Addr)(w:World)(K:Int->Int->Ub):=qj PG 89 [.pointer s] [Kind.int .i64,Kind.int .i64] w K
def qo8 (l:Option Addr)(w:World)(K:Int->Ub):=qj PG 90 [.pointer l] [Kind.int .i64] w K
def ZS (p:Option Addr)(b:Slc)(w:World)(K:Int->Ub):=qj PG 91 [.pointer p,.slice b.a b.n b.c] [Kind.int .i64] w K
def Zc (p:Option Addr)(c:Int)(w:World)(K:Ub):=qj PG 92 [.pointer p,.int .u8 c] [] w K
def qua (clear:Bool)(most:Int)(w:World)(K:Option Addr->Int->Ub):=qj PG 94 [.bool clear,Ua most] [Kind.ptr,Kind.int .i64] w K
def qs0 (t:Option Addr)(b:Slc)(w:World)(K:Ub):=qj PG 95 [.pointer t,.slice b.a b.n b.c] [] w K
def qq7 (t:Option Addr)(ok:Bool)(w:World)(K:Ub):=qj PG 96 [.pointer t,.bool ok] [] w K
def VK (t:Option Addr)(b:Slc)(w:World)(K:Ub):=qj PG 97 [.pointer t,.slice b.a b.n b.c] [] w K
def Ky (t:Option Addr)(ok:Bool)(w:World)(K:Ub):=qj PG 98 [.pointer t,.bool ok] [] w K
def qll (e:Option Addr)(w:World)(K:Ub):=qj PG 99 [.pointer e] [] w K
def ZA (s:Option Addr)(e:zg)(w:World)(K:Slc->Ub):=qj PG 100 [.pointer s,ag zg.rep e] [Kind.slice] w K
def zE (t:Option Addr)(w:World)(K:Ub):=qj PG 101 [.pointer t] [] w K
def zQ (v lo hi:Int)(w:World)(K:Bool->Ub):=qj PG 102 [Ua v,Ua lo,Ua hi] [Kind.bool] w K
def qc9 (wx hx:Int)(w:World)(K:qa->Int->Ub):=qj PG 103 [Ua wx,Ua hx] [Kind.struct qa.rep,Kind.int .i64] w K
def VQ (m:qa)(l:Slc)(w:World)(K:qa->Ub):=qj PG 104 [ag qa.rep m,.slice l.a l.n l.c] [Kind.struct qa.rep] w K
def vy (t:Option Addr)(w:World)(K:qs->Ub):=qj PG 105 [.pointer t] [Kind.struct qs.rep] w K
def zd (e:Option Addr)(v:qD)(w:World)(K:Slc->Ub):=qj PG 106 [.pointer e,ag qD.rep v] [Kind.slice] w K
def jf (s:Option Addr)(w:World)(K:Option Addr->Ub):=qj PG 107 [.pointer s] [Kind.ptr] w K
def Kj (g:Option Addr)(w:World)(K:Option Addr->Ub):=qj PG 108 [.pointer g] [Kind.ptr] w K
def yV (g:Option Addr)(row:Int)(w:World)(K:Bool->Ub):=qj PG 109 [.pointer g,Ua row] [Kind.bool] w K
def zI (s:Slc)(w:World)(K:Slc->Ub):=qj PG 110 [.slice s.a s.n s.c] [Kind.slice] w K
def vx (l:Slc)(col:Int)(w:World)(K:Bool->Ub):=qj PG 111 [.slice l.a l.n l.c,Ua col] [Kind.bool] w K
def jP (b:Option Addr)(w:World)(K:Ub):=qj PG 112 [.pointer b] [] w K
def qky (r:Int)(w:World)(K:Bool->Ub):=qj PG 113 [.int .i32 r] [Kind.bool] w K
def vC (s:ByteArray)(c:Int)(w:World)(K:ByteArray->Ub):=qj PG 114 [.string s,.int .u8 c] [Kind.string] w K
def ja (v lo hi:Int)(w:World)(K:Bool->Ub):=qj PG 118 [Ua v,Ua lo,Ua hi] [Kind.bool] w K
def qcb (n:Int)(w:World)(K:Bool->Ub):=qj PG 119 [Ua n] [Kind.bool] w K
def Qs (most:Int)(w:World)(K:Option Addr->Int->Ub):=qj PG 120 [Ua most] [Kind.ptr,Kind.int .i64] w K
def Xd (g:Option Addr)(a:qt)(w:World)(K:Ub):=qj PG 121 [.pointer g,ag qt.rep a] [] w K
def qp4 (cols:Int)(w:World)(K:Option Addr->Int->Ub):=qj PG 122 [Ua cols] [Kind.ptr,Kind.int .i64] w K
def qay (w:World)(K:qA->Ub):=qj PG 123 [] [Kind.struct qA.rep] w K
def X6 (s:Option Addr)(w:World)(K:Ub):=qj PG 124 [.pointer s] [] w K
def Vp (v lo hi:Int)(w:World)(K:Bool->Ub):=qj PG 125 [Ua v,Ua lo,Ua hi] [Kind.bool] w K
def qic (n:Int)(w:World)(K:Bool->Ub):=qj PG 126 [Ua n] [Kind.bool] w K
def Kr (g:Option Addr)(a:qt)(w:World)(K:Ub):=qj PG 127 [.pointer g,ag qt.rep a] [] w K
def vi (r:Option Addr)(i:Int)(w:World)(K:Slc->Bool->Ub):=qj PG 128 [.pointer r,Ua i] [Kind.slice,Kind.bool] w K
def vr (s:Option Addr)(w:World)(K:Bool->Ub):=qj PG 129 [.pointer s] [Kind.bool] w K
def ZK (s:Option Addr)(w:World)(K:Option Addr->Ub):=qj PG 130 [.pointer s] [Kind.ptr] w K
def qbw (t:Option Addr)(w:World)(K:Option Addr->Ub):=qj PG 131 [.pointer t] [Kind.ptr] w K
def VC (seq:Value)(w:World)(K:Slc->Ub):=qj PG 132 [seq] [Kind.slice] w K
def V2 (v lo hi:Int)(w:World)(K:Bool->Ub):=qj PG 135 [Ua v,Ua lo,Ua hi] [Kind.bool] w K
def qxc (wx hx:Int)(w:World)(K:qa->Int->Ub):=qj PG 136 [Ua wx,Ua hx] [Kind.struct qa.rep,Kind.int .i64] w K
def jx (a:qt)(w:World)(K:qg->qg->Ub):=qj PG 137 [ag qt.rep a] [Kind.struct qg.rep,Kind.struct qg.rep] w K
def yW (s:qE)(row col:Int)(w:World)(K:qP->Ub):=qj PG 138 [ag qE.rep s,Ua row,Ua col] [Kind.struct qP.rep] w K
def qtd (m:qa)(x y:Int)(c:xo)(w:World)(K:Ub):=qj PG 139 [ag qa.rep m,Ua x,Ua y,ag xo.rep c] [] w K
def qpx (c:qg)(w:World)(K:xo->Ub):=qj PG 140 [ag qg.rep c] [Kind.struct xo.rep] w K
def qqd (m:qa)(s:qE)(row col:Int)(w:World)(K:Ub):=qj PG 142 [ag qa.rep m,ag qE.rep s,Ua row,Ua col] [] w K
def VI (t:Option Addr)(w:World)(K:vf->Ub):=qj PG 143 [.pointer t] [Kind.struct vf.rep] w K
def yF (t:Option Addr)(v:qD)(w:World)(K:Slc->Ub):=qj PG 144 [.pointer t,ag qD.rep v] [Kind.slice] w K
def Ka (g:Option Addr)(w:World)(K:Int->Int->Ub):=qj PG 145 [.pointer g] [Kind.int .i64,Kind.int .i64] w K
def yj (s:Slc)(f:Value)(w:World)(K:Int->Ub):=qj PG 146 [.slice s.a s.n s.c,f] [Kind.int .i64] w K
def V7 (c:Int)(w:World)(K:Bool->Ub):=qj PG 147 [.int .u8 c] [Kind.bool] w K
def xl (p:Option Addr)(l:Slc)(w:World)(K:Ub):=qj PG 148 [.pointer p,.slice l.a l.n l.c] [] w K
def Qj (p:Option Addr)(c:Int)(w:World)(K:Ub):=qj PG 149 [.pointer p,.int .u8 c] [] w K
def yZ (p:Option Addr)(c:Int)(w:World)(K:Ub):=qj PG 150 [.pointer p,.int .u8 c] [] w K
def jj (p:Option Addr)(l:Slc)(w:World)(K:Ub):=qj PG 151 [.pointer p,.slice l.a l.n l.c] [] w K
def kU (d:Option Addr)(w:World)(K:Slc->Ub):=qj PG 152 [.pointer d] [Kind.slice] w K
def x5 (p:Option Addr)(b:Int)(w:World)(K:Ub):=qj PG 153 [.pointer p,.int .u8 b] [] w K
def jN (p:Option Addr)(state:Int)(w:World)(K:Ub):=qj PG 154 [.pointer p,Ua state] [] w K
def yi (e:Option Addr)(n:Int)(w:World)(K:Int->Ub):=qj PG 158 [.pointer e,Ua n] [Kind.int .i64] w K
def jJ (s:Option Addr)(rows cols:Int)(w:World)(K:Ub):=qj PG 162 [.pointer s,Ua rows,Ua cols] [] w K
def xE (e:Option Addr)(command:Slc)(v:qs)(w:World)(K:qc->Ub):=qj PG 163 [.pointer e,.slice command.a command.n command.c,ag qs.rep v] [Kind.struct qc.rep] w K
def yC (s:Option Addr)(r:Int)(w:World)(K:Ub):=qj PG 164 [.pointer s,.int .i32 r] [] w K
def qe8 (s:Option Addr)(c:Int)(w:World)(K:Ub):=qj PG 165 [.pointer s,.int .u8 c] [] w K
def qg5 (s:Option Addr)(inter:ByteArray)(c:Int)(w:World)(K:Ub):=qj PG 166 [.pointer s,.string inter,.int .u8 c] [] w K
def kY (s:Option Addr)(e:zg)(w:World)(K:Slc->Ub):=qj PG 167 [.pointer s,ag zg.rep e] [Kind.slice] w K
def vT (s:Option Addr)(w:World)(K:Slc->Ub):=qj PG 168 [.pointer s] [Kind.slice] w K
def qlz (e:Option Addr)(alt:Bool)(line rows from_ to:Int)(w:World)(K:Ub):=qj PG 169 [.pointer e,.bool alt,Ua line,Ua rows,Ua from_,Ua to] [] w K
def vU (s:Option Addr)(w:World)(K:Int->Int->Ub):=qj PG 170 [.pointer s] [Kind.int .i64,Kind.int .i64] w K
def kN (e:Option Addr)(alt:Bool)(first:Int)(w:World)(K:Ub):=qj PG 171 [.pointer e,.bool alt,Ua first] [] w K
def JD (wx hx:Int)(w:World)(K:Bool->Ub):=qj PG 172 [Ua wx,Ua hx] [Kind.bool] w K
def va (l:Value)(w:World)(K:ByteArray->Ub):=qj PG 173 [l] [Kind.string] w K
def QN (s:Option Addr)(w:World)(K:Int->Ub):=qj PG 174 [.pointer s] [Kind.int .i64] w K
def Yc (t:Option Addr)(v:qD)(w:World)(K:Slc->Ub):=qj PG 175 [.pointer t,ag qD.rep v] [Kind.slice] w K
def yY (r:Option Addr)(w:World)(K:Option Addr->Ub):=qj PG 176 [.pointer r] [Kind.ptr] w K
def zU (s:Slc)(w:World)(K:Slc->Ub):=qj PG 177 [.slice s.a s.n s.c] [Kind.slice] w K
def Xa (l:Slc)(col kind:Int)(w:World)(K:Bool->Ub):=qj PG 178 [.slice l.a l.n l.c,Ua col,Ua kind] [Kind.bool] w K
def kr (g:Option Addr)(n:Int)(a:qt)(w:World)(K:Slc->Ub):=qj PG 183 [.pointer g,Ua n,ag qt.rep a] [Kind.slice] w K
def QO (s:Option Addr)(cols:Int)(w:World)(K:Int->Ub):=qj PG 184 [.pointer s,Ua cols] [Kind.int .i64] w K
def qs6 (cols:Int)(a:qt)(w:World)(K:Slc->Ub):=qj PG 185 [Ua cols,ag qt.rep a] [Kind.slice] w K
def zJ (m:Option Nat)(w:World)(K:Option Nat->Ub):=qj PG 186 [.map m] [Kind.map] w K
def qtk (wx hx:Int)(w:World)(K:Bool->Ub):=qj PG 190 [Ua wx,Ua hx] [Kind.bool] w K
def qdc (c:Int)(fore:Bool)(w:World)(K:qg->Ub):=qj PG 191 [Ua c,.bool fore] [Kind.struct qg.rep] w K
def vn (p:Option Addr)(w:World)(K:Ub):=qj PG 198 [.pointer p] [] w K
def xD (p:Option Addr)(c:Int)(w:World)(K:Ub):=qj PG 199 [.pointer p,.int .u8 c] [] w K
def vz (p:Option Addr)(c:Int)(w:World)(K:Ub):=qj PG 200 [.pointer p,.int .u8 c] [] w K
def k8 (p:Option Addr)(c:Int)(w:World)(K:Ub):=qj PG 201 [.pointer p,.int .u8 c] [] w K
def y9 (p:Option Addr)(c:Int)(w:World)(K:Ub):=qj PG 202 [.pointer p,.int .u8 c] [] w K
def Yz (d:Option Addr)(w:World)(K:Bool->Ub):=qj PG 203 [.pointer d] [Kind.bool] w K
def y8 (s:Option Addr)(n:Int)(w:World)(K:Slc->Int->Ub):=qj PG 206 [.pointer s,Ua n] [Kind.slice,Kind.int .i64] w K
def QR (e:Option Addr)(w:World)(K:Int->Ub):=qj PG 207 [.pointer e] [Kind.int .i64] w K
def vm (e:Option Addr)(ids:Slc)(w:World)(K:Ub):=qj PG 208 [.pointer e,.slice ids.a ids.n ids.c] [] w K
def JE (s:Option Addr)(id number:Int)(m:qa)(w:World)(K:Int->Slc->Int->Ub):=qj PG 210 [.pointer s,Ua id,Ua number,ag qa.rep m] [Kind.int .i64,Kind.slice,Kind.int .i64] w K
def kV (e:Option Addr)(k:qb)(id:Int)(v:qs)(w:World)(K:qc->Bool->Ub):=qj PG 211 [.pointer e,ag qb.rep k,Ua id,ag qs.rep v] [Kind.struct qc.rep,Kind.bool] w K
def qhf (w:World)(K:qb->Ub):=qj PG 212 [] [Kind.struct qb.rep] w K
def xm (s:Option Addr)(w:World)(K:Ub):=qj PG 213 [.pointer s] [] w K
def xr (s:Option Addr)(row col:Int)(w:World)(K:Ub):=qj PG 214 [.pointer s,Ua row,Ua col] [] w K
def qg2 (b:Slc)(w:World)(K:Slc->Slc->Ub):=qj PG 215 [.slice b.a b.n b.c] [Kind.slice,Kind.slice] w K
def qhg (b:Slc)(w:World)(K:qb->Int->Ub):=qj PG 216 [.slice b.a b.n b.c] [Kind.struct qb.rep,Kind.int .i64] w K
def vl (e:Option Addr)(k:qb)(text:Slc)(v:qs)(w:World)(K:qc->Ub):=qj PG 217 [.pointer e,ag qb.rep k,.slice text.a text.n text.c,ag qs.rep v] [Kind.struct qc.rep] w K
def xI (e:Option Addr)(w:World)(K:Ub):=qj PG 218 [.pointer e] [] w K
def Qn (e:Option Addr)(k:qb)(text:Slc)(v:qs)(w:World)(K:qc->Ub):=qj PG 219 [.pointer e,ag qb.rep k,.slice text.a text.n text.c,ag qs.rep v] [Kind.struct qc.rep] w K
def QS (e:Option Addr)(k:qb)(v:qs)(w:World)(K:qc->Ub):=qj PG 220 [.pointer e,ag qb.rep k,ag qs.rep v] [Kind.struct qc.rep] w K
def qjm (e:Option Addr)(k:qb)(v:qs)(w:World)(K:Ub):=qj PG 221 [.pointer e,ag qb.rep k,ag qs.rep v] [] w K
def zB (e:Option Addr)(k:qb)(x:Int)(word:ByteArray)(w:World)(K:qc->Ub):=qj PG 222 [.pointer e,ag qb.rep k,Ua x,.string word] [Kind.struct qc.rep] w K
def qdw (set b:Int)(w:World)(K:Int->Ub):=qj PG 223 [.int .u8 set,.int .u8 b] [Kind.int .i32] w K
def vt (s:Option Addr)(r:Int)(w:World)(K:Ub):=qj PG 224 [.pointer s,.int .i32 r] [] w K
def Qp (p:Slc)(i none_:Int)(w:World)(K:Int->Ub):=qj PG 228 [.slice p.a p.n p.c,Ua i,Ua none_] [Kind.int .i64] w K
def qle (s:Option Addr)(w:World)(K:Ub):=qj PG 229 [.pointer s] [] w K
def qkv (s:Option Addr)(n:Int)(on:Bool)(w:World)(K:Ub):=qj PG 230 [.pointer s,Ua n,.bool on] [] w K
def x9 (s:ByteArray)(w:World)(K:Slc->Ub):=qj PG 231 [.string s] [Kind.slice] w K
def k7 (s:Option Addr)(w:World)(K:ByteArray->Ub):=qj PG 232 [.pointer s] [Kind.string] w K
def vH (i:Int)(w:World)(K:ByteArray->Ub):=qj PG 233 [Ua i] [Kind.string] w K
def qi2 (s:Option Addr)(n:Int)(w:World)(K:Int->Ub):=qj PG 234 [.pointer s,Ua n] [Kind.int .i64] w K
def Qb (s:Option Addr)(p:Slc)(c:Int)(w:World)(K:Slc->Ub):=qj PG 235 [.pointer s,.slice p.a p.n p.c,.int .u8 c] [Kind.slice] w K
def yR (e:Option Addr)(l:Slc)(w:World)(K:Ub):=qj PG 236 [.pointer e,.slice l.a l.n l.c] [] w K
def JP (g:Option Addr)(w:World)(K:Int->Ub):=qj PG 238 [.pointer g] [Kind.int .i64] w K
def Z2 (g:Option Addr)(w:World)(K:Int->Ub):=qj PG 239 [.pointer g] [Kind.int .i64] w K
def QT (t:Option Addr)(alt:Bool)(first:Int)(w:World)(K:Slc->Ub):=qj PG 240 [.pointer t,.bool alt,Ua first] [Kind.slice] w K
def QQ (p:qf)(line rows from_ past:Int)(w:World)(K:Bool->Ub):=qj PG 241 [ag qf.rep p,Ua line,Ua rows,Ua from_,Ua past] [Kind.bool] w K
def zt (x:Slc)(cmp:Value)(w:World)(K:Ub):=qj PG 242 [.slice x.a x.n x.c,cmp] [] w K
def qqg (cols:Int)(a:qt)(w:World)(K:Slc->Ub):=qj PG 247 [Ua cols,ag qt.rep a] [Kind.slice] w K
def Kl (s:Option Addr)(w:World)(K:Slc->Ub):=qj PG 248 [.pointer s] [Kind.slice] w K
def qkd (a:qt)(w:World)(K:qP->Ub):=qj PG 249 [ag qt.rep a] [Kind.struct qP.rep] w K
def xG (c:Int)(w:World)(K:Bool->Ub):=qj PG 269 [.int .u8 c] [Kind.bool] w K
def VX (p:Option Addr)(c:Int)(w:World)(K:Ub):=qj PG 270 [.pointer p,.int .u8 c] [] w K
def vq (p:Option Addr)(c:Int)(w:World)(K:Ub):=qj PG 271 [.pointer p,.int .u8 c] [] w K
def Ql (p:Option Addr)(c:Int)(w:World)(K:Bool->Ub):=qj PG 272 [.pointer p,.int .u8 c] [Kind.bool] w K
def JV (d:Option Addr)(b:Int)(w:World)(K:Slc->Ub):=qj PG 273 [.pointer d,.int .u8 b] [Kind.slice] w K
def vp (p:Option Addr)(w:World)(K:Ub):=qj PG 274 [.pointer p] [] w K
def yN (p:Option Addr)(c:Int)(w:World)(K:Ub):=qj PG 275 [.pointer p,.int .u8 c] [] w K
def vP (s:Option Addr)(n:Int)(w:World)(K:Slc->Ub):=qj PG 278 [.pointer s,Ua n] [Kind.slice] w K
def ZE (l:Option Addr)(w:World)(K:Int->Ub):=qj PG 279 [.pointer l] [Kind.int .i64] w K
def Z9 (t:Option Addr)(image:Int)(w:World)(K:Int->Ub):=qj PG 280 [.pointer t,Ua image] [Kind.int .i64] w K
def vh (m:qa)(w:World)(K:Bool->Ub):=qj PG 284 [ag qa.rep m] [Kind.bool] w K
def QF (n:Int)(w:World)(K:Bool->Ub):=qj PG 285 [Ua n] [Kind.bool] w K
def k6 (s:Option Addr)(w:World)(K:Ub):=qj PG 286 [.pointer s] [] w K
def kg (s:Option Addr)(id:Int)(w:World)(K:Bool->Ub):=qj PG 287 [.pointer s,Ua id] [Kind.bool] w K
def Kg (s:Option Addr)(id:Int)(w:World)(K:Bool->Ub):=qj PG 288 [.pointer s,Ua id] [Kind.bool] w K
def Qo (e:Option Addr)(k:qb)(id:Int)(v:qs)(w:World)(K:qf->Int->Ub):=qj PG 289 [.pointer e,ag qb.rep k,Ua id,ag qs.rep v] [Kind.struct qf.rep,Kind.int .i64] w K
def Xe (t:Option Addr)(p:qf)(w:World)(K:Int->Ub):=qj PG 290 [.pointer t,ag qf.rep p] [Kind.int .i64] w K
def xp (g:Option Addr)(top past n:Int)(a:qt)(w:World)(K:Int->Ub):=qj PG 291 [.pointer g,Ua top,Ua past,Ua n,ag qt.rep a] [Kind.int .i64] w K
def xj (s:Option Addr)(w:World)(K:qt->Ub):=qj PG 292 [.pointer s] [Kind.struct qt.rep] w K
def YC (v lo hi:Int)(w:World)(K:Int->Ub):=qj PG 293 [Ua v,Ua lo,Ua hi] [Kind.int .i64] w K
def qlb (s sep:Slc)(w:World)(K:Slc->Slc->Bool->Ub):=qj PG 294 [.slice s.a s.n s.c,.slice sep.a sep.n sep.c] [Kind.slice,Kind.slice,Kind.bool] w K
def Zh (b:Slc)(w:World)(K:Slc->Ub):=qj PG 295 [.slice b.a b.n b.c] [Kind.slice] w K
def VL (s sep:ByteArray)(w:World)(K:Slc->Ub):=qj PG 296 [.string s,.string sep] [Kind.slice] w K
def VR (k:Option Addr)(s:ByteArray)(w:World)(K:Bool->Ub):=qj PG 297 [.pointer k,.string s] [Kind.bool] w K
def JT (l:Option Addr)(text:Slc)(w:World)(K:Int->Ub):=qj PG 298 [.pointer l,.slice text.a text.n text.c] [Kind.int .i64] w K
def ZU (e:Option Addr)(k:qb)(v:qs)(w:World)(K:qc->Ub):=qj PG 299 [.pointer e,ag qb.rep k,ag qs.rep v] [Kind.struct qc.rep] w K
def qpb (k:qb)(room:Int)(w:World)(K:Option Addr->Int->Ub):=qj PG 300 [ag qb.rep k,Ua room] [Kind.ptr,Kind.int .i64] w K
def Qc (e:Option Addr)(k:qb)(w:World)(K:Int->Bool->Ub):=qj PG 301 [.pointer e,ag qb.rep k] [Kind.int .i64,Kind.bool] w K
def JF (s:Option Addr)(id:Int)(w:World)(K:Bool->Ub):=qj PG 302 [.pointer s,Ua id] [Kind.bool] w K
def yX (s:Option Addr)(n:Int)(w:World)(K:Int->Bool->Ub):=qj PG 303 [.pointer s,Ua n] [Kind.int .i64,Kind.bool] w K
def Qt (e:Option Addr)(ids:Slc)(goes:Value)(w:World)(K:Ub):=qj PG 305 [.pointer e,.slice ids.a ids.n ids.c,goes] [] w K
def qvm (e:Int)(w:World)(K:ByteArray->Ub):=qj PG 307 [Ua e] [Kind.string] w K
def qga (k:qb)(word:ByteArray)(w:World)(K:Slc->Ub):=qj PG 308 [ag qb.rep k,.string word] [Kind.slice] w K
def qvc (w:World)(K:Slc->Ub):=qj PG 309 [] [Kind.slice] w K
def qlw (r:Int)(w:World)(K:Int->Ub):=qj PG 310 [.int .i32 r] [Kind.int .i64] w K
def ZQ (g:Option Addr)(row:Int)(f:Value)(w:World)(K:Bool->Ub):=qj PG 311 [.pointer g,Ua row,f] [Kind.bool] w K
def XR (l:Slc)(c0 c1 c2:Addr)(w:World)(K:Slc->Ub):=qj PG 312 [.slice l.a l.n l.c,.pointer (some c0),.pointer (some c1),.pointer (some c2)] [Kind.slice] w K
def ZL (l:Slc)(col n:Int)(a:qt)(w:World)(K:Slc->Ub):=qj PG 313 [.slice l.a l.n l.c,Ua col,Ua n,ag qt.rep a] [Kind.slice] w K
def VT (l:Slc)(col r width:Int)(a:qt)(w:World)(K:Slc->Bool->Ub):=qj PG 314 [.slice l.a l.n l.c,Ua col,.int .i32 r,Ua width,ag qt.rep a] [Kind.slice,Kind.bool] w K
def qjz (s:Option Addr)(w:World)(K:Ub):=qj PG 320 [.pointer s] [] w K
def qek (s:Option Addr)(w:World)(K:Ub):=qj PG 321 [.pointer s] [] w K
def q4p (a:qt)(params:Slc)(w:World)(K:qt->Ub):=qj PG 326 [ag qt.rep a,.slice params.a params.n params.c] [Kind.struct qt.rep] w K
def qet (s:Option Addr)(p:Slc)(w:World)(K:Ub):=qj PG 327 [.pointer s,.slice p.a p.n p.c] [] w K
def qpy (s:Option Addr)(col:Int)(w:World)(K:Bool->Ub):=qj PG 328 [.pointer s,Ua col] [Kind.bool] w K
def qri (s:Option Addr)(w:World)(K:Ub):=qj PG 329 [.pointer s] [] w K
def qje (s:Option Addr)(n:Int)(w:World)(K:Ub):=qj PG 330 [.pointer s,Ua n] [] w K
def qfk (s:Option Addr)(how:Int)(w:World)(K:Ub):=qj PG 331 [.pointer s,Ua how] [] w K
def qhn (s:Option Addr)(how:Int)(w:World)(K:Ub):=qj PG 332 [.pointer s,Ua how] [] w K
def y3 (s:Option Addr)(c n:Int)(w:World)(K:Ub):=qj PG 333 [.pointer s,.int .u8 c,Ua n] [] w K
def XE (s:Option Addr)(c n:Int)(w:World)(K:Ub):=qj PG 334 [.pointer s,.int .u8 c,Ua n] [] w K
def qlp (s:Option Addr)(p:Slc)(c n:Int)(w:World)(K:Ub):=qj PG 335 [.pointer s,.slice p.a p.n p.c,.int .u8 c,Ua n] [] w K
def JU (id:Int)(w:World)(K:Bool->Ub):=qj PG 336 [Ua id] [Kind.bool] w K
def kw (t:Option Addr)(goes:Value)(w:World)(K:Slc->Ub):=qj PG 337 [.pointer t,goes] [Kind.slice] w K
def Kp (g:Option Addr)(w:World)(K:Int->Ub):=qj PG 339 [.pointer g] [Kind.int .i64] w K
def XH (p:qf)(c0 c1:Addr)(w:World)(K:Bool->Ub):=qj PG 340 [ag qf.rep p,.pointer (some c0),.pointer (some c1)] [Kind.bool] w K
def kx (data:Slc)(n:Int)(cmp:Value)(w:World)(K:Ub):=qj PG 341 [.slice data.a data.n data.c,Ua n,cmp] [] w K
def xK (s:ByteArray)(c:Int)(w:World)(K:Int->Ub):=qj PG 343 [.string s,.int .u8 c] [Kind.int .i64] w K
def qbp (n:Int)(w:World)(K:Int->Ub):=qj PG 345 [Ua n] [Kind.int .i64] w K
def Zz (n:Int)(a:qt)(w:World)(K:Slc->Ub):=qj PG 347 [Ua n,ag qt.rep a] [Kind.slice] w K
def kD (m:Option Nat)(w:World)(K:Value->Ub):=qj PG 348 [.map m] [Kind.raw] w K
def Zb (d:Option Addr)(b:Int)(w:World)(K:Slc->Ub):=qj PG 356 [.pointer d,.int .u8 b] [Kind.slice] w K
def xO (s:Slc)(w:World)(K:Slc->Ub):=qj PG 357 [.slice s.a s.n s.c] [Kind.slice] w K
def Qe (a b:Int)(c0:Addr)(w:World)(K:Int->Ub):=qj PG 358 [Ua a,Ua b,.pointer (some c0)] [Kind.int .i64] w K
def vu (x y:Int)(w:World)(K:Int->Ub):=qj PG 359 [Ua x,Ua y] [Kind.int .i64] w K
def vg (x:Slc)(cmp:Value)(w:World)(K:Int->Ub):=qj PG 360 [.slice x.a x.n x.c,cmp] [Kind.int .i64] w K
def VF (p:qf)(c0:Addr)(w:World)(K:Bool->Ub):=qj PG 361 [ag qf.rep p,.pointer (some c0)] [Kind.bool] w K
def YU (at_ n side:Int)(w:World)(K:Int->Ub):=qj PG 363 [Ua at_,Ua n,Ua side] [Kind.int .i64] w K
def K6 (wx hx dx dy cw ch:Int)(w:World)(K:Int->Int->Ub):=qj PG 364 [Ua wx,Ua hx,Ua dx,Ua dy,Ua cw,Ua ch] [Kind.int .i64,Kind.int .i64] w K
def jD (v lo hi:Int)(w:World)(K:Bool->Ub):=qj PG 365 [Ua v,Ua lo,Ua hi] [Kind.bool] w K
def qj7 (p:qf)(w:World)(K:Bool->Ub):=qj PG 366 [ag qf.rep p] [Kind.bool] w K
def VV (o:qf)(c0:Addr)(w:World)(K:Bool->Ub):=qj PG 367 [ag qf.rep o,.pointer (some c0)] [Kind.bool] w K
def zD (slices:Slc)(w:World)(K:Slc->Ub):=qj PG 368 [.slice slices.a slices.n slices.c] [Kind.slice] w K
def jY (r:Option Addr)(t:Slc)(w:World)(K:Slc->Bool->Ub):=qj PG 369 [.pointer r,.slice t.a t.n t.c] [Kind.slice,Kind.bool] w K
def qdv (s sep:Slc)(w:World)(K:Int->Ub):=qj PG 370 [.slice s.a s.n s.c,.slice sep.a sep.n sep.c] [Kind.int .i64] w K
def qbg (s sep:ByteArray)(sepSave n:Int)(w:World)(K:Slc->Ub):=qj PG 371 [.string s,.string sep,Ua sepSave,Ua n] [Kind.slice] w K
def qg1 (s:ByteArray)(w:World)(K:Int->Bool->Ub):=qj PG 372 [.string s] [Kind.int .i64,Kind.bool] w K
def Qx (k:Option Addr)(c:Int)(w:World)(K:Option Addr->Ub):=qj PG 373 [.pointer k,.int .u8 c] [Kind.ptr] w K
def qbu (c:Int)(w:World)(K:Bool->Ub):=qj PG 374 [.int .u8 c] [Kind.bool] w K
def yf (k:Option Addr)(c:Int)(w:World)(K:Option Addr->Ub):=qj PG 375 [.pointer k,.int .u8 c] [Kind.ptr] w K
def qdg (s:ByteArray)(w:World)(K:Int->Bool->Ub):=qj PG 376 [.string s] [Kind.int .i64,Kind.bool] w K
def Qw (d:Option Addr)(c:Int)(w:World)(K:Slc->Int->Ub):=qj PG 377 [.pointer d,.int .u8 c] [Kind.slice,Kind.int .i64] w K
def kq (l:Option Addr)(b:Slc)(w:World)(K:Int->Ub):=qj PG 378 [.pointer l,.slice b.a b.n b.c] [Kind.int .i64] w K
def jk (l:Option Addr)(e:Int)(w:World)(K:Ub):=qj PG 379 [.pointer l,Ua e] [] w K
def Xm (l:Option Addr)(w:World)(K:qa->Int->Ub):=qj PG 380 [.pointer l] [Kind.struct qa.rep,Kind.int .i64] w K
def Za (e:Option Addr)(k:qb)(m:qa)(v:qs)(w:World)(K:qc->Ub):=qj PG 381 [.pointer e,ag qb.rep k,ag qa.rep m,ag qs.rep v] [Kind.struct qc.rep] w K
def qgx (k:qb)(w:World)(K:Int->Int->Ub):=qj PG 382 [ag qb.rep k] [Kind.int .i64,Kind.int .i64] w K
def Y2 (w:World)(K:Option Addr->Ub):=qj PG 383 [] [Kind.ptr] w K
def JH (t:Option Addr)(image:Int)(w:World)(K:Bool->Ub):=qj PG 386 [.pointer t,Ua image] [Kind.bool] w K
def qkz (elems:Slc)(sep:ByteArray)(w:World)(K:ByteArray->Ub):=qj PG 387 [.slice elems.a elems.n elems.c,.string sep] [Kind.string] w K
def qr0 (r:Int)(l:Slc)(w:World)(K:Bool->Ub):=qj PG 388 [.int .i32 r,.slice l.a l.n l.c] [Kind.bool] w K
def qp2 (w:World)(K:Slc->Ub):=qj PG 389 [] [Kind.slice] w K
def qps (w:World)(K:Slc->Ub):=qj PG 390 [] [Kind.slice] w K
def Z8 (l:Slc)(cols:Int)(w:World)(K:Slc->Ub):=qj PG 391 [.slice l.a l.n l.c,Ua cols] [Kind.slice] w K
def Ku (l:Slc)(col n:Int)(w:World)(K:Int->Ub):=qj PG 392 [.slice l.a l.n l.c,Ua col,Ua n] [Kind.int .i64] w K
def zW (slices:Slc)(w:World)(K:Slc->Ub):=qj PG 393 [.slice slices.a slices.n slices.c] [Kind.slice] w K
def ZT (l:Slc)(from_ to:Int)(w:World)(K:Slc->Ub):=qj PG 394 [.slice l.a l.n l.c,Ua from_,Ua to] [Kind.slice] w K
def kG (r:Option Addr)(w:World)(K:Int->Ub):=qj PG 406 [.pointer r] [Kind.int .i64] w K
def zX (data:Slc)(a b:Int)(cmp:Value)(w:World)(K:Ub):=qj PG 407 [.slice data.a data.n data.c,Ua a,Ua b,cmp] [] w K
def xL (data:Slc)(a m b:Int)(cmp:Value)(w:World)(K:Ub):=qj PG 408 [.slice data.a data.n data.c,Ua a,Ua m,Ua b,cmp] [] w K
def JW (x:Int)(w:World)(K:Bool->Ub):=qj PG 412 [Ua x] [Kind.bool] w K
def KH (n more size:Int)(w:World)(K:Int->Ub):=qj PG 413 [Ua n,Ua more,Ua size] [Kind.int .i64] w K
def zY (v lo hi:Int)(w:World)(K:Bool->Ub):=qj PG 414 [Ua v,Ua lo,Ua hi] [Kind.bool] w K
def jR (s:Slc)(n:Int)(w:World)(K:Slc->Ub):=qj PG 415 [.slice s.a s.n s.c,Ua n] [Kind.slice] w K
def ko (r:Option Addr)(w:World)(K:Ub):=qj PG 416 [.pointer r] [] w K
def Xn (b:Slc)(c:Int)(w:World)(K:Int->Ub):=qj PG 417 [.slice b.a b.n b.c,.int .u8 c] [Kind.int .i64] w K
def qdk (a b:Slc)(w:World)(K:Bool->Ub):=qj PG 418 [.slice a.a a.n a.c,.slice b.a b.n b.c] [Kind.bool] w K
def Qv (s sep:Slc)(w:World)(K:Int->Ub):=qj PG 420 [.slice s.a s.n s.c,.slice sep.a sep.n sep.c] [Kind.int .i64] w K
def qqu (s:ByteArray)(n:Int)(w:World)(K:Slc->Ub):=qj PG 421 [.string s,Ua n] [Kind.slice] w K
def qis (s substr:ByteArray)(w:World)(K:Int->Ub):=qj PG 422 [.string s,.string substr] [Kind.int .i64] w K
def qim (s substr:ByteArray)(w:World)(K:Int->Ub):=qj PG 423 [.string s,.string substr] [Kind.int .i64] w K
def QU (s prefix_:ByteArray)(w:World)(K:ByteArray->Bool->Ub):=qj PG 424 [.string s,.string prefix_] [Kind.string,Kind.bool] w K
def Qf (d:Option Addr)(c:Int)(w:World)(K:Slc->Bool->Ub):=qj PG 425 [.pointer d,.int .u8 c] [Kind.slice,Kind.bool] w K
def ZI (l:Option Addr)(w:World)(K:Ub):=qj PG 426 [.pointer l] [] w K
def Qi (d:Option Addr)(w:World)(K:Slc->Int->Ub):=qj PG 427 [.pointer d] [Kind.slice,Kind.int .i64] w K
def xi (slices:Slc)(w:World)(K:Slc->Ub):=qj PG 428 [.slice slices.a slices.n slices.c] [Kind.slice] w K
def qkj (l:Option Addr)(b:Slc)(w:World)(K:Slc->Int->Ub):=qj PG 429 [.pointer l,.slice b.a b.n b.c] [Kind.slice,Kind.int .i64] w K
def QZ (l:Option Addr)(b:Slc)(w:World)(K:qa->Int->Ub):=qj PG 430 [.pointer l,.slice b.a b.n b.c] [Kind.struct qa.rep,Kind.int .i64] w K
def KG (n:Int)(w:World)(K:Bool->Ub):=qj PG 431 [Ua n] [Kind.bool] w K
def jF (s:Slc)(f:Value)(w:World)(K:Bool->Ub):=qj PG 432 [.slice s.a s.n s.c,f] [Kind.bool] w K
def Y3 (p:qf)(c0:Addr)(w:World)(K:Bool->Ub):=qj PG 433 [ag qf.rep p,.pointer (some c0)] [Kind.bool] w K
def xb (s:Slc)(n:Int)(w:World)(K:Slc->Ub):=qj PG 436 [.slice s.a s.n s.c,Ua n] [Kind.slice] w K
def kL (s prefix_:ByteArray)(w:World)(K:ByteArray->Bool->Ub):=qj PG 452 [.string s,.string prefix_] [Kind.string,Kind.bool] w K
def xN (d:Option Addr)(w:World)(K:Bool->Ub):=qj PG 453 [.pointer d] [Kind.bool] w K
def xS (d:Option Addr)(w:World)(K:Slc->Ub):=qj PG 454 [.pointer d] [Kind.slice] w K
def Jx (d:Option Addr)(w:World)(K:Ub):=qj PG 455 [.pointer d] [] w K
def vI (s:Slc)(n:Int)(w:World)(K:Slc->Ub):=qj PG 456 [.slice s.a s.n s.c,Ua n] [Kind.slice] w K
def K3 (wx hx:Int)(b:Slc)(w:World)(K:qa->Int->Ub):=qj PG 458 [Ua wx,Ua hx,.slice b.a b.n b.c] [Kind.struct qa.rep,Kind.int .i64] w K
def q40 (b:Slc)(pixels:Int)(w:World)(K:qa->Int->Ub):=qj PG 459 [.slice b.a b.n b.c,Ua pixels] [Kind.struct qa.rep,Kind.int .i64] w K
def VM (wx hx:Int)(b:Slc)(w:World)(K:qa->Int->Ub):=qj PG 460 [Ua wx,Ua hx,.slice b.a b.n b.c] [Kind.struct qa.rep,Kind.int .i64] w K
def jT (s:Slc)(f:Value)(w:World)(K:Int->Ub):=qj PG 461 [.slice s.a s.n s.c,f] [Kind.int .i64] w K
def xc (s prefix_:ByteArray)(w:World)(K:Bool->Ub):=qj PG 472 [.string s,.string prefix_] [Kind.bool] w K
def YF (wx hx per:Int)(b:Slc)(w:World)(K:qa->Int->Ub):=qj PG 477 [Ua wx,Ua hx,Ua per,.slice b.a b.n b.c] [Kind.struct qa.rep,Kind.int .i64] w K
def vQ (s:qx)(f:Value)(w:World)(K:Ub):=qj PG 591 [ag qx.rep s,f] [] w K
def yy (l:qN)(m:qa)(w:World)(K:qa->Ub):=qj PG 594 [ag qN.rep l,ag qa.rep m] [Kind.struct qa.rep] w K
def Jm (row col:Int)(c:qP)(c0 c1:Addr)(w:World)(K:Ub):=qj PG 595 [Ua row,Ua col,ag qP.rep c,.pointer (some c0),.pointer (some c1)] [] w K
def K7 (a:qt)(w:World)(K:qg->qg->Ub):=qj PG 596 [ag qt.rep a] [Kind.struct qg.rep,Kind.struct qg.rep] w K
def YR (m:qa)(x y wx hx:Int)(c:qh)(w:World)(K:Ub):=qj PG 597 [ag qa.rep m,Ua x,Ua y,Ua wx,Ua hx,ag qh.rep c] [] w K
def zp (c:qg)(w:World)(K:qh->Ub):=qj PG 598 [ag qg.rep c] [Kind.struct qh.rep] w K
def ZJ (s:qx)(row col:Int)(w:World)(K:qP->Ub):=qj PG 599 [ag qx.rep s,Ua row,Ua col] [Kind.struct qP.rep] w K
def YD (c:Int)(fore:Bool)(w:World)(K:qg->Ub):=qj PG 600 [Ua c,.bool fore] [Kind.struct qg.rep] w K
def qrb (c:Int)(w:World)(K:Bool->Ub):=qj PG 601 [Ua c] [Kind.bool] w K
def KC (v:Int)(w:World)(K:qg->Ub):=qj PG 602 [Ua v] [Kind.struct qg.rep] w K
def q46 (n:Int)(w:World)(K:qg->Ub):=qj PG 603 [Ua n] [Kind.struct qg.rep] w K
def x7 (l:zO)(m:qa)(w:World)(K:qa->Ub):=qj PG 604 [ag zO.rep l,ag qa.rep m] [Kind.struct qa.rep] w K
def qai (s:qx)(p:qf)(w:World)(K:Int->Int->Int->Int->Ub):=qj PG 605 [ag qx.rep s,ag qf.rep p] [Kind.int .i64,Kind.int .i64,Kind.int .i64,Kind.int .i64] w K
def qj5 (m:qa)(x y wx hx:Int)(w:World)(K:qa->Ub):=qj PG 606 [ag qa.rep m,Ua x,Ua y,Ua wx,Ua hx] [Kind.struct qa.rep] w K
def qk9 (out src:qa)(x y wx hx:Int)(w:World)(K:Ub):=qj PG 607 [ag qa.rep out,ag qa.rep src,Ua x,Ua y,Ua wx,Ua hx] [] w K
def QE (at_ n side:Int)(w:World)(K:Int->Int->Ub):=qj PG 608 [Ua at_,Ua n,Ua side] [Kind.int .i64,Kind.int .i64] w K
def yb (dst src:qh)(w:World)(K:qh->Ub):=qj PG 609 [ag qh.rep dst,ag qh.rep src] [Kind.struct qh.rep] w K
def ye (m:qa)(x y:Int)(w:World)(K:qh->Ub):=qj PG 610 [ag qa.rep m,Ua x,Ua y] [Kind.struct qh.rep] w K
def Qq (l:qN)(m:qa)(w:World)(K:qa->Ub):=qj PG 611 [ag qN.rep l,ag qa.rep m] [Kind.struct qa.rep] w K
def Xh (row col:Int)(c:qP)(c0 c1:Addr)(w:World)(K:Ub):=qj PG 612 [Ua row,Ua col,ag qP.rep c,.pointer (some c0),.pointer (some c1)] [] w K
def qk4 (r wx hx:Int)(a:qt)(lay:Value)(w:World)(K:Ub):=qj PG 613 [.int .i32 r,Ua wx,Ua hx,ag qt.rep a,lay] [] w K
def Zg (x y wx hx:Int)(k:qh)(c0 c1 c2 c3:Addr)(w:World)(K:Ub):=qj PG 614 [Ua x,Ua y,Ua wx,Ua hx,ag qh.rep k,.pointer (some c0),.pointer (some c1),.pointer (some c2),.pointer (some c3)] [] w K
def yQ (l:qN)(m:qa)(w:World)(K:qa->Ub):=qj PG 615 [ag qN.rep l,ag qa.rep m] [Kind.struct qa.rep] w K
end Go.Proofs.YtlmpnfhmpjldaaaGreatDoor
