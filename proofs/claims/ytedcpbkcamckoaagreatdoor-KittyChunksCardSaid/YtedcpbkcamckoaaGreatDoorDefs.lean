import Derived.Test.YtedcpbkcamckoaaGreatDoorVc
import Derived.Test.YtedcpbkcamckoaaGreatDoorChecked
import Derived.KernelRfl
set_option maxRecDepth 100000
set_option linter.unusedVariables false
namespace Go.Proofs.YtedcpbkcamckoaaGreatDoor
open Go.Vc
structure qbw where
 Alt:Bool
 Top:Int
 Rows:Int
 Cols:Int
 Row:Int
 Col:Int
def qbw.rep:Rep where
 T:=qbw
 cells x:=[(.bool x.Alt),(.int .i64 x.Top),(.int .i64 x.Rows),(.int .i64 x.Cols),(.int .i64 x.Row),(.int .i64 x.Col)]
 get l:=match l with
  | [.bool v1,.int .i64 v2,.int .i64 v3,.int .i64 v4,.int .i64 v5,.int .i64 v6]=>some ⟨v1,v2,v3,v4,v5,v6⟩
  | _=>none
 ok l c h:=by
  split at h
  ·injection h with h;subst h;rfl
  ·cases h
structure qaf where
 View:qbw
 CellW:Int
 CellH:Int
def qaf.rep:Rep where
 T:=qaf
 cells x:=[(.bool x.View.Alt),(.int .i64 x.View.Top),(.int .i64 x.View.Rows),(.int .i64 x.View.Cols),(.int .i64 x.View.Row),(.int .i64 x.View.Col),(.int .i64 x.CellW),(.int .i64 x.CellH)]
 get l:=match l with
  | [.bool v1,.int .i64 v2,.int .i64 v3,.int .i64 v4,.int .i64 v5,.int .i64 v6,.int .i64 v7,.int .i64 v8]=>some ⟨⟨v1,v2,v3,v4,v5,v6⟩,v7,v8⟩
  | _=>none
 ok l c h:=by
  split at h
  ·injection h with h;subst h;rfl
  ·cases h
structure qad where
 Reply:Slc
 Rows:Int
 Cols:Int
 Moves:Bool
def qad.rep:Rep where
 T:=qad
 cells x:=[(.slice x.Reply.a x.Reply.n x.Reply.c),(.int .i64 x.Rows),(.int .i64 x.Cols),(.bool x.Moves)]
 get l:=match l with
  | [.slice v1a v1n v1c,.int .i64 v2,.int .i64 v3,.bool v4]=>some ⟨⟨v1a,v1n,v1c⟩,v2,v3,v4⟩
  | _=>none
 ok l c h:=by
  split at h
  ·injection h with h;subst h;rfl
  ·cases h
structure qac where
 W:Int
 H:Int
 P:Slc
def qac.rep:Rep where
 T:=qac
 cells x:=[(.int .i64 x.W),(.int .i64 x.H),(.slice x.P.a x.P.n x.P.c)]
 get l:=match l with
  | [.int .i64 v1,.int .i64 v2,.slice v3a v3n v3c]=>some ⟨v1,v2,⟨v3a,v3n,v3c⟩⟩
  | _=>none
 ok l c h:=by
  split at h
  ·injection h with h;subst h;rfl
  ·cases h
structure q1a where
 Op:Int
 Command:Slc
 V:qaf
 M:qac
 Alt:Bool
 Line:Int
 Rows:Int
 From:Int
 Past:Int
 N:Int
def q1a.rep:Rep where
 T:=q1a
 cells x:=[(.int .i64 x.Op),(.slice x.Command.a x.Command.n x.Command.c),(.bool x.V.View.Alt),(.int .i64 x.V.View.Top),(.int .i64 x.V.View.Rows),(.int .i64 x.V.View.Cols),(.int .i64 x.V.View.Row),(.int .i64 x.V.View.Col),(.int .i64 x.V.CellW),(.int .i64 x.V.CellH),(.int .i64 x.M.W),(.int .i64 x.M.H),(.slice x.M.P.a x.M.P.n x.M.P.c),(.bool x.Alt),(.int .i64 x.Line),(.int .i64 x.Rows),(.int .i64 x.From),(.int .i64 x.Past),(.int .i64 x.N)]
 get l:=match l with
  | [.int .i64 v1,.slice v2a v2n v2c,.bool v3,.int .i64 v4,.int .i64 v5,.int .i64 v6,.int .i64 v7,.int .i64 v8,.int .i64 v9,.int .i64 v10,.int .i64 v11,.int .i64 v12,.slice v13a v13n v13c,.bool v14,.int .i64 v15,.int .i64 v16,.int .i64 v17,.int .i64 v18,.int .i64 v19]=>some ⟨v1,⟨v2a,v2n,v2c⟩,⟨⟨v3,v4,v5,v6,v7,v8⟩,v9,v10⟩,⟨v11,v12,⟨v13a,v13n,v13c⟩⟩,v14,v15,v16,v17,v18,v19⟩
  | _=>none
 ok l c h:=by
  split at h
  ·injection h with h;subst h;rfl
  ·cases h
structure qaa where
 Action:Int
 Medium:Int
 Zip:Int
 What:Int
 Quiet:Int
 Format:Int
 W:Int
 H:Int
 Id:Int
 Number:Int
 Place:Int
 More:Int
 X:Int
 Y:Int
 PW:Int
 PH:Int
 DX:Int
 DY:Int
 Rows:Int
 Cols:Int
 Z:Int
 Stay:Int
def qaa.rep:Rep where
 T:=qaa
 cells x:=[(.int .u8 x.Action),(.int .u8 x.Medium),(.int .u8 x.Zip),(.int .u8 x.What),(.int .i64 x.Quiet),(.int .i64 x.Format),(.int .i64 x.W),(.int .i64 x.H),(.int .i64 x.Id),(.int .i64 x.Number),(.int .i64 x.Place),(.int .i64 x.More),(.int .i64 x.X),(.int .i64 x.Y),(.int .i64 x.PW),(.int .i64 x.PH),(.int .i64 x.DX),(.int .i64 x.DY),(.int .i64 x.Rows),(.int .i64 x.Cols),(.int .i64 x.Z),(.int .i64 x.Stay)]
 get l:=match l with
  | [.int .u8 v1,.int .u8 v2,.int .u8 v3,.int .u8 v4,.int .i64 v5,.int .i64 v6,.int .i64 v7,.int .i64 v8,.int .i64 v9,.int .i64 v10,.int .i64 v11,.int .i64 v12,.int .i64 v13,.int .i64 v14,.int .i64 v15,.int .i64 v16,.int .i64 v17,.int .i64 v18,.int .i64 v19,.int .i64 v20,.int .i64 v21,.int .i64 v22]=>some ⟨v1,v2,v3,v4,v5,v6,v7,v8,v9,v10,v11,v12,v13,v14,v15,v16,v17,v18,v19,v20,v21,v22⟩
  | _=>none
 ok l c h:=by
  split at h
  ·injection h with h;subst h;rfl
  ·cases h
structure qpc where
 quota:Int
 s:Option Addr
 t:Option Addr
 l:Option Addr
 first:qaa
def qpc.rep:Rep where
 T:=qpc
 cells x:=[(.int .i64 x.quota),(.pointer x.s),(.pointer x.t),(.pointer x.l),(.int .u8 x.first.Action),(.int .u8 x.first.Medium),(.int .u8 x.first.Zip),(.int .u8 x.first.What),(.int .i64 x.first.Quiet),(.int .i64 x.first.Format),(.int .i64 x.first.W),(.int .i64 x.first.H),(.int .i64 x.first.Id),(.int .i64 x.first.Number),(.int .i64 x.first.Place),(.int .i64 x.first.More),(.int .i64 x.first.X),(.int .i64 x.first.Y),(.int .i64 x.first.PW),(.int .i64 x.first.PH),(.int .i64 x.first.DX),(.int .i64 x.first.DY),(.int .i64 x.first.Rows),(.int .i64 x.first.Cols),(.int .i64 x.first.Z),(.int .i64 x.first.Stay)]
 get l:=match l with
  | [.int .i64 v1,.pointer v2,.pointer v3,.pointer v4,.int .u8 v5,.int .u8 v6,.int .u8 v7,.int .u8 v8,.int .i64 v9,.int .i64 v10,.int .i64 v11,.int .i64 v12,.int .i64 v13,.int .i64 v14,.int .i64 v15,.int .i64 v16,.int .i64 v17,.int .i64 v18,.int .i64 v19,.int .i64 v20,.int .i64 v21,.int .i64 v22,.int .i64 v23,.int .i64 v24,.int .i64 v25,.int .i64 v26]=>some ⟨v1,v2,v3,v4,⟨v5,v6,v7,v8,v9,v10,v11,v12,v13,v14,v15,v16,v17,v18,v19,v20,v21,v22,v23,v24,v25,v26⟩⟩
  | _=>none
 ok l c h:=by
  split at h
  ·injection h with h;subst h;rfl
  ·cases h
structure qb8 where
 What:Int
 Image:Int
 Place:Int
 X:Int
 Y:Int
 Z:Int
def qb8.rep:Rep where
 T:=qb8
 cells x:=[(.int .u8 x.What),(.int .i64 x.Image),(.int .i64 x.Place),(.int .i64 x.X),(.int .i64 x.Y),(.int .i64 x.Z)]
 get l:=match l with
  | [.int .u8 v1,.int .i64 v2,.int .i64 v3,.int .i64 v4,.int .i64 v5,.int .i64 v6]=>some ⟨v1,v2,v3,v4,v5,v6⟩
  | _=>none
 ok l c h:=by
  split at h
  ·injection h with h;subst h;rfl
  ·cases h
structure qah where
 Image:Int
 Id:Int
 Alt:Bool
 Line:Int
 Col:Int
 Rows:Int
 Cols:Int
 X:Int
 Y:Int
 W:Int
 H:Int
 DX:Int
 DY:Int
 Z:Int
def qah.rep:Rep where
 T:=qah
 cells x:=[(.int .i64 x.Image),(.int .i64 x.Id),(.bool x.Alt),(.int .i64 x.Line),(.int .i64 x.Col),(.int .i64 x.Rows),(.int .i64 x.Cols),(.int .i64 x.X),(.int .i64 x.Y),(.int .i64 x.W),(.int .i64 x.H),(.int .i64 x.DX),(.int .i64 x.DY),(.int .i64 x.Z)]
 get l:=match l with
  | [.int .i64 v1,.int .i64 v2,.bool v3,.int .i64 v4,.int .i64 v5,.int .i64 v6,.int .i64 v7,.int .i64 v8,.int .i64 v9,.int .i64 v10,.int .i64 v11,.int .i64 v12,.int .i64 v13,.int .i64 v14]=>some ⟨v1,v2,v3,v4,v5,v6,v7,v8,v9,v10,v11,v12,v13,v14⟩
  | _=>none
 ok l c h:=by
  split at h
  ·injection h with h;subst h;rfl
  ·cases h
structure qd8 where
 quota:Int
 reserved:Int
 used:Int
 clock:Int
 l:Option Nat
def qd8.rep:Rep where
 T:=qd8
 cells x:=[(.int .i64 x.quota),(.int .i64 x.reserved),(.int .i64 x.used),(.int .i64 x.clock),(.map x.l)]
 get l:=match l with
  | [.int .i64 v1,.int .i64 v2,.int .i64 v3,.int .i64 v4,.map v5]=>some ⟨v1,v2,v3,v4,v5⟩
  | _=>none
 ok l c h:=by
  split at h
  ·injection h with h;subst h;rfl
  ·cases h
structure qqw where
 l:Slc
def qqw.rep:Rep where
 T:=qqw
 cells x:=[(.slice x.l.a x.l.n x.l.c)]
 get l:=match l with
  | [.slice v1a v1n v1c]=>some ⟨⟨v1a,v1n,v1c⟩⟩
  | _=>none
 ok l c h:=by
  split at h
  ·injection h with h;subst h;rfl
  ·cases h
structure qar where
 number:Int
 m:qac
 stamp:Int
 born:Int
def qar.rep:Rep where
 T:=qar
 cells x:=[(.int .i64 x.number),(.int .i64 x.m.W),(.int .i64 x.m.H),(.slice x.m.P.a x.m.P.n x.m.P.c),(.int .i64 x.stamp),(.int .i64 x.born)]
 get l:=match l with
  | [.int .i64 v1,.int .i64 v2,.int .i64 v3,.slice v4a v4n v4c,.int .i64 v5,.int .i64 v6]=>some ⟨v1,⟨v2,v3,⟨v4a,v4n,v4c⟩⟩,v5,v6⟩
  | _=>none
 ok l c h:=by
  split at h
  ·injection h with h;subst h;rfl
  ·cases h
structure qqz where
 Decoder:Option Addr
 k:qaa
 most:Int
 need:Int
 pieces:Slc
 held:Int
 failed:Int
 over:Bool
def qqz.rep:Rep where
 T:=qqz
 cells x:=[(.pointer x.Decoder),(.int .u8 x.k.Action),(.int .u8 x.k.Medium),(.int .u8 x.k.Zip),(.int .u8 x.k.What),(.int .i64 x.k.Quiet),(.int .i64 x.k.Format),(.int .i64 x.k.W),(.int .i64 x.k.H),(.int .i64 x.k.Id),(.int .i64 x.k.Number),(.int .i64 x.k.Place),(.int .i64 x.k.More),(.int .i64 x.k.X),(.int .i64 x.k.Y),(.int .i64 x.k.PW),(.int .i64 x.k.PH),(.int .i64 x.k.DX),(.int .i64 x.k.DY),(.int .i64 x.k.Rows),(.int .i64 x.k.Cols),(.int .i64 x.k.Z),(.int .i64 x.k.Stay),(.int .i64 x.most),(.int .i64 x.need),(.slice x.pieces.a x.pieces.n x.pieces.c),(.int .i64 x.held),(.int .i64 x.failed),(.bool x.over)]
 get l:=match l with
  | [.pointer v1,.int .u8 v2,.int .u8 v3,.int .u8 v4,.int .u8 v5,.int .i64 v6,.int .i64 v7,.int .i64 v8,.int .i64 v9,.int .i64 v10,.int .i64 v11,.int .i64 v12,.int .i64 v13,.int .i64 v14,.int .i64 v15,.int .i64 v16,.int .i64 v17,.int .i64 v18,.int .i64 v19,.int .i64 v20,.int .i64 v21,.int .i64 v22,.int .i64 v23,.int .i64 v24,.int .i64 v25,.slice v26a v26n v26c,.int .i64 v27,.int .i64 v28,.bool v29]=>some ⟨v1,⟨v2,v3,v4,v5,v6,v7,v8,v9,v10,v11,v12,v13,v14,v15,v16,v17,v18,v19,v20,v21,v22,v23⟩,v24,v25,⟨v26a,v26n,v26c⟩,v27,v28,v29⟩
  | _=>none
 ok l c h:=by
  split at h
  ·injection h with h;subst h;rfl
  ·cases h
structure qbj where
 key:ByteArray
 n:Int
def qbj.rep:Rep where
 T:=qbj
 cells x:=[(.string x.key),(.int .i64 x.n)]
 get l:=match l with
  | [.string v1,.int .i64 v2]=>some ⟨v1,v2⟩
  | _=>none
 ok l c h:=by
  split at h
  ·injection h with h;subst h;rfl
  ·cases h
structure ql7 where
 v:Int
 n:Int
 fill:Int
 over:Bool
 bad:Bool
def ql7.rep:Rep where
 T:=ql7
 cells x:=[(.int .u32 x.v),(.int .i64 x.n),(.int .i64 x.fill),(.bool x.over),(.bool x.bad)]
 get l:=match l with
  | [.int .u32 v1,.int .i64 v2,.int .i64 v3,.bool v4,.bool v5]=>some ⟨v1,v2,v3,v4,v5⟩
  | _=>none
 ok l c h:=by
  split at h
  ·injection h with h;subst h;rfl
  ·cases h
structure qk5 where
 addr:Option Addr
 buf:Slc
def qk5.rep:Rep where
 T:=qk5
 cells x:=[(.pointer x.addr),(.slice x.buf.a x.buf.n x.buf.c)]
 get l:=match l with
  | [.pointer v1,.slice v2a v2n v2c]=>some ⟨v1,⟨v2a,v2n,v2c⟩⟩
  | _=>none
 ok l c h:=by
  split at h
  ·injection h with h;subst h;rfl
  ·cases h
structure qag where
 W:Int
 H:Int
 Depth:Int
 Color:Int
 Lace:Int
def qag.rep:Rep where
 T:=qag
 cells x:=[(.int .i64 x.W),(.int .i64 x.H),(.int .i64 x.Depth),(.int .i64 x.Color),(.int .i64 x.Lace)]
 get l:=match l with
  | [.int .i64 v1,.int .i64 v2,.int .i64 v3,.int .i64 v4,.int .i64 v5]=>some ⟨v1,v2,v3,v4,v5⟩
  | _=>none
 ok l c h:=by
  split at h
  ·injection h with h;subst h;rfl
  ·cases h
structure qjb where
 lo:Int
 hi:Int
def qjb.rep:Rep where
 T:=qjb
 cells x:=[(.int .u8 x.lo),(.int .u8 x.hi)]
 get l:=match l with
  | [.int .u8 v1,.int .u8 v2]=>some ⟨v1,v2⟩
  | _=>none
 ok l c h:=by
  split at h
  ·injection h with h;subst h;rfl
  ·cases h
structure qoy where
 Decoder:Option Addr
 head:Slc
 tail:Slc
 sum:Value
 over:Int
 failed:Int
def qoy.rep:Rep where
 T:=qoy
 cells x:=[(.pointer x.Decoder),(.slice x.head.a x.head.n x.head.c),(.slice x.tail.a x.tail.n x.tail.c),x.sum,(.int .i64 x.over),(.int .i64 x.failed)]
 get l:=match l with
  | [.pointer v1,.slice v2a v2n v2c,.slice v3a v3n v3c,v4,.int .i64 v5,.int .i64 v6]=>some ⟨v1,⟨v2a,v2n,v2c⟩,⟨v3a,v3n,v3c⟩,v4,v5,v6⟩
  | _=>none
 ok l c h:=by
  split at h
  ·injection h with h;subst h;rfl
  ·cases h
structure qam where
 Kind:ByteArray
 Data:Slc
def qam.rep:Rep where
 T:=qam
 cells x:=[(.string x.Kind),(.slice x.Data.a x.Data.n x.Data.c)]
 get l:=match l with
  | [.string v1,.slice v2a v2n v2c]=>some ⟨v1,⟨v2a,v2n,v2c⟩⟩
  | _=>none
 ok l c h:=by
  split at h
  ·injection h with h;subst h;rfl
  ·cases h
structure qdx where
 Head:qag
 palette:Slc
 trans:Slc
 hasPalette:Bool
 hasTr:Bool
 data:Slc
 hasData:Bool
 wasData:Bool
def qdx.rep:Rep where
 T:=qdx
 cells x:=[(.int .i64 x.Head.W),(.int .i64 x.Head.H),(.int .i64 x.Head.Depth),(.int .i64 x.Head.Color),(.int .i64 x.Head.Lace),(.slice x.palette.a x.palette.n x.palette.c),(.slice x.trans.a x.trans.n x.trans.c),(.bool x.hasPalette),(.bool x.hasTr),(.slice x.data.a x.data.n x.data.c),(.bool x.hasData),(.bool x.wasData)]
 get l:=match l with
  | [.int .i64 v1,.int .i64 v2,.int .i64 v3,.int .i64 v4,.int .i64 v5,.slice v6a v6n v6c,.slice v7a v7n v7c,.bool v8,.bool v9,.slice v10a v10n v10c,.bool v11,.bool v12]=>some ⟨⟨v1,v2,v3,v4,v5⟩,⟨v6a,v6n,v6c⟩,⟨v7a,v7n,v7c⟩,v8,v9,⟨v10a,v10n,v10c⟩,v11,v12⟩
  | _=>none
 ok l c h:=by
  split at h
  ·injection h with h;subst h;rfl
  ·cases h
structure qk2 where
 most:Int
 state:Int
 last:Bool
 wait:Slc
 skip:Int
 left:Int
 signs:Option Addr
 dists:Option Addr
 ring:Slc
 total:Int
 told:Int
 took:Int
 given:Int
 failed:Int
 out:Slc
def qk2.rep:Rep where
 T:=qk2
 cells x:=[(.int .i64 x.most),(.int .i64 x.state),(.bool x.last),(.slice x.wait.a x.wait.n x.wait.c),(.int .i64 x.skip),(.int .i64 x.left),(.pointer x.signs),(.pointer x.dists),(.slice x.ring.a x.ring.n x.ring.c),(.int .i64 x.total),(.int .i64 x.told),(.int .i64 x.took),(.int .i64 x.given),(.int .i64 x.failed),(.slice x.out.a x.out.n x.out.c)]
 get l:=match l with
  | [.int .i64 v1,.int .i64 v2,.bool v3,.slice v4a v4n v4c,.int .i64 v5,.int .i64 v6,.pointer v7,.pointer v8,.slice v9a v9n v9c,.int .i64 v10,.int .i64 v11,.int .i64 v12,.int .i64 v13,.int .i64 v14,.slice v15a v15n v15c]=>some ⟨v1,v2,v3,⟨v4a,v4n,v4c⟩,v5,v6,v7,v8,⟨v9a,v9n,v9c⟩,v10,v11,v12,v13,v14,⟨v15a,v15n,v15c⟩⟩
  | _=>none
 ok l c h:=by
  split at h
  ·injection h with h;subst h;rfl
  ·cases h
structure qtj where
 a:Int
 b:Int
def qtj.rep:Rep where
 T:=qtj
 cells x:=[(.int .u32 x.a),(.int .u32 x.b)]
 get l:=match l with
  | [.int .u32 v1,.int .u32 v2]=>some ⟨v1,v2⟩
  | _=>none
 ok l c h:=by
  split at h
  ·injection h with h;subst h;rfl
  ·cases h
structure qa2 where
 X:Int
 Y:Int
 DX:Int
 DY:Int
def qa2.rep:Rep where
 T:=qa2
 cells x:=[(.int .i64 x.X),(.int .i64 x.Y),(.int .i64 x.DX),(.int .i64 x.DY)]
 get l:=match l with
  | [.int .i64 v1,.int .i64 v2,.int .i64 v3,.int .i64 v4]=>some ⟨v1,v2,v3,v4⟩
  | _=>none
 ok l c h:=by
  split at h
  ·injection h with h;subst h;rfl
  ·cases h
structure qao where
 e0:Int
 e1:Int
 e2:Int
 e3:Int
def qao.rep:Rep where
 T:=qao
 cells x:=[(.int .u8 x.e0),(.int .u8 x.e1),(.int .u8 x.e2),(.int .u8 x.e3)]
 get l:=match l with
  | [.int .u8 v1,.int .u8 v2,.int .u8 v3,.int .u8 v4]=>some ⟨v1,v2,v3,v4⟩
  | _=>none
 ok l c h:=by
  split at h
  ·injection h with h;subst h;rfl
  ·cases h
structure qe4 where
 b:Slc
 at_:Int
def qe4.rep:Rep where
 T:=qe4
 cells x:=[(.slice x.b.a x.b.n x.b.c),(.int .i64 x.at_)]
 get l:=match l with
  | [.slice v1a v1n v1c,.int .i64 v2]=>some ⟨⟨v1a,v1n,v1c⟩,v2⟩
  | _=>none
 ok l c h:=by
  split at h
  ·injection h with h;subst h;rfl
  ·cases h
structure q21 where
 e0:Int
 e1:Int
 e2:Int
 e3:Int
 e4:Int
 e5:Int
 e6:Int
 e7:Int
 e8:Int
 e9:Int
 e10:Int
 e11:Int
 e12:Int
 e13:Int
 e14:Int
 e15:Int
 e16:Int
 e17:Int
 e18:Int
def q21.rep:Rep where
 T:=q21
 cells x:=[(.int .i64 x.e0),(.int .i64 x.e1),(.int .i64 x.e2),(.int .i64 x.e3),(.int .i64 x.e4),(.int .i64 x.e5),(.int .i64 x.e6),(.int .i64 x.e7),(.int .i64 x.e8),(.int .i64 x.e9),(.int .i64 x.e10),(.int .i64 x.e11),(.int .i64 x.e12),(.int .i64 x.e13),(.int .i64 x.e14),(.int .i64 x.e15),(.int .i64 x.e16),(.int .i64 x.e17),(.int .i64 x.e18)]
 get l:=match l with
  | [.int .i64 v1,.int .i64 v2,.int .i64 v3,.int .i64 v4,.int .i64 v5,.int .i64 v6,.int .i64 v7,.int .i64 v8,.int .i64 v9,.int .i64 v10,.int .i64 v11,.int .i64 v12,.int .i64 v13,.int .i64 v14,.int .i64 v15,.int .i64 v16,.int .i64 v17,.int .i64 v18,.int .i64 v19]=>some ⟨v1,v2,v3,v4,v5,v6,v7,v8,v9,v10,v11,v12,v13,v14,v15,v16,v17,v18,v19⟩
  | _=>none
 ok l c h:=by
  split at h
  ·injection h with h;subst h;rfl
  ·cases h
structure qyb where
 e0:Int
 e1:Int
 e2:Int
 e3:Int
 e4:Int
 e5:Int
 e6:Int
 e7:Int
 e8:Int
 e9:Int
 e10:Int
 e11:Int
 e12:Int
 e13:Int
 e14:Int
 e15:Int
def qyb.rep:Rep where
 T:=qyb
 cells x:=[(.int .i64 x.e0),(.int .i64 x.e1),(.int .i64 x.e2),(.int .i64 x.e3),(.int .i64 x.e4),(.int .i64 x.e5),(.int .i64 x.e6),(.int .i64 x.e7),(.int .i64 x.e8),(.int .i64 x.e9),(.int .i64 x.e10),(.int .i64 x.e11),(.int .i64 x.e12),(.int .i64 x.e13),(.int .i64 x.e14),(.int .i64 x.e15)]
 get l:=match l with
  | [.int .i64 v1,.int .i64 v2,.int .i64 v3,.int .i64 v4,.int .i64 v5,.int .i64 v6,.int .i64 v7,.int .i64 v8,.int .i64 v9,.int .i64 v10,.int .i64 v11,.int .i64 v12,.int .i64 v13,.int .i64 v14,.int .i64 v15,.int .i64 v16]=>some ⟨v1,v2,v3,v4,v5,v6,v7,v8,v9,v10,v11,v12,v13,v14,v15,v16⟩
  | _=>none
 ok l c h:=by
  split at h
  ·injection h with h;subst h;rfl
  ·cases h
structure qs4 where
 count:qyb
 sorted:Slc
 codes:Slc
 lengths:Slc
 last:Int
def qs4.rep:Rep where
 T:=qs4
 cells x:=[(.int .i64 x.count.e0),(.int .i64 x.count.e1),(.int .i64 x.count.e2),(.int .i64 x.count.e3),(.int .i64 x.count.e4),(.int .i64 x.count.e5),(.int .i64 x.count.e6),(.int .i64 x.count.e7),(.int .i64 x.count.e8),(.int .i64 x.count.e9),(.int .i64 x.count.e10),(.int .i64 x.count.e11),(.int .i64 x.count.e12),(.int .i64 x.count.e13),(.int .i64 x.count.e14),(.int .i64 x.count.e15),(.slice x.sorted.a x.sorted.n x.sorted.c),(.slice x.codes.a x.codes.n x.codes.c),(.slice x.lengths.a x.lengths.n x.lengths.c),(.int .i64 x.last)]
 get l:=match l with
  | [.int .i64 v1,.int .i64 v2,.int .i64 v3,.int .i64 v4,.int .i64 v5,.int .i64 v6,.int .i64 v7,.int .i64 v8,.int .i64 v9,.int .i64 v10,.int .i64 v11,.int .i64 v12,.int .i64 v13,.int .i64 v14,.int .i64 v15,.int .i64 v16,.slice v17a v17n v17c,.slice v18a v18n v18c,.slice v19a v19n v19c,.int .i64 v20]=>some ⟨⟨v1,v2,v3,v4,v5,v6,v7,v8,v9,v10,v11,v12,v13,v14,v15,v16⟩,⟨v17a,v17n,v17c⟩,⟨v18a,v18n,v18c⟩,⟨v19a,v19n,v19c⟩,v20⟩
  | _=>none
 ok l c h:=by
  split at h
  ·injection h with h;subst h;rfl
  ·cases h
structure qxi where
 v:Int
def qxi.rep:Rep where
 T:=qxi
 cells x:=[(.int .u32 x.v)]
 get l:=match l with
  | [.int .u32 v1]=>some ⟨v1⟩
  | _=>none
 ok l c h:=by
  split at h
  ·injection h with h;subst h;rfl
  ·cases h
structure qvj where
 e0:Int
 e1:Int
 e2:Int
 e3:Int
 e4:Int
 e5:Int
 e6:Int
 e7:Int
 e8:Int
 e9:Int
 e10:Int
 e11:Int
 e12:Int
 e13:Int
 e14:Int
 e15:Int
def qvj.rep:Rep where
 T:=qvj
 cells x:=[(.int .u32 x.e0),(.int .u32 x.e1),(.int .u32 x.e2),(.int .u32 x.e3),(.int .u32 x.e4),(.int .u32 x.e5),(.int .u32 x.e6),(.int .u32 x.e7),(.int .u32 x.e8),(.int .u32 x.e9),(.int .u32 x.e10),(.int .u32 x.e11),(.int .u32 x.e12),(.int .u32 x.e13),(.int .u32 x.e14),(.int .u32 x.e15)]
 get l:=match l with
  | [.int .u32 v1,.int .u32 v2,.int .u32 v3,.int .u32 v4,.int .u32 v5,.int .u32 v6,.int .u32 v7,.int .u32 v8,.int .u32 v9,.int .u32 v10,.int .u32 v11,.int .u32 v12,.int .u32 v13,.int .u32 v14,.int .u32 v15,.int .u32 v16]=>some ⟨v1,v2,v3,v4,v5,v6,v7,v8,v9,v10,v11,v12,v13,v14,v15,v16⟩
  | _=>none
 ok l c h:=by
  split at h
  ·injection h with h;subst h;rfl
  ·cases h
noncomputable abbrev PG:Program:=Tryz.prog
abbrev q1i:TypeId:=0
abbrev qa9:TypeId:=3
abbrev qan:TypeId:=5
abbrev qa1:TypeId:=9
abbrev q9d:TypeId:=20
abbrev qrc:TypeId:=28
abbrev qbf:TypeId:=30
abbrev qab:TypeId:=37
abbrev qaq:TypeId:=39
abbrev qai:TypeId:=43
abbrev qbn:TypeId:=45
abbrev qbg:TypeId:=49
abbrev qho:TypeId:=50
abbrev qat:TypeId:=61
abbrev qay:TypeId:=80
abbrev qby:TypeId:=82
abbrev qce:TypeId:=93
abbrev qav:TypeId:=98
abbrev qcf:TypeId:=100
abbrev qbu:TypeId:=102
abbrev qes:TypeId:=119
abbrev qg1:TypeId:=127
abbrev qj7:TypeId:=146
abbrev qcd:TypeId:=148
abbrev zdj:TypeId:=153
abbrev zif:TypeId:=156
abbrev qcj:TypeId:=168
abbrev zgr:TypeId:=189
abbrev qk1:TypeId:=191
abbrev qrd:TypeId:=242
abbrev qbo:TypeId:=246
abbrev qlp:TypeId:=248
abbrev qe1:TypeId:=266
abbrev qbr:TypeId:=271
abbrev qdv:TypeId:=277
abbrev qct:TypeId:=283
abbrev qbt:TypeId:=287
abbrev qa4:TypeId:=292
abbrev qbh:TypeId:=300
abbrev qb6:TypeId:=302
abbrev qpf:TypeId:=319
abbrev qz0:TypeId:=331
abbrev qf5:TypeId:=336
abbrev qjk:TypeId:=340
abbrev qbz:TypeId:=343
abbrev qcz:TypeId:=347
abbrev qg7:TypeId:=362
abbrev qm4:Nat:=50
abbrev qje:Nat:=72
abbrev qkj:Nat:=107
abbrev qmx:Nat:=116
abbrev qme:Nat:=119
abbrev qnr:Nat:=122
abbrev q13:Nat:=171
abbrev q25:Nat:=173
abbrev q0m:Nat:=218
abbrev qhj:Nat:=221
abbrev q4x:Nat:=235
abbrev q3g:Nat:=279
abbrev gl_0:Nat:=0
def reg (t:TypeId):Option Rep:=match t with
 | 28=>some qbw.rep
 | 63=>some qbw.rep
 | 30=>some qaf.rep
 | 43=>some qad.rep
 | 39=>some qac.rep
 | 41=>some q1a.rep
 | 80=>some qaa.rep
 | 82=>some qpc.rep
 | 55=>some qb8.rep
 | 127=>some qb8.rep
 | 58=>some qah.rep
 | 61=>some qah.rep
 | 102=>some qd8.rep
 | 93=>some qqw.rep
 | 100=>some qar.rep
 | 148=>some qqz.rep
 | 168=>some qbj.rep
 | 191=>some ql7.rep
 | 202=>some qk5.rep
 | 246=>some qag.rep
 | 260=>some qjb.rep
 | 271=>some qoy.rep
 | 283=>some qam.rep
 | 248=>some qdx.rep
 | 300=>some qk2.rep
 | 302=>some qtj.rep
 | 287=>some qa2.rep
 | 292=>some qao.rep
 | 319=>some qe4.rep
 | 331=>some q21.rep
 | 341=>some qyb.rep
 | 343=>some qs4.rep
 | 347=>some qxi.rep
 | 362=>some qvj.rep
 | _=>none
def q85:List Nat:=[2,3,4,5,6,7,8,9,10,11,12,13,14,15,16,17,18,19,20,21,22,23,24,25,26,27,28,29,30,31,32,33,34,35,36,37,38,39,40,41,42,43,44,45,46,47,48,49,50,51,52,53,54,55,56,57,58,59,60,61,62,63,64,65,66,67,68,69,70,71,72,73,74,75,76,77,78,79,80,81,82,83,84,85,86,87,88,89,90,91,92,93,94,95,96,97,98,99,100,101,102,103,104,105,106,107,108,109,110,112,113,114,115,116,117,118,119,120,121,122,123,124,126,127,128,129,130,131,132,133,134,135,136,137,138,139,140,141,142,143,144,145,146,147,148,149,150,151,152,153,154,155,156,157,159,160,161,163,164,165,166,167,168,169,170,171,172,173,174,175,176,177,178,179,180,181,182,183,185,186,188,189,190,191,192,193,194,195,196,197,198,199,202,203,204,205,206,207,208,209,210,211,212,213,214,215,216,217,218,219,220,221,222,223,224,225,226,227,228,229,230,231,232,233,234,235,236,237,238,239,240,241,242,243,244,245,246,247,248,249,250,251,252,253,254,255,256,257,258,259,260,261,262,263,264,265,266,267,268,269,270,271,272,273,274,275,276,277,278,279,280,281,300,302,303,304,305,306,315]
noncomputable def C:Cx:={ P:=Tryz.prog,reg:=reg,plain:=fun n=>q85.elem n }
theorem C.plain_ok (g:Nat) (h:C.plain g=true):qfl C.P g=true:=by
 have h':g∈q85:=by simpa [C] using h
 have:q85.all (fun g=>qfl Tryz.prog g)=true:=by kernel_rfl
 exact List.all_eq_true.1 this g h'
theorem C.mixed:C.P.follows .mixedOrders=true:=by kernel_rfl
theorem fnOf {f:FuncId} {fn:Func} {n:List Ann} {ks:List Kind} {a:List Value} {w:World} {Q:DenL ks->World->Prop} {sh:Prop} {X:Ending->World->Prop} (hf:C.P.funcs[f]?=some fn) (hb:fn.body=some (fn.body.getD .skip)) (h:sh)
  (e:vcFn C (fn.body.getD .skip) fn.results.toList fn.ntmps n ks a w Q=sh) (m:∀s w',Q s w'->X (.returned (tup (encL ks s))) w'):Calls C.P f a.toArray w X:=by
 rw [<-e] at h;refine Calls.mono (cvc C.plain_ok C.mixed hf hb h) ?_;rintro e w' ⟨s,rfl,hK⟩;exact m s w' hK
def qrn (head:Slc) (text:Slc) (cuts:Slc) (v:qaf) (w:World) (K:Bool->World->Prop):Prop :=Calls PG 5 #[(.slice head.a head.n head.c),(.slice text.a text.n text.c),(.slice cuts.a cuts.n cuts.c),(.agg #[(.bool v.View.Alt),(.int .i64 v.View.Top),(.int .i64 v.View.Rows),(.int .i64 v.View.Cols),(.int .i64 v.View.Row),(.int .i64 v.View.Col),(.int .i64 v.CellW),(.int .i64 v.CellH)])] w fun e w'=>∃r0:Bool,e=.returned (.bool r0)/\K r0 w'
def qvo  (w:World) (K:Bool->World->Prop):Prop :=Calls PG 7 #[] w fun e w'=>∃r0:Bool,e=.returned (.bool r0)/\K r0 w'
def qq0 (wx:Int) (hx:Int) (dx:Int) (dy:Int) (cw:Int) (ch:Int) (w:World) (K:Int->Int->World->Prop):Prop :=Calls PG 8 #[(.int .i64 wx),(.int .i64 hx),(.int .i64 dx),(.int .i64 dy),(.int .i64 cw),(.int .i64 ch)] w fun e w'=>∃r0:Int,∃r1:Int,e=.returned (.tuple #[(.int .i64 r0),(.int .i64 r1)])/\K r0 r1 w'
def qu7 (v:qaf) (w:World) (K:Bool->World->Prop):Prop :=Calls PG 11 #[(.agg #[(.bool v.View.Alt),(.int .i64 v.View.Top),(.int .i64 v.View.Rows),(.int .i64 v.View.Cols),(.int .i64 v.View.Row),(.int .i64 v.View.Col),(.int .i64 v.CellW),(.int .i64 v.CellH)])] w fun e w'=>∃r0:Bool,e=.returned (.bool r0)/\K r0 w'
def qlf (quota:Int) (w:World) (K:Option Addr->Int->World->Prop):Prop :=Calls PG 12 #[(.int .i64 quota)] w fun e w'=>∃r0:Option Addr,∃r1:Int,e=.returned (.tuple #[(.pointer r0),(.int .i64 r1)])/\K r0 r1 w'
def qba (e:Option Addr) (command:Slc) (v:qaf) (w:World) (K:qad->World->Prop):Prop :=Calls PG 13 #[(.pointer e),(.slice command.a command.n command.c),(.agg #[(.bool v.View.Alt),(.int .i64 v.View.Top),(.int .i64 v.View.Rows),(.int .i64 v.View.Cols),(.int .i64 v.View.Row),(.int .i64 v.View.Col),(.int .i64 v.CellW),(.int .i64 v.CellH)])] w fun e w'=>∃r0:qad,e=.returned (.agg #[(.slice r0.Reply.a r0.Reply.n r0.Reply.c),(.int .i64 r0.Rows),(.int .i64 r0.Cols),(.bool r0.Moves)])/\K r0 w'
def qdn (e:Option Addr) (w:World) (K:Option Addr->World->Prop):Prop :=Calls PG 14 #[(.pointer e)] w fun e w'=>∃r0:Option Addr,e=.returned (.pointer r0)/\K r0 w'
def qfa (t:Option Addr) (w:World) (K:Slc->World->Prop):Prop :=Calls PG 15 #[(.pointer t)] w fun e w'=>∃r0:Slc,e=.returned (.slice r0.a r0.n r0.c)/\K r0 w'
def qc4 (e:Option Addr) (w:World) (K:Option Addr->World->Prop):Prop :=Calls PG 16 #[(.pointer e)] w fun e w'=>∃r0:Option Addr,e=.returned (.pointer r0)/\K r0 w'
def qe9 (s:Option Addr) (w:World) (K:Slc->World->Prop):Prop :=Calls PG 17 #[(.pointer s)] w fun e w'=>∃r0:Slc,e=.returned (.slice r0.a r0.n r0.c)/\K r0 w'
def qd7 (s:Option Addr) (id:Int) (w:World) (K:qac->Bool->World->Prop):Prop :=Calls PG 22 #[(.pointer s),(.int .i64 id)] w fun e w'=>∃r0:qac,∃r1:Bool,e=.returned (.tuple #[(.agg #[(.int .i64 r0.W),(.int .i64 r0.H),(.slice r0.P.a r0.P.n r0.P.c)]),(.bool r1)])/\K r0 r1 w'
def qk3 (t:Option Addr) (image:Int) (w:World) (K:Bool->World->Prop):Prop :=Calls PG 23 #[(.pointer t),(.int .i64 image)] w fun e w'=>∃r0:Bool,e=.returned (.bool r0)/\K r0 w'
def qip (e:Option Addr) (w:World) (K:Int->World->Prop):Prop :=Calls PG 27 #[(.pointer e)] w fun e w'=>∃r0:Int,e=.returned (.int .i64 r0)/\K r0 w'
def qco (v:Int) (lo:Int) (hi:Int) (w:World) (K:Bool->World->Prop):Prop :=Calls PG 28 #[(.int .i64 v),(.int .i64 lo),(.int .i64 hi)] w fun e w'=>∃r0:Bool,e=.returned (.bool r0)/\K r0 w'
def qlw (n:Int) (more:Int) (size:Int) (w:World) (K:Int->World->Prop):Prop :=Calls PG 29 #[(.int .i64 n),(.int .i64 more),(.int .i64 size)] w fun e w'=>∃r0:Int,e=.returned (.int .i64 r0)/\K r0 w'
def qus (quota:Int) (w:World) (K:Option Addr->Int->World->Prop):Prop :=Calls PG 30 #[(.int .i64 quota)] w fun e w'=>∃r0:Option Addr,∃r1:Int,e=.returned (.tuple #[(.pointer r0),(.int .i64 r1)])/\K r0 r1 w'
def q2g  (w:World) (K:Option Addr->World->Prop):Prop :=Calls PG 31 #[] w fun e w'=>∃r0:Option Addr,e=.returned (.pointer r0)/\K r0 w'
def qta (b:Slc) (w:World) (K:Slc->Slc->World->Prop):Prop :=Calls PG 32 #[(.slice b.a b.n b.c)] w fun e w'=>∃r0:Slc,∃r1:Slc,e=.returned (.tuple #[(.slice r0.a r0.n r0.c),(.slice r1.a r1.n r1.c)])/\K r0 r1 w'
def qtl (b:Slc) (w:World) (K:qaa->Int->World->Prop):Prop :=Calls PG 33 #[(.slice b.a b.n b.c)] w fun e w'=>∃r0:qaa,∃r1:Int,e=.returned (.tuple #[(.agg #[(.int .u8 r0.Action),(.int .u8 r0.Medium),(.int .u8 r0.Zip),(.int .u8 r0.What),(.int .i64 r0.Quiet),(.int .i64 r0.Format),(.int .i64 r0.W),(.int .i64 r0.H),(.int .i64 r0.Id),(.int .i64 r0.Number),(.int .i64 r0.Place),(.int .i64 r0.More),(.int .i64 r0.X),(.int .i64 r0.Y),(.int .i64 r0.PW),(.int .i64 r0.PH),(.int .i64 r0.DX),(.int .i64 r0.DY),(.int .i64 r0.Rows),(.int .i64 r0.Cols),(.int .i64 r0.Z),(.int .i64 r0.Stay)]),(.int .i64 r1)])/\K r0 r1 w'
def qf0 (e:Option Addr) (k:qaa) (text:Slc) (v:qaf) (w:World) (K:qad->World->Prop):Prop :=Calls PG 34 #[(.pointer e),(.agg #[(.int .u8 k.Action),(.int .u8 k.Medium),(.int .u8 k.Zip),(.int .u8 k.What),(.int .i64 k.Quiet),(.int .i64 k.Format),(.int .i64 k.W),(.int .i64 k.H),(.int .i64 k.Id),(.int .i64 k.Number),(.int .i64 k.Place),(.int .i64 k.More),(.int .i64 k.X),(.int .i64 k.Y),(.int .i64 k.PW),(.int .i64 k.PH),(.int .i64 k.DX),(.int .i64 k.DY),(.int .i64 k.Rows),(.int .i64 k.Cols),(.int .i64 k.Z),(.int .i64 k.Stay)]),(.slice text.a text.n text.c),(.agg #[(.bool v.View.Alt),(.int .i64 v.View.Top),(.int .i64 v.View.Rows),(.int .i64 v.View.Cols),(.int .i64 v.View.Row),(.int .i64 v.View.Col),(.int .i64 v.CellW),(.int .i64 v.CellH)])] w fun e w'=>∃r0:qad,e=.returned (.agg #[(.slice r0.Reply.a r0.Reply.n r0.Reply.c),(.int .i64 r0.Rows),(.int .i64 r0.Cols),(.bool r0.Moves)])/\K r0 w'
def qed (e:Option Addr) (w:World) (K:World->Prop):Prop :=Calls PG 35 #[(.pointer e)] w fun e w'=>e=.returned (.tuple #[])/\K w'
def qhi (e:Option Addr) (k:qaa) (text:Slc) (v:qaf) (w:World) (K:qad->World->Prop):Prop :=Calls PG 36 #[(.pointer e),(.agg #[(.int .u8 k.Action),(.int .u8 k.Medium),(.int .u8 k.Zip),(.int .u8 k.What),(.int .i64 k.Quiet),(.int .i64 k.Format),(.int .i64 k.W),(.int .i64 k.H),(.int .i64 k.Id),(.int .i64 k.Number),(.int .i64 k.Place),(.int .i64 k.More),(.int .i64 k.X),(.int .i64 k.Y),(.int .i64 k.PW),(.int .i64 k.PH),(.int .i64 k.DX),(.int .i64 k.DY),(.int .i64 k.Rows),(.int .i64 k.Cols),(.int .i64 k.Z),(.int .i64 k.Stay)]),(.slice text.a text.n text.c),(.agg #[(.bool v.View.Alt),(.int .i64 v.View.Top),(.int .i64 v.View.Rows),(.int .i64 v.View.Cols),(.int .i64 v.View.Row),(.int .i64 v.View.Col),(.int .i64 v.CellW),(.int .i64 v.CellH)])] w fun e w'=>∃r0:qad,e=.returned (.agg #[(.slice r0.Reply.a r0.Reply.n r0.Reply.c),(.int .i64 r0.Rows),(.int .i64 r0.Cols),(.bool r0.Moves)])/\K r0 w'
def qiu (e:Option Addr) (k:qaa) (v:qaf) (w:World) (K:qad->World->Prop):Prop :=Calls PG 37 #[(.pointer e),(.agg #[(.int .u8 k.Action),(.int .u8 k.Medium),(.int .u8 k.Zip),(.int .u8 k.What),(.int .i64 k.Quiet),(.int .i64 k.Format),(.int .i64 k.W),(.int .i64 k.H),(.int .i64 k.Id),(.int .i64 k.Number),(.int .i64 k.Place),(.int .i64 k.More),(.int .i64 k.X),(.int .i64 k.Y),(.int .i64 k.PW),(.int .i64 k.PH),(.int .i64 k.DX),(.int .i64 k.DY),(.int .i64 k.Rows),(.int .i64 k.Cols),(.int .i64 k.Z),(.int .i64 k.Stay)]),(.agg #[(.bool v.View.Alt),(.int .i64 v.View.Top),(.int .i64 v.View.Rows),(.int .i64 v.View.Cols),(.int .i64 v.View.Row),(.int .i64 v.View.Col),(.int .i64 v.CellW),(.int .i64 v.CellH)])] w fun e w'=>∃r0:qad,e=.returned (.agg #[(.slice r0.Reply.a r0.Reply.n r0.Reply.c),(.int .i64 r0.Rows),(.int .i64 r0.Cols),(.bool r0.Moves)])/\K r0 w'
def qgz (e:Option Addr) (k:qaa) (v:qaf) (w:World) (K:World->Prop):Prop :=Calls PG 38 #[(.pointer e),(.agg #[(.int .u8 k.Action),(.int .u8 k.Medium),(.int .u8 k.Zip),(.int .u8 k.What),(.int .i64 k.Quiet),(.int .i64 k.Format),(.int .i64 k.W),(.int .i64 k.H),(.int .i64 k.Id),(.int .i64 k.Number),(.int .i64 k.Place),(.int .i64 k.More),(.int .i64 k.X),(.int .i64 k.Y),(.int .i64 k.PW),(.int .i64 k.PH),(.int .i64 k.DX),(.int .i64 k.DY),(.int .i64 k.Rows),(.int .i64 k.Cols),(.int .i64 k.Z),(.int .i64 k.Stay)]),(.agg #[(.bool v.View.Alt),(.int .i64 v.View.Top),(.int .i64 v.View.Rows),(.int .i64 v.View.Cols),(.int .i64 v.View.Row),(.int .i64 v.View.Col),(.int .i64 v.CellW),(.int .i64 v.CellH)])] w fun e w'=>e=.returned (.tuple #[])/\K w'
def qbq (e:Option Addr) (k:qaa) (x:Int) (word:ByteArray) (w:World) (K:qad->World->Prop):Prop :=Calls PG 39 #[(.pointer e),(.agg #[(.int .u8 k.Action),(.int .u8 k.Medium),(.int .u8 k.Zip),(.int .u8 k.What),(.int .i64 k.Quiet),(.int .i64 k.Format),(.int .i64 k.W),(.int .i64 k.H),(.int .i64 k.Id),(.int .i64 k.Number),(.int .i64 k.Place),(.int .i64 k.More),(.int .i64 k.X),(.int .i64 k.Y),(.int .i64 k.PW),(.int .i64 k.PH),(.int .i64 k.DX),(.int .i64 k.DY),(.int .i64 k.Rows),(.int .i64 k.Cols),(.int .i64 k.Z),(.int .i64 k.Stay)]),(.int .i64 x),(.string word)] w fun e w'=>∃r0:qad,e=.returned (.agg #[(.slice r0.Reply.a r0.Reply.n r0.Reply.c),(.int .i64 r0.Rows),(.int .i64 r0.Cols),(.bool r0.Moves)])/\K r0 w'
def qqo (t:Option Addr) (w:World) (K:Option Addr->World->Prop):Prop :=Calls PG 40 #[(.pointer t)] w fun e w'=>∃r0:Option Addr,e=.returned (.pointer r0)/\K r0 w'
def qb2 (s:Slc) (w:World) (K:Slc->World->Prop):Prop :=Calls PG 41 #[(.slice s.a s.n s.c)] w fun e w'=>∃r0:Slc,e=.returned (.slice r0.a r0.n r0.c)/\K r0 w'
def qi7 (s:Option Addr) (w:World) (K:Option Addr->World->Prop):Prop :=Calls PG 42 #[(.pointer s)] w fun e w'=>∃r0:Option Addr,e=.returned (.pointer r0)/\K r0 w'
def qox (seq:Value) (w:World) (K:Slc->World->Prop):Prop :=Calls PG 43 #[seq] w fun e w'=>∃r0:Slc,e=.returned (.slice r0.a r0.n r0.c)/\K r0 w'
def qb3 (m:Option Nat) (w:World) (K:Value->World->Prop):Prop :=Calls PG 44 #[(.map m)] w fun e w'=>∃r0:Value,e=.returned r0/\K r0 w'
def qd6 (s:Option Addr) (id:Int) (w:World) (K:qac->Bool->World->Prop):Prop :=Calls PG 47 #[(.pointer s),(.int .i64 id)] w fun e w'=>∃r0:qac,∃r1:Bool,e=.returned (.tuple #[(.agg #[(.int .i64 r0.W),(.int .i64 r0.H),(.slice r0.P.a r0.P.n r0.P.c)]),(.bool r1)])/\K r0 r1 w'
def qaz (s:Slc) (w:World) (K:Slc->World->Prop):Prop :=Calls PG 48 #[(.slice s.a s.n s.c)] w fun e w'=>∃r0:Slc,e=.returned (.slice r0.a r0.n r0.c)/\K r0 w'
def qc9 (s:Slc) (f:Value) (w:World) (K:Bool->World->Prop):Prop :=Calls PG 49 #[(.slice s.a s.n s.c),f] w fun e w'=>∃r0:Bool,e=.returned (.bool r0)/\K r0 w'
def qon (p:qah) (c0:Addr) (w:World) (K:Bool->World->Prop):Prop :=Calls PG 50 #[(.agg #[(.int .i64 p.Image),(.int .i64 p.Id),(.bool p.Alt),(.int .i64 p.Line),(.int .i64 p.Col),(.int .i64 p.Rows),(.int .i64 p.Cols),(.int .i64 p.X),(.int .i64 p.Y),(.int .i64 p.W),(.int .i64 p.H),(.int .i64 p.DX),(.int .i64 p.DY),(.int .i64 p.Z)]),(.pointer (some c0))] w fun e w'=>∃r0:Bool,e=.returned (.bool r0)/\K r0 w'
def qk9 (s:Option Addr) (id:Int) (number:Int) (m:qac) (w:World) (K:Int->Slc->Int->World->Prop):Prop :=Calls PG 51 #[(.pointer s),(.int .i64 id),(.int .i64 number),(.agg #[(.int .i64 m.W),(.int .i64 m.H),(.slice m.P.a m.P.n m.P.c)])] w fun e w'=>∃r0:Int,∃r1:Slc,∃r2:Int,e=.returned (.tuple #[(.int .i64 r0),(.slice r1.a r1.n r1.c),(.int .i64 r2)])/\K r0 r1 r2 w'
def qf1 (e:Option Addr) (ids:Slc) (w:World) (K:World->Prop):Prop :=Calls PG 52 #[(.pointer e),(.slice ids.a ids.n ids.c)] w fun e w'=>e=.returned (.tuple #[])/\K w'
def qfb (e:Option Addr) (k:qaa) (id:Int) (v:qaf) (w:World) (K:qad->Bool->World->Prop):Prop :=Calls PG 53 #[(.pointer e),(.agg #[(.int .u8 k.Action),(.int .u8 k.Medium),(.int .u8 k.Zip),(.int .u8 k.What),(.int .i64 k.Quiet),(.int .i64 k.Format),(.int .i64 k.W),(.int .i64 k.H),(.int .i64 k.Id),(.int .i64 k.Number),(.int .i64 k.Place),(.int .i64 k.More),(.int .i64 k.X),(.int .i64 k.Y),(.int .i64 k.PW),(.int .i64 k.PH),(.int .i64 k.DX),(.int .i64 k.DY),(.int .i64 k.Rows),(.int .i64 k.Cols),(.int .i64 k.Z),(.int .i64 k.Stay)]),(.int .i64 id),(.agg #[(.bool v.View.Alt),(.int .i64 v.View.Top),(.int .i64 v.View.Rows),(.int .i64 v.View.Cols),(.int .i64 v.View.Row),(.int .i64 v.View.Col),(.int .i64 v.CellW),(.int .i64 v.CellH)])] w fun e w'=>∃r0:qad,∃r1:Bool,e=.returned (.tuple #[(.agg #[(.slice r0.Reply.a r0.Reply.n r0.Reply.c),(.int .i64 r0.Rows),(.int .i64 r0.Cols),(.bool r0.Moves)]),(.bool r1)])/\K r0 r1 w'
def qsp  (w:World) (K:qaa->World->Prop):Prop :=Calls PG 54 #[] w fun e w'=>∃r0:qaa,e=.returned (.agg #[(.int .u8 r0.Action),(.int .u8 r0.Medium),(.int .u8 r0.Zip),(.int .u8 r0.What),(.int .i64 r0.Quiet),(.int .i64 r0.Format),(.int .i64 r0.W),(.int .i64 r0.H),(.int .i64 r0.Id),(.int .i64 r0.Number),(.int .i64 r0.Place),(.int .i64 r0.More),(.int .i64 r0.X),(.int .i64 r0.Y),(.int .i64 r0.PW),(.int .i64 r0.PH),(.int .i64 r0.DX),(.int .i64 r0.DY),(.int .i64 r0.Rows),(.int .i64 r0.Cols),(.int .i64 r0.Z),(.int .i64 r0.Stay)])/\K r0 w'
def qgn (e:Option Addr) (n:Int) (w:World) (K:Int->World->Prop):Prop :=Calls PG 55 #[(.pointer e),(.int .i64 n)] w fun e w'=>∃r0:Int,e=.returned (.int .i64 r0)/\K r0 w'
def qjp (l:Option Addr) (w:World) (K:Int->World->Prop):Prop :=Calls PG 58 #[(.pointer l)] w fun e w'=>∃r0:Int,e=.returned (.int .i64 r0)/\K r0 w'
def qu4 (s:Slc) (sep:Slc) (w:World) (K:Slc->Slc->Bool->World->Prop):Prop :=Calls PG 59 #[(.slice s.a s.n s.c),(.slice sep.a sep.n sep.c)] w fun e w'=>∃r0:Slc,∃r1:Slc,∃r2:Bool,e=.returned (.tuple #[(.slice r0.a r0.n r0.c),(.slice r1.a r1.n r1.c),(.bool r2)])/\K r0 r1 r2 w'
def qh4 (b:Slc) (w:World) (K:Slc->World->Prop):Prop :=Calls PG 60 #[(.slice b.a b.n b.c)] w fun e w'=>∃r0:Slc,e=.returned (.slice r0.a r0.n r0.c)/\K r0 w'
def qny (s:ByteArray) (sep:ByteArray) (w:World) (K:Slc->World->Prop):Prop :=Calls PG 61 #[(.string s),(.string sep)] w fun e w'=>∃r0:Slc,e=.returned (.slice r0.a r0.n r0.c)/\K r0 w'
def qna (k:Option Addr) (s:ByteArray) (w:World) (K:Bool->World->Prop):Prop :=Calls PG 62 #[(.pointer k),(.string s)] w fun e w'=>∃r0:Bool,e=.returned (.bool r0)/\K r0 w'
def qk8 (l:Option Addr) (text:Slc) (w:World) (K:Int->World->Prop):Prop :=Calls PG 63 #[(.pointer l),(.slice text.a text.n text.c)] w fun e w'=>∃r0:Int,e=.returned (.int .i64 r0)/\K r0 w'
def qi6 (e:Option Addr) (k:qaa) (v:qaf) (w:World) (K:qad->World->Prop):Prop :=Calls PG 64 #[(.pointer e),(.agg #[(.int .u8 k.Action),(.int .u8 k.Medium),(.int .u8 k.Zip),(.int .u8 k.What),(.int .i64 k.Quiet),(.int .i64 k.Format),(.int .i64 k.W),(.int .i64 k.H),(.int .i64 k.Id),(.int .i64 k.Number),(.int .i64 k.Place),(.int .i64 k.More),(.int .i64 k.X),(.int .i64 k.Y),(.int .i64 k.PW),(.int .i64 k.PH),(.int .i64 k.DX),(.int .i64 k.DY),(.int .i64 k.Rows),(.int .i64 k.Cols),(.int .i64 k.Z),(.int .i64 k.Stay)]),(.agg #[(.bool v.View.Alt),(.int .i64 v.View.Top),(.int .i64 v.View.Rows),(.int .i64 v.View.Cols),(.int .i64 v.View.Row),(.int .i64 v.View.Col),(.int .i64 v.CellW),(.int .i64 v.CellH)])] w fun e w'=>∃r0:qad,e=.returned (.agg #[(.slice r0.Reply.a r0.Reply.n r0.Reply.c),(.int .i64 r0.Rows),(.int .i64 r0.Cols),(.bool r0.Moves)])/\K r0 w'
def qe2 (s:Option Addr) (w:World) (K:World->Prop):Prop :=Calls PG 65 #[(.pointer s)] w fun e w'=>e=.returned (.tuple #[])/\K w'
def qxs (k:qaa) (room:Int) (w:World) (K:Option Addr->Int->World->Prop):Prop :=Calls PG 66 #[(.agg #[(.int .u8 k.Action),(.int .u8 k.Medium),(.int .u8 k.Zip),(.int .u8 k.What),(.int .i64 k.Quiet),(.int .i64 k.Format),(.int .i64 k.W),(.int .i64 k.H),(.int .i64 k.Id),(.int .i64 k.Number),(.int .i64 k.Place),(.int .i64 k.More),(.int .i64 k.X),(.int .i64 k.Y),(.int .i64 k.PW),(.int .i64 k.PH),(.int .i64 k.DX),(.int .i64 k.DY),(.int .i64 k.Rows),(.int .i64 k.Cols),(.int .i64 k.Z),(.int .i64 k.Stay)]),(.int .i64 room)] w fun e w'=>∃r0:Option Addr,∃r1:Int,e=.returned (.tuple #[(.pointer r0),(.int .i64 r1)])/\K r0 r1 w'
def qhw (e:Option Addr) (k:qaa) (w:World) (K:Int->Bool->World->Prop):Prop :=Calls PG 67 #[(.pointer e),(.agg #[(.int .u8 k.Action),(.int .u8 k.Medium),(.int .u8 k.Zip),(.int .u8 k.What),(.int .i64 k.Quiet),(.int .i64 k.Format),(.int .i64 k.W),(.int .i64 k.H),(.int .i64 k.Id),(.int .i64 k.Number),(.int .i64 k.Place),(.int .i64 k.More),(.int .i64 k.X),(.int .i64 k.Y),(.int .i64 k.PW),(.int .i64 k.PH),(.int .i64 k.DX),(.int .i64 k.DY),(.int .i64 k.Rows),(.int .i64 k.Cols),(.int .i64 k.Z),(.int .i64 k.Stay)])] w fun e w'=>∃r0:Int,∃r1:Bool,e=.returned (.tuple #[(.int .i64 r0),(.bool r1)])/\K r0 r1 w'
def qle (s:Option Addr) (id:Int) (w:World) (K:Bool->World->Prop):Prop :=Calls PG 68 #[(.pointer s),(.int .i64 id)] w fun e w'=>∃r0:Bool,e=.returned (.bool r0)/\K r0 w'
def qdy (s:Option Addr) (n:Int) (w:World) (K:Int->Bool->World->Prop):Prop :=Calls PG 69 #[(.pointer s),(.int .i64 n)] w fun e w'=>∃r0:Int,∃r1:Bool,e=.returned (.tuple #[(.int .i64 r0),(.bool r1)])/\K r0 r1 w'
def qh1 (t:Option Addr) (a:qb8) (v:qbw) (w:World) (K:Slc->World->Prop):Prop :=Calls PG 70 #[(.pointer t),(.agg #[(.int .u8 a.What),(.int .i64 a.Image),(.int .i64 a.Place),(.int .i64 a.X),(.int .i64 a.Y),(.int .i64 a.Z)]),(.agg #[(.bool v.Alt),(.int .i64 v.Top),(.int .i64 v.Rows),(.int .i64 v.Cols),(.int .i64 v.Row),(.int .i64 v.Col)])] w fun e w'=>∃r0:Slc,e=.returned (.slice r0.a r0.n r0.c)/\K r0 w'
def qhr (e:Option Addr) (ids:Slc) (goes:Value) (w:World) (K:World->Prop):Prop :=Calls PG 71 #[(.pointer e),(.slice ids.a ids.n ids.c),goes] w fun e w'=>e=.returned (.tuple #[])/\K w'
def qko (p0:Int) (w:World) (K:Bool->World->Prop):Prop :=Calls PG 72 #[(.int .i64 p0)] w fun e w'=>∃r0:Bool,e=.returned (.bool r0)/\K r0 w'
def q2h (e:Int) (w:World) (K:ByteArray->World->Prop):Prop :=Calls PG 73 #[(.int .i64 e)] w fun e w'=>∃r0:ByteArray,e=.returned (.string r0)/\K r0 w'
def qsr (k:qaa) (word:ByteArray) (w:World) (K:Slc->World->Prop):Prop :=Calls PG 74 #[(.agg #[(.int .u8 k.Action),(.int .u8 k.Medium),(.int .u8 k.Zip),(.int .u8 k.What),(.int .i64 k.Quiet),(.int .i64 k.Format),(.int .i64 k.W),(.int .i64 k.H),(.int .i64 k.Id),(.int .i64 k.Number),(.int .i64 k.Place),(.int .i64 k.More),(.int .i64 k.X),(.int .i64 k.Y),(.int .i64 k.PW),(.int .i64 k.PH),(.int .i64 k.DX),(.int .i64 k.DY),(.int .i64 k.Rows),(.int .i64 k.Cols),(.int .i64 k.Z),(.int .i64 k.Stay)]),(.string word)] w fun e w'=>∃r0:Slc,e=.returned (.slice r0.a r0.n r0.c)/\K r0 w'
def qb1 (m:Option Nat) (w:World) (K:Option Nat->World->Prop):Prop :=Calls PG 75 #[(.map m)] w fun e w'=>∃r0:Option Nat,e=.returned (.map r0)/\K r0 w'
def qnj (seq:Value) (w:World) (K:Slc->World->Prop):Prop :=Calls PG 76 #[seq] w fun e w'=>∃r0:Slc,e=.returned (.slice r0.a r0.n r0.c)/\K r0 w'
def qdq (s:Slc) (f:Value) (w:World) (K:Int->World->Prop):Prop :=Calls PG 79 #[(.slice s.a s.n s.c),f] w fun e w'=>∃r0:Int,e=.returned (.int .i64 r0)/\K r0 w'
def qq6 (m:qac) (w:World) (K:Bool->World->Prop):Prop :=Calls PG 80 #[(.agg #[(.int .i64 m.W),(.int .i64 m.H),(.slice m.P.a m.P.n m.P.c)])] w fun e w'=>∃r0:Bool,e=.returned (.bool r0)/\K r0 w'
def qh0 (n:Int) (w:World) (K:Bool->World->Prop):Prop :=Calls PG 81 #[(.int .i64 n)] w fun e w'=>∃r0:Bool,e=.returned (.bool r0)/\K r0 w'
def qev (s:Option Addr) (id:Int) (w:World) (K:Bool->World->Prop):Prop :=Calls PG 82 #[(.pointer s),(.int .i64 id)] w fun e w'=>∃r0:Bool,e=.returned (.bool r0)/\K r0 w'
def qga (s:Option Addr) (n:Int) (w:World) (K:Slc->World->Prop):Prop :=Calls PG 83 #[(.pointer s),(.int .i64 n)] w fun e w'=>∃r0:Slc,e=.returned (.slice r0.a r0.n r0.c)/\K r0 w'
def ql9 (s:Option Addr) (id:Int) (w:World) (K:Bool->World->Prop):Prop :=Calls PG 84 #[(.pointer s),(.int .i64 id)] w fun e w'=>∃r0:Bool,e=.returned (.bool r0)/\K r0 w'
def qeb (s:Slc) (w:World) (K:Slc->World->Prop):Prop :=Calls PG 85 #[(.slice s.a s.n s.c)] w fun e w'=>∃r0:Slc,e=.returned (.slice r0.a r0.n r0.c)/\K r0 w'
def qj4 (t:Option Addr) (image:Int) (w:World) (K:Int->World->Prop):Prop :=Calls PG 86 #[(.pointer t),(.int .i64 image)] w fun e w'=>∃r0:Int,e=.returned (.int .i64 r0)/\K r0 w'
def qhf (e:Option Addr) (k:qaa) (id:Int) (v:qaf) (w:World) (K:qah->Int->World->Prop):Prop :=Calls PG 87 #[(.pointer e),(.agg #[(.int .u8 k.Action),(.int .u8 k.Medium),(.int .u8 k.Zip),(.int .u8 k.What),(.int .i64 k.Quiet),(.int .i64 k.Format),(.int .i64 k.W),(.int .i64 k.H),(.int .i64 k.Id),(.int .i64 k.Number),(.int .i64 k.Place),(.int .i64 k.More),(.int .i64 k.X),(.int .i64 k.Y),(.int .i64 k.PW),(.int .i64 k.PH),(.int .i64 k.DX),(.int .i64 k.DY),(.int .i64 k.Rows),(.int .i64 k.Cols),(.int .i64 k.Z),(.int .i64 k.Stay)]),(.int .i64 id),(.agg #[(.bool v.View.Alt),(.int .i64 v.View.Top),(.int .i64 v.View.Rows),(.int .i64 v.View.Cols),(.int .i64 v.View.Row),(.int .i64 v.View.Col),(.int .i64 v.CellW),(.int .i64 v.CellH)])] w fun e w'=>∃r0:qah,∃r1:Int,e=.returned (.tuple #[(.agg #[(.int .i64 r0.Image),(.int .i64 r0.Id),(.bool r0.Alt),(.int .i64 r0.Line),(.int .i64 r0.Col),(.int .i64 r0.Rows),(.int .i64 r0.Cols),(.int .i64 r0.X),(.int .i64 r0.Y),(.int .i64 r0.W),(.int .i64 r0.H),(.int .i64 r0.DX),(.int .i64 r0.DY),(.int .i64 r0.Z)]),(.int .i64 r1)])/\K r0 r1 w'
def qlb (t:Option Addr) (p:qah) (w:World) (K:Int->World->Prop):Prop :=Calls PG 88 #[(.pointer t),(.agg #[(.int .i64 p.Image),(.int .i64 p.Id),(.bool p.Alt),(.int .i64 p.Line),(.int .i64 p.Col),(.int .i64 p.Rows),(.int .i64 p.Cols),(.int .i64 p.X),(.int .i64 p.Y),(.int .i64 p.W),(.int .i64 p.H),(.int .i64 p.DX),(.int .i64 p.DY),(.int .i64 p.Z)])] w fun e w'=>∃r0:Int,e=.returned (.int .i64 r0)/\K r0 w'
def qhb (s:Option Addr) (n:Int) (w:World) (K:Slc->Int->World->Prop):Prop :=Calls PG 89 #[(.pointer s),(.int .i64 n)] w fun e w'=>∃r0:Slc,∃r1:Int,e=.returned (.tuple #[(.slice r0.a r0.n r0.c),(.int .i64 r1)])/\K r0 r1 w'
def qew (t:Option Addr) (goes:Value) (w:World) (K:Slc->World->Prop):Prop :=Calls PG 91 #[(.pointer t),goes] w fun e w'=>∃r0:Slc,e=.returned (.slice r0.a r0.n r0.c)/\K r0 w'
def qq2 (s:Slc) (sep:Slc) (w:World) (K:Int->World->Prop):Prop :=Calls PG 93 #[(.slice s.a s.n s.c),(.slice sep.a sep.n sep.c)] w fun e w'=>∃r0:Int,e=.returned (.int .i64 r0)/\K r0 w'
def qp3 (s:ByteArray) (sep:ByteArray) (sepSave:Int) (n:Int) (w:World) (K:Slc->World->Prop):Prop :=Calls PG 94 #[(.string s),(.string sep),(.int .i64 sepSave),(.int .i64 n)] w fun e w'=>∃r0:Slc,e=.returned (.slice r0.a r0.n r0.c)/\K r0 w'
def qs7 (s:ByteArray) (w:World) (K:Int->Bool->World->Prop):Prop :=Calls PG 95 #[(.string s)] w fun e w'=>∃r0:Int,∃r1:Bool,e=.returned (.tuple #[(.int .i64 r0),(.bool r1)])/\K r0 r1 w'
def qhs (k:Option Addr) (c:Int) (w:World) (K:Option Addr->World->Prop):Prop :=Calls PG 96 #[(.pointer k),(.int .u8 c)] w fun e w'=>∃r0:Option Addr,e=.returned (.pointer r0)/\K r0 w'
def qpb (c:Int) (w:World) (K:Bool->World->Prop):Prop :=Calls PG 97 #[(.int .u8 c)] w fun e w'=>∃r0:Bool,e=.returned (.bool r0)/\K r0 w'
def qgg (k:Option Addr) (c:Int) (w:World) (K:Option Addr->World->Prop):Prop :=Calls PG 98 #[(.pointer k),(.int .u8 c)] w fun e w'=>∃r0:Option Addr,e=.returned (.pointer r0)/\K r0 w'
def qpn (s:ByteArray) (w:World) (K:Int->Bool->World->Prop):Prop :=Calls PG 99 #[(.string s)] w fun e w'=>∃r0:Int,∃r1:Bool,e=.returned (.tuple #[(.int .i64 r0),(.bool r1)])/\K r0 r1 w'
def qhg (d:Option Addr) (c:Int) (w:World) (K:Slc->Int->World->Prop):Prop :=Calls PG 100 #[(.pointer d),(.int .u8 c)] w fun e w'=>∃r0:Slc,∃r1:Int,e=.returned (.tuple #[(.slice r0.a r0.n r0.c),(.int .i64 r1)])/\K r0 r1 w'
def qer (l:Option Addr) (b:Slc) (w:World) (K:Int->World->Prop):Prop :=Calls PG 101 #[(.pointer l),(.slice b.a b.n b.c)] w fun e w'=>∃r0:Int,e=.returned (.int .i64 r0)/\K r0 w'
def qch (l:Option Addr) (e:Int) (w:World) (K:World->Prop):Prop :=Calls PG 102 #[(.pointer l),(.int .i64 e)] w fun e w'=>e=.returned (.tuple #[])/\K w'
def qk7 (l:Option Addr) (w:World) (K:qac->Int->World->Prop):Prop :=Calls PG 103 #[(.pointer l)] w fun e w'=>∃r0:qac,∃r1:Int,e=.returned (.tuple #[(.agg #[(.int .i64 r0.W),(.int .i64 r0.H),(.slice r0.P.a r0.P.n r0.P.c)]),(.int .i64 r1)])/\K r0 r1 w'
def qis (e:Option Addr) (k:qaa) (m:qac) (v:qaf) (w:World) (K:qad->World->Prop):Prop :=Calls PG 104 #[(.pointer e),(.agg #[(.int .u8 k.Action),(.int .u8 k.Medium),(.int .u8 k.Zip),(.int .u8 k.What),(.int .i64 k.Quiet),(.int .i64 k.Format),(.int .i64 k.W),(.int .i64 k.H),(.int .i64 k.Id),(.int .i64 k.Number),(.int .i64 k.Place),(.int .i64 k.More),(.int .i64 k.X),(.int .i64 k.Y),(.int .i64 k.PW),(.int .i64 k.PH),(.int .i64 k.DX),(.int .i64 k.DY),(.int .i64 k.Rows),(.int .i64 k.Cols),(.int .i64 k.Z),(.int .i64 k.Stay)]),(.agg #[(.int .i64 m.W),(.int .i64 m.H),(.slice m.P.a m.P.n m.P.c)]),(.agg #[(.bool v.View.Alt),(.int .i64 v.View.Top),(.int .i64 v.View.Rows),(.int .i64 v.View.Cols),(.int .i64 v.View.Row),(.int .i64 v.View.Col),(.int .i64 v.CellW),(.int .i64 v.CellH)])] w fun e w'=>∃r0:qad,e=.returned (.agg #[(.slice r0.Reply.a r0.Reply.n r0.Reply.c),(.int .i64 r0.Rows),(.int .i64 r0.Cols),(.bool r0.Moves)])/\K r0 w'
def qtg (k:qaa) (w:World) (K:Int->Int->World->Prop):Prop :=Calls PG 105 #[(.agg #[(.int .u8 k.Action),(.int .u8 k.Medium),(.int .u8 k.Zip),(.int .u8 k.What),(.int .i64 k.Quiet),(.int .i64 k.Format),(.int .i64 k.W),(.int .i64 k.H),(.int .i64 k.Id),(.int .i64 k.Number),(.int .i64 k.Place),(.int .i64 k.More),(.int .i64 k.X),(.int .i64 k.Y),(.int .i64 k.PW),(.int .i64 k.PH),(.int .i64 k.DX),(.int .i64 k.DY),(.int .i64 k.Rows),(.int .i64 k.Cols),(.int .i64 k.Z),(.int .i64 k.Stay)])] w fun e w'=>∃r0:Int,∃r1:Int,e=.returned (.tuple #[(.int .i64 r0),(.int .i64 r1)])/\K r0 r1 w'
def qot  (w:World) (K:Option Addr->World->Prop):Prop :=Calls PG 106 #[] w fun e w'=>∃r0:Option Addr,e=.returned (.pointer r0)/\K r0 w'
def qlq (p:qah) (c0:Addr) (c1:Addr) (w:World) (K:Bool->World->Prop):Prop :=Calls PG 107 #[(.agg #[(.int .i64 p.Image),(.int .i64 p.Id),(.bool p.Alt),(.int .i64 p.Line),(.int .i64 p.Col),(.int .i64 p.Rows),(.int .i64 p.Cols),(.int .i64 p.X),(.int .i64 p.Y),(.int .i64 p.W),(.int .i64 p.H),(.int .i64 p.DX),(.int .i64 p.DY),(.int .i64 p.Z)]),(.pointer (some c0)),(.pointer (some c1))] w fun e w'=>∃r0:Bool,e=.returned (.bool r0)/\K r0 w'
def qq3 (a:qb8) (p:qah) (v:qbw) (w:World) (K:Bool->World->Prop):Prop :=Calls PG 108 #[(.agg #[(.int .u8 a.What),(.int .i64 a.Image),(.int .i64 a.Place),(.int .i64 a.X),(.int .i64 a.Y),(.int .i64 a.Z)]),(.agg #[(.int .i64 p.Image),(.int .i64 p.Id),(.bool p.Alt),(.int .i64 p.Line),(.int .i64 p.Col),(.int .i64 p.Rows),(.int .i64 p.Cols),(.int .i64 p.X),(.int .i64 p.Y),(.int .i64 p.W),(.int .i64 p.H),(.int .i64 p.DX),(.int .i64 p.DY),(.int .i64 p.Z)]),(.agg #[(.bool v.Alt),(.int .i64 v.Top),(.int .i64 v.Rows),(.int .i64 v.Cols),(.int .i64 v.Row),(.int .i64 v.Col)])] w fun e w'=>∃r0:Bool,e=.returned (.bool r0)/\K r0 w'
def qvr (i:Int) (w:World) (K:ByteArray->World->Prop):Prop :=Calls PG 109 #[(.int .i64 i)] w fun e w'=>∃r0:ByteArray,e=.returned (.string r0)/\K r0 w'
def qv8 (elems:Slc) (sep:ByteArray) (w:World) (K:ByteArray->World->Prop):Prop :=Calls PG 110 #[(.slice elems.a elems.n elems.c),(.string sep)] w fun e w'=>∃r0:ByteArray,e=.returned (.string r0)/\K r0 w'
def qi9 (wx:Int) (hx:Int) (w:World) (K:Bool->World->Prop):Prop :=Calls PG 115 #[(.int .i64 wx),(.int .i64 hx)] w fun e w'=>∃r0:Bool,e=.returned (.bool r0)/\K r0 w'
def qhm (a:Int) (b:Int) (c0:Addr) (w:World) (K:Int->World->Prop):Prop :=Calls PG 116 #[(.int .i64 a),(.int .i64 b),(.pointer (some c0))] w fun e w'=>∃r0:Int,e=.returned (.int .i64 r0)/\K r0 w'
def qfz (x:Int) (y:Int) (w:World) (K:Int->World->Prop):Prop :=Calls PG 117 #[(.int .i64 x),(.int .i64 y)] w fun e w'=>∃r0:Int,e=.returned (.int .i64 r0)/\K r0 w'
def qfy (x:Slc) (cmp:Value) (w:World) (K:Int->World->Prop):Prop :=Calls PG 118 #[(.slice x.a x.n x.c),cmp] w fun e w'=>∃r0:Int,e=.returned (.int .i64 r0)/\K r0 w'
def qnq (p:qah) (c0:Addr) (w:World) (K:Bool->World->Prop):Prop :=Calls PG 119 #[(.agg #[(.int .i64 p.Image),(.int .i64 p.Id),(.bool p.Alt),(.int .i64 p.Line),(.int .i64 p.Col),(.int .i64 p.Rows),(.int .i64 p.Cols),(.int .i64 p.X),(.int .i64 p.Y),(.int .i64 p.W),(.int .i64 p.H),(.int .i64 p.DX),(.int .i64 p.DY),(.int .i64 p.Z)]),(.pointer (some c0))] w fun e w'=>∃r0:Bool,e=.returned (.bool r0)/\K r0 w'
def qnp (at_:Int) (n:Int) (side:Int) (w:World) (K:Int->World->Prop):Prop :=Calls PG 120 #[(.int .i64 at_),(.int .i64 n),(.int .i64 side)] w fun e w'=>∃r0:Int,e=.returned (.int .i64 r0)/\K r0 w'
def quv (p:qah) (w:World) (K:Bool->World->Prop):Prop :=Calls PG 121 #[(.agg #[(.int .i64 p.Image),(.int .i64 p.Id),(.bool p.Alt),(.int .i64 p.Line),(.int .i64 p.Col),(.int .i64 p.Rows),(.int .i64 p.Cols),(.int .i64 p.X),(.int .i64 p.Y),(.int .i64 p.W),(.int .i64 p.H),(.int .i64 p.DX),(.int .i64 p.DY),(.int .i64 p.Z)])] w fun e w'=>∃r0:Bool,e=.returned (.bool r0)/\K r0 w'
def qoc (o:qah) (c0:Addr) (w:World) (K:Bool->World->Prop):Prop :=Calls PG 122 #[(.agg #[(.int .i64 o.Image),(.int .i64 o.Id),(.bool o.Alt),(.int .i64 o.Line),(.int .i64 o.Col),(.int .i64 o.Rows),(.int .i64 o.Cols),(.int .i64 o.X),(.int .i64 o.Y),(.int .i64 o.W),(.int .i64 o.H),(.int .i64 o.DX),(.int .i64 o.DY),(.int .i64 o.Z)]),(.pointer (some c0))] w fun e w'=>∃r0:Bool,e=.returned (.bool r0)/\K r0 w'
def qla (b:Slc) (c:Int) (w:World) (K:Int->World->Prop):Prop :=Calls PG 123 #[(.slice b.a b.n b.c),(.int .u8 c)] w fun e w'=>∃r0:Int,e=.returned (.int .i64 r0)/\K r0 w'
def qf6 (a:Slc) (b:Slc) (w:World) (K:Bool->World->Prop):Prop :=Calls PG 124 #[(.slice a.a a.n a.c),(.slice b.a b.n b.c)] w fun e w'=>∃r0:Bool,e=.returned (.bool r0)/\K r0 w'
def qre (n:Int) (w:World) (K:Int->World->Prop):Prop :=Calls PG 126 #[(.int .i64 n)] w fun e w'=>∃r0:Int,e=.returned (.int .i64 r0)/\K r0 w'
def qiv (s:Slc) (sep:Slc) (w:World) (K:Int->World->Prop):Prop :=Calls PG 127 #[(.slice s.a s.n s.c),(.slice sep.a sep.n sep.c)] w fun e w'=>∃r0:Int,e=.returned (.int .i64 r0)/\K r0 w'
def q1u (s:ByteArray) (n:Int) (w:World) (K:Slc->World->Prop):Prop :=Calls PG 128 #[(.string s),(.int .i64 n)] w fun e w'=>∃r0:Slc,e=.returned (.slice r0.a r0.n r0.c)/\K r0 w'
def quj (s:ByteArray) (substr:ByteArray) (w:World) (K:Int->World->Prop):Prop :=Calls PG 129 #[(.string s),(.string substr)] w fun e w'=>∃r0:Int,e=.returned (.int .i64 r0)/\K r0 w'
def qug (s:ByteArray) (substr:ByteArray) (w:World) (K:Int->World->Prop):Prop :=Calls PG 130 #[(.string s),(.string substr)] w fun e w'=>∃r0:Int,e=.returned (.int .i64 r0)/\K r0 w'
def qir (s:ByteArray) (prefix_:ByteArray) (w:World) (K:ByteArray->Bool->World->Prop):Prop :=Calls PG 131 #[(.string s),(.string prefix_)] w fun e w'=>∃r0:ByteArray,∃r1:Bool,e=.returned (.tuple #[(.string r0),(.bool r1)])/\K r0 r1 w'
def qej (s:ByteArray) (c:Int) (w:World) (K:Int->World->Prop):Prop :=Calls PG 132 #[(.string s),(.int .u8 c)] w fun e w'=>∃r0:Int,e=.returned (.int .i64 r0)/\K r0 w'
def qhu (d:Option Addr) (c:Int) (w:World) (K:Slc->Bool->World->Prop):Prop :=Calls PG 133 #[(.pointer d),(.int .u8 c)] w fun e w'=>∃r0:Slc,∃r1:Bool,e=.returned (.tuple #[(.slice r0.a r0.n r0.c),(.bool r1)])/\K r0 r1 w'
def qjz (l:Option Addr) (w:World) (K:World->Prop):Prop :=Calls PG 134 #[(.pointer l)] w fun e w'=>e=.returned (.tuple #[])/\K w'
def qhn (d:Option Addr) (w:World) (K:Slc->Int->World->Prop):Prop :=Calls PG 135 #[(.pointer d)] w fun e w'=>∃r0:Slc,∃r1:Int,e=.returned (.tuple #[(.slice r0.a r0.n r0.c),(.int .i64 r1)])/\K r0 r1 w'
def qbi (slices:Slc) (w:World) (K:Slc->World->Prop):Prop :=Calls PG 136 #[(.slice slices.a slices.n slices.c)] w fun e w'=>∃r0:Slc,e=.returned (.slice r0.a r0.n r0.c)/\K r0 w'
def qhx (l:Option Addr) (b:Slc) (w:World) (K:Slc->Int->World->Prop):Prop :=Calls PG 137 #[(.pointer l),(.slice b.a b.n b.c)] w fun e w'=>∃r0:Slc,∃r1:Int,e=.returned (.tuple #[(.slice r0.a r0.n r0.c),(.int .i64 r1)])/\K r0 r1 w'
def qin (l:Option Addr) (b:Slc) (w:World) (K:qac->Int->World->Prop):Prop :=Calls PG 138 #[(.pointer l),(.slice b.a b.n b.c)] w fun e w'=>∃r0:qac,∃r1:Int,e=.returned (.tuple #[(.agg #[(.int .i64 r0.W),(.int .i64 r0.H),(.slice r0.P.a r0.P.n r0.P.c)]),(.int .i64 r1)])/\K r0 r1 w'
def qlx (n:Int) (w:World) (K:Bool->World->Prop):Prop :=Calls PG 139 #[(.int .i64 n)] w fun e w'=>∃r0:Bool,e=.returned (.bool r0)/\K r0 w'
def qcc (p:qah) (line:Int) (rows:Int) (from_:Int) (past:Int) (w:World) (K:Bool->World->Prop):Prop :=Calls PG 140 #[(.agg #[(.int .i64 p.Image),(.int .i64 p.Id),(.bool p.Alt),(.int .i64 p.Line),(.int .i64 p.Col),(.int .i64 p.Rows),(.int .i64 p.Cols),(.int .i64 p.X),(.int .i64 p.Y),(.int .i64 p.W),(.int .i64 p.H),(.int .i64 p.DX),(.int .i64 p.DY),(.int .i64 p.Z)]),(.int .i64 line),(.int .i64 rows),(.int .i64 from_),(.int .i64 past)] w fun e w'=>∃r0:Bool,e=.returned (.bool r0)/\K r0 w'
def qld (x:Int) (w:World) (K:Bool->World->Prop):Prop :=Calls PG 156 #[(.int .i64 x)] w fun e w'=>∃r0:Bool,e=.returned (.bool r0)/\K r0 w'
def qb7 (v:Int) (lo:Int) (hi:Int) (w:World) (K:Bool->World->Prop):Prop :=Calls PG 157 #[(.int .i64 v),(.int .i64 lo),(.int .i64 hi)] w fun e w'=>∃r0:Bool,e=.returned (.bool r0)/\K r0 w'
def qfx (s:ByteArray) (prefix_:ByteArray) (w:World) (K:ByteArray->Bool->World->Prop):Prop :=Calls PG 164 #[(.string s),(.string prefix_)] w fun e w'=>∃r0:ByteArray,∃r1:Bool,e=.returned (.tuple #[(.string r0),(.bool r1)])/\K r0 r1 w'
def qep (d:Option Addr) (w:World) (K:Bool->World->Prop):Prop :=Calls PG 166 #[(.pointer d)] w fun e w'=>∃r0:Bool,e=.returned (.bool r0)/\K r0 w'
def qen (d:Option Addr) (w:World) (K:Slc->World->Prop):Prop :=Calls PG 167 #[(.pointer d)] w fun e w'=>∃r0:Slc,e=.returned (.slice r0.a r0.n r0.c)/\K r0 w'
def qlr (d:Option Addr) (w:World) (K:World->Prop):Prop :=Calls PG 168 #[(.pointer d)] w fun e w'=>e=.returned (.tuple #[])/\K w'
def qf3 (s:Slc) (n:Int) (w:World) (K:Slc->World->Prop):Prop :=Calls PG 169 #[(.slice s.a s.n s.c),(.int .i64 n)] w fun e w'=>∃r0:Slc,e=.returned (.slice r0.a r0.n r0.c)/\K r0 w'
def qly (b:Slc) (most:Int) (w:World) (K:Slc->Int->Int->World->Prop):Prop :=Calls PG 170 #[(.slice b.a b.n b.c),(.int .i64 most)] w fun e w'=>∃r0:Slc,∃r1:Int,∃r2:Int,e=.returned (.tuple #[(.slice r0.a r0.n r0.c),(.int .i64 r1),(.int .i64 r2)])/\K r0 r1 r2 w'
def ql3 (wx:Int) (hx:Int) (b:Slc) (w:World) (K:qac->Int->World->Prop):Prop :=Calls PG 171 #[(.int .i64 wx),(.int .i64 hx),(.slice b.a b.n b.c)] w fun e w'=>∃r0:qac,∃r1:Int,e=.returned (.tuple #[(.agg #[(.int .i64 r0.W),(.int .i64 r0.H),(.slice r0.P.a r0.P.n r0.P.c)]),(.int .i64 r1)])/\K r0 r1 w'
def qto (b:Slc) (pixels:Int) (w:World) (K:qac->Int->World->Prop):Prop :=Calls PG 172 #[(.slice b.a b.n b.c),(.int .i64 pixels)] w fun e w'=>∃r0:qac,∃r1:Int,e=.returned (.tuple #[(.agg #[(.int .i64 r0.W),(.int .i64 r0.H),(.slice r0.P.a r0.P.n r0.P.c)]),(.int .i64 r1)])/\K r0 r1 w'
def qob (wx:Int) (hx:Int) (b:Slc) (w:World) (K:qac->Int->World->Prop):Prop :=Calls PG 173 #[(.int .i64 wx),(.int .i64 hx),(.slice b.a b.n b.c)] w fun e w'=>∃r0:qac,∃r1:Int,e=.returned (.tuple #[(.agg #[(.int .i64 r0.W),(.int .i64 r0.H),(.slice r0.P.a r0.P.n r0.P.c)]),(.int .i64 r1)])/\K r0 r1 w'
def qdk (s:ByteArray) (prefix_:ByteArray) (w:World) (K:Bool->World->Prop):Prop :=Calls PG 186 #[(.string s),(.string prefix_)] w fun e w'=>∃r0:Bool,e=.returned (.bool r0)/\K r0 w'
def q4k (most:Int) (w:World) (K:Option Addr->Int->World->Prop):Prop :=Calls PG 188 #[(.int .i64 most)] w fun e w'=>∃r0:Option Addr,∃r1:Int,e=.returned (.tuple #[(.pointer r0),(.int .i64 r1)])/\K r0 r1 w'
def qhl (d:Option Addr) (b:Slc) (w:World) (K:Slc->Int->World->Prop):Prop :=Calls PG 189 #[(.pointer d),(.slice b.a b.n b.c)] w fun e w'=>∃r0:Slc,∃r1:Int,e=.returned (.tuple #[(.slice r0.a r0.n r0.c),(.int .i64 r1)])/\K r0 r1 w'
def qiy (d:Option Addr) (w:World) (K:Bool->World->Prop):Prop :=Calls PG 190 #[(.pointer d)] w fun e w'=>∃r0:Bool,e=.returned (.bool r0)/\K r0 w'
def qio (d:Option Addr) (w:World) (K:Int->World->Prop):Prop :=Calls PG 191 #[(.pointer d)] w fun e w'=>∃r0:Int,e=.returned (.int .i64 r0)/\K r0 w'
def qng (wx:Int) (hx:Int) (per:Int) (b:Slc) (w:World) (K:qac->Int->World->Prop):Prop :=Calls PG 192 #[(.int .i64 wx),(.int .i64 hx),(.int .i64 per),(.slice b.a b.n b.c)] w fun e w'=>∃r0:qac,∃r1:Int,e=.returned (.tuple #[(.agg #[(.int .i64 r0.W),(.int .i64 r0.H),(.slice r0.P.a r0.P.n r0.P.c)]),(.int .i64 r1)])/\K r0 r1 w'
def qw7 (b:Slc) (pixels:Int) (w:World) (K:Option Addr->Int->World->Prop):Prop :=Calls PG 193 #[(.slice b.a b.n b.c),(.int .i64 pixels)] w fun e w'=>∃r0:Option Addr,∃r1:Int,e=.returned (.tuple #[(.pointer r0),(.int .i64 r1)])/\K r0 r1 w'
def qm3 (hx:qag) (w:World) (K:Int->World->Prop):Prop :=Calls PG 194 #[(.agg #[(.int .i64 hx.W),(.int .i64 hx.H),(.int .i64 hx.Depth),(.int .i64 hx.Color),(.int .i64 hx.Lace)])] w fun e w'=>∃r0:Int,e=.returned (.int .i64 r0)/\K r0 w'
def qky (f:Option Addr) (b:Slc) (w:World) (K:qac->Int->World->Prop):Prop :=Calls PG 195 #[(.pointer f),(.slice b.a b.n b.c)] w fun e w'=>∃r0:qac,∃r1:Int,e=.returned (.tuple #[(.agg #[(.int .i64 r0.W),(.int .i64 r0.H),(.slice r0.P.a r0.P.n r0.P.c)]),(.int .i64 r1)])/\K r0 r1 w'
def qqx (most:Int) (w:World) (K:Option Addr->Int->World->Prop):Prop :=Calls PG 204 #[(.int .i64 most)] w fun e w'=>∃r0:Option Addr,∃r1:Int,e=.returned (.tuple #[(.pointer r0),(.int .i64 r1)])/\K r0 r1 w'
def qub  (w:World) (K:Option Addr->World->Prop):Prop :=Calls PG 205 #[] w fun e w'=>∃r0:Option Addr,e=.returned (.pointer r0)/\K r0 w'
def qhk (d:Option Addr) (c:Int) (w:World) (K:Bool->World->Prop):Prop :=Calls PG 206 #[(.pointer d),(.int .u8 c)] w fun e w'=>∃r0:Bool,e=.returned (.bool r0)/\K r0 w'
def qbp (d:Option Addr) (e:Int) (w:World) (K:Int->World->Prop):Prop :=Calls PG 207 #[(.pointer d),(.int .i64 e)] w fun e w'=>∃r0:Int,e=.returned (.int .i64 r0)/\K r0 w'
def qec (d:Option Addr) (w:World) (K:Int->World->Prop):Prop :=Calls PG 208 #[(.pointer d)] w fun e w'=>∃r0:Int,e=.returned (.int .i64 r0)/\K r0 w'
def qc7 (d:Option Addr) (b:Slc) (w:World) (K:Slc->Int->World->Prop):Prop :=Calls PG 209 #[(.pointer d),(.slice b.a b.n b.c)] w fun e w'=>∃r0:Slc,∃r1:Int,e=.returned (.tuple #[(.slice r0.a r0.n r0.c),(.int .i64 r1)])/\K r0 r1 w'
def qck (d:Option Addr) (w:World) (K:Bool->World->Prop):Prop :=Calls PG 210 #[(.pointer d)] w fun e w'=>∃r0:Bool,e=.returned (.bool r0)/\K r0 w'
def qcl (d:Option Addr) (w:World) (K:Int->World->Prop):Prop :=Calls PG 211 #[(.pointer d)] w fun e w'=>∃r0:Int,e=.returned (.int .i64 r0)/\K r0 w'
def qcp (b:Slc) (w:World) (K:Int->World->Prop):Prop :=Calls PG 212 #[(.slice b.a b.n b.c)] w fun e w'=>∃r0:Int,e=.returned (.int .u32 r0)/\K r0 w'
def qln (wx:Int) (hx:Int) (w:World) (K:qac->Int->World->Prop):Prop :=Calls PG 213 #[(.int .i64 wx),(.int .i64 hx)] w fun e w'=>∃r0:qac,∃r1:Int,e=.returned (.tuple #[(.agg #[(.int .i64 r0.W),(.int .i64 r0.H),(.slice r0.P.a r0.P.n r0.P.c)]),(.int .i64 r1)])/\K r0 r1 w'
def qsu (b:Slc) (w:World) (K:Slc->Int->World->Prop):Prop :=Calls PG 214 #[(.slice b.a b.n b.c)] w fun e w'=>∃r0:Slc,∃r1:Int,e=.returned (.tuple #[(.slice r0.a r0.n r0.c),(.int .i64 r1)])/\K r0 r1 w'
def qx2 (c:qam) (w:World) (K:qag->Int->World->Prop):Prop :=Calls PG 215 #[(.agg #[(.string c.Kind),(.slice c.Data.a c.Data.n c.Data.c)])] w fun e w'=>∃r0:qag,∃r1:Int,e=.returned (.tuple #[(.agg #[(.int .i64 r0.W),(.int .i64 r0.H),(.int .i64 r0.Depth),(.int .i64 r0.Color),(.int .i64 r0.Lace)]),(.int .i64 r1)])/\K r0 r1 w'
def qnh (f:Option Addr) (c:qam) (w:World) (K:Int->World->Prop):Prop :=Calls PG 216 #[(.pointer f),(.agg #[(.string c.Kind),(.slice c.Data.a c.Data.n c.Data.c)])] w fun e w'=>∃r0:Int,e=.returned (.int .i64 r0)/\K r0 w'
def qe3 (hx:qag) (f:Value) (w:World) (K:Bool->World->Prop):Prop :=Calls PG 217 #[(.agg #[(.int .i64 hx.W),(.int .i64 hx.H),(.int .i64 hx.Depth),(.int .i64 hx.Color),(.int .i64 hx.Lace)]),f] w fun e w'=>∃r0:Bool,e=.returned (.bool r0)/\K r0 w'
def qro (x_:qa2) (x_x:Int) (wx:Int) (c0:Addr) (c1:Addr) (w:World) (K:Bool->World->Prop):Prop :=Calls PG 218 #[(.agg #[(.int .i64 x_.X),(.int .i64 x_.Y),(.int .i64 x_.DX),(.int .i64 x_.DY)]),(.int .i64 x_x),(.int .i64 wx),(.pointer (some c0)),(.pointer (some c1))] w fun e w'=>∃r0:Bool,e=.returned (.bool r0)/\K r0 w'
def qn2 (wx:Int) (samples:Int) (depth:Int) (w:World) (K:Int->World->Prop):Prop :=Calls PG 219 #[(.int .i64 wx),(.int .i64 samples),(.int .i64 depth)] w fun e w'=>∃r0:Int,e=.returned (.int .i64 r0)/\K r0 w'
def qe5 (color:Int) (w:World) (K:Int->World->Prop):Prop :=Calls PG 220 #[(.int .i64 color)] w fun e w'=>∃r0:Int,e=.returned (.int .i64 r0)/\K r0 w'
def qix (p:qa2) (y:Int) (wx:Int) (c0:Addr) (c1:Addr) (c2:Addr) (c3:Addr) (c4:Addr) (c5:Addr) (w:World) (K:Bool->World->Prop):Prop :=Calls PG 221 #[(.agg #[(.int .i64 p.X),(.int .i64 p.Y),(.int .i64 p.DX),(.int .i64 p.DY)]),(.int .i64 y),(.int .i64 wx),(.pointer (some c0)),(.pointer (some c1)),(.pointer (some c2)),(.pointer (some c3)),(.pointer (some c4)),(.pointer (some c5))] w fun e w'=>∃r0:Bool,e=.returned (.bool r0)/\K r0 w'
def qqu (kind:Int) (row:Slc) (ahead:Slc) (step:Int) (w:World) (K:Slc->Int->World->Prop):Prop :=Calls PG 222 #[(.int .i64 kind),(.slice row.a row.n row.c),(.slice ahead.a ahead.n ahead.c),(.int .i64 step)] w fun e w'=>∃r0:Slc,∃r1:Int,e=.returned (.tuple #[(.slice r0.a r0.n r0.c),(.int .i64 r1)])/\K r0 r1 w'
def ql1 (row:Slc) (depth:Int) (n:Int) (w:World) (K:Slc->Int->World->Prop):Prop :=Calls PG 223 #[(.slice row.a row.n row.c),(.int .i64 depth),(.int .i64 n)] w fun e w'=>∃r0:Slc,∃r1:Int,e=.returned (.tuple #[(.slice r0.a r0.n r0.c),(.int .i64 r1)])/\K r0 r1 w'
def qem (f:Option Addr) (s:Slc) (w:World) (K:qao->Bool->World->Prop):Prop :=Calls PG 224 #[(.pointer f),(.slice s.a s.n s.c)] w fun e w'=>∃r0:qao,∃r1:Bool,e=.returned (.tuple #[(.agg #[(.int .u8 r0.e0),(.int .u8 r0.e1),(.int .u8 r0.e2),(.int .u8 r0.e3)]),(.bool r1)])/\K r0 r1 w'
def qh3 (b:Slc) (w:World) (K:Option Addr->World->Prop):Prop :=Calls PG 229 #[(.slice b.a b.n b.c)] w fun e w'=>∃r0:Option Addr,e=.returned (.pointer r0)/\K r0 w'
def qa6 (r:Option Addr) (n:Int) (w:World) (K:Int->Bool->World->Prop):Prop :=Calls PG 230 #[(.pointer r),(.int .i64 n)] w fun e w'=>∃r0:Int,∃r1:Bool,e=.returned (.tuple #[(.int .u32 r0),(.bool r1)])/\K r0 r1 w'
def qbl (r:Option Addr) (w:World) (K:Int->World->Prop):Prop :=Calls PG 231 #[(.pointer r)] w fun e w'=>∃r0:Int,e=.returned (.int .i64 r0)/\K r0 w'
def qgu (d:Option Addr) (r:Option Addr) (w:World) (K:Int->World->Prop):Prop :=Calls PG 232 #[(.pointer d),(.pointer r)] w fun e w'=>∃r0:Int,e=.returned (.int .i64 r0)/\K r0 w'
def qf9 (r:Option Addr) (at_:Int) (w:World) (K:World->Prop):Prop :=Calls PG 233 #[(.pointer r),(.int .i64 at_)] w fun e w'=>e=.returned (.tuple #[])/\K w'
def qxq (b:Slc) (f:Value) (w:World) (K:Int->World->Prop):Prop :=Calls PG 234 #[(.slice b.a b.n b.c),f] w fun e w'=>∃r0:Int,e=.returned (.int .i64 r0)/\K r0 w'
def qv7 (c:qam) (c0:Addr) (w:World) (K:Bool->World->Prop):Prop :=Calls PG 235 #[(.agg #[(.string c.Kind),(.slice c.Data.a c.Data.n c.Data.c)]),(.pointer (some c0))] w fun e w'=>∃r0:Bool,e=.returned (.bool r0)/\K r0 w'
def qif (hx:qag) (w:World) (K:Int->World->Prop):Prop :=Calls PG 236 #[(.agg #[(.int .i64 hx.W),(.int .i64 hx.H),(.int .i64 hx.Depth),(.int .i64 hx.Color),(.int .i64 hx.Lace)])] w fun e w'=>∃r0:Int,e=.returned (.int .i64 r0)/\K r0 w'
def qlc (f:Option Addr) (b:Slc) (w:World) (K:Bool->World->Prop):Prop :=Calls PG 237 #[(.pointer f),(.slice b.a b.n b.c)] w fun e w'=>∃r0:Bool,e=.returned (.bool r0)/\K r0 w'
def qma (f:Option Addr) (b:Slc) (w:World) (K:Bool->World->Prop):Prop :=Calls PG 238 #[(.pointer f),(.slice b.a b.n b.c)] w fun e w'=>∃r0:Bool,e=.returned (.bool r0)/\K r0 w'
def qk6 (hx:qag) (w:World) (K:Slc->World->Prop):Prop :=Calls PG 239 #[(.agg #[(.int .i64 hx.W),(.int .i64 hx.H),(.int .i64 hx.Depth),(.int .i64 hx.Color),(.int .i64 hx.Lace)])] w fun e w'=>∃r0:Slc,e=.returned (.slice r0.a r0.n r0.c)/\K r0 w'
def qq9 (p:qa2) (wx:Int) (hx:Int) (w:World) (K:Int->Int->World->Prop):Prop :=Calls PG 240 #[(.agg #[(.int .i64 p.X),(.int .i64 p.Y),(.int .i64 p.DX),(.int .i64 p.DY)]),(.int .i64 wx),(.int .i64 hx)] w fun e w'=>∃r0:Int,∃r1:Int,e=.returned (.tuple #[(.int .i64 r0),(.int .i64 r1)])/\K r0 r1 w'
def qhz (n:Int) (w:World) (K:Bool->World->Prop):Prop :=Calls PG 241 #[(.int .i64 n)] w fun e w'=>∃r0:Bool,e=.returned (.bool r0)/\K r0 w'
def qpj (kind:Int) (row:Slc) (ahead:Slc) (step:Int) (w:World) (K:Bool->World->Prop):Prop :=Calls PG 242 #[(.int .i64 kind),(.slice row.a row.n row.c),(.slice ahead.a ahead.n ahead.c),(.int .i64 step)] w fun e w'=>∃r0:Bool,e=.returned (.bool r0)/\K r0 w'
def qpe (kind:Int) (i:Int) (row:Slc) (ahead:Slc) (step:Int) (w:World) (K:Int->World->Prop):Prop :=Calls PG 243 #[(.int .i64 kind),(.int .i64 i),(.slice row.a row.n row.c),(.slice ahead.a ahead.n ahead.c),(.int .i64 step)] w fun e w'=>∃r0:Int,e=.returned (.int .u8 r0)/\K r0 w'
def qdl (hx:qag) (v:Int) (w:World) (K:Int->World->Prop):Prop :=Calls PG 244 #[(.agg #[(.int .i64 hx.W),(.int .i64 hx.H),(.int .i64 hx.Depth),(.int .i64 hx.Color),(.int .i64 hx.Lace)]),(.int .i64 v)] w fun e w'=>∃r0:Int,e=.returned (.int .u8 r0)/\K r0 w'
def qgi (r:Option Addr) (n:Int) (w:World) (K:Int->Bool->World->Prop):Prop :=Calls PG 247 #[(.pointer r),(.int .i64 n)] w fun e w'=>∃r0:Int,∃r1:Bool,e=.returned (.tuple #[(.int .u32 r0),(.bool r1)])/\K r0 r1 w'
def qgt (d:Option Addr) (r:Option Addr) (w:World) (K:Int->World->Prop):Prop :=Calls PG 248 #[(.pointer d),(.pointer r)] w fun e w'=>∃r0:Int,e=.returned (.int .i64 r0)/\K r0 w'
def qfq (d:Option Addr) (r:Option Addr) (w:World) (K:Int->World->Prop):Prop :=Calls PG 249 #[(.pointer d),(.pointer r)] w fun e w'=>∃r0:Int,e=.returned (.int .i64 r0)/\K r0 w'
def qf4 (d:Option Addr) (r:Option Addr) (w:World) (K:Int->World->Prop):Prop :=Calls PG 250 #[(.pointer d),(.pointer r)] w fun e w'=>∃r0:Int,e=.returned (.int .i64 r0)/\K r0 w'
def qfg (d:Option Addr) (r:Option Addr) (w:World) (K:Int->World->Prop):Prop :=Calls PG 251 #[(.pointer d),(.pointer r)] w fun e w'=>∃r0:Int,e=.returned (.int .i64 r0)/\K r0 w'
def qgs (d:Option Addr) (r:Option Addr) (w:World) (K:Int->World->Prop):Prop :=Calls PG 252 #[(.pointer d),(.pointer r)] w fun e w'=>∃r0:Int,e=.returned (.int .i64 r0)/\K r0 w'
def qr6  (w:World) (K:Slc->World->Prop):Prop :=Calls PG 253 #[] w fun e w'=>∃r0:Slc,e=.returned (.slice r0.a r0.n r0.c)/\K r0 w'
def qvp (b:Slc) (w:World) (K:qam->Int->Int->World->Prop):Prop :=Calls PG 254 #[(.slice b.a b.n b.c)] w fun e w'=>∃r0:qam,∃r1:Int,∃r2:Int,e=.returned (.tuple #[(.agg #[(.string r0.Kind),(.slice r0.Data.a r0.Data.n r0.Data.c)]),(.int .i64 r1),(.int .i64 r2)])/\K r0 r1 r2 w'
def qfc (s:Slc) (v:Int) (w:World) (K:Bool->World->Prop):Prop :=Calls PG 255 #[(.slice s.a s.n s.c),(.int .i64 v)] w fun e w'=>∃r0:Bool,e=.returned (.bool r0)/\K r0 w'
def qnm  (w:World) (K:Slc->World->Prop):Prop :=Calls PG 256 #[] w fun e w'=>∃r0:Slc,e=.returned (.slice r0.a r0.n r0.c)/\K r0 w'
def qiz (n:Int) (w:World) (K:Bool->World->Prop):Prop :=Calls PG 257 #[(.int .i64 n)] w fun e w'=>∃r0:Bool,e=.returned (.bool r0)/\K r0 w'
def qo6 (a:Int) (b:Int) (c:Int) (w:World) (K:Int->World->Prop):Prop :=Calls PG 258 #[(.int .u8 a),(.int .u8 b),(.int .u8 c)] w fun e w'=>∃r0:Int,e=.returned (.int .u8 r0)/\K r0 w'
def qk4 (v:Int) (from_:Int) (to:Int) (w:World) (K:Int->World->Prop):Prop :=Calls PG 259 #[(.int .i64 v),(.int .i64 from_),(.int .i64 to)] w fun e w'=>∃r0:Int,e=.returned (.int .i64 r0)/\K r0 w'
def qgk (r:Option Addr) (w:World) (K:Int->World->Prop):Prop :=Calls PG 260 #[(.pointer r)] w fun e w'=>∃r0:Int,e=.returned (.int .i64 r0)/\K r0 w'
def qsx  (w:World) (K:Slc->Slc->World->Prop):Prop :=Calls PG 261 #[] w fun e w'=>∃r0:Slc,∃r1:Slc,e=.returned (.tuple #[(.slice r0.a r0.n r0.c),(.slice r1.a r1.n r1.c)])/\K r0 r1 w'
def qgb (lengths:Slc) (w:World) (K:Option Addr->Int->World->Prop):Prop :=Calls PG 262 #[(.slice lengths.a lengths.n lengths.c)] w fun e w'=>∃r0:Option Addr,∃r1:Int,e=.returned (.tuple #[(.pointer r0),(.int .i64 r1)])/\K r0 r1 w'
def qiw (r:Option Addr) (w:World) (K:Int->World->Prop):Prop :=Calls PG 263 #[(.pointer r)] w fun e w'=>∃r0:Int,e=.returned (.int .i64 r0)/\K r0 w'
def qgl (d:Option Addr) (r:Option Addr) (w:World) (K:World->Prop):Prop :=Calls PG 264 #[(.pointer d),(.pointer r)] w fun e w'=>e=.returned (.tuple #[])/\K w'
def qcr (d:Option Addr) (c:Int) (w:World) (K:Int->World->Prop):Prop :=Calls PG 265 #[(.pointer d),(.int .u8 c)] w fun e w'=>∃r0:Int,e=.returned (.int .i64 r0)/\K r0 w'
def qdc (d:Option Addr) (w:World) (K:World->Prop):Prop :=Calls PG 266 #[(.pointer d)] w fun e w'=>e=.returned (.tuple #[])/\K w'
def qpk (r:Option Addr) (t:Option Addr) (n:Int) (w:World) (K:Slc->Int->World->Prop):Prop :=Calls PG 267 #[(.pointer r),(.pointer t),(.int .i64 n)] w fun e w'=>∃r0:Slc,∃r1:Int,e=.returned (.tuple #[(.slice r0.a r0.n r0.c),(.int .i64 r1)])/\K r0 r1 w'
def qd5 (t:Option Addr) (r:Option Addr) (w:World) (K:Int->Int->World->Prop):Prop :=Calls PG 268 #[(.pointer t),(.pointer r)] w fun e w'=>∃r0:Int,∃r1:Int,e=.returned (.tuple #[(.int .i64 r0),(.int .i64 r1)])/\K r0 r1 w'
def qmb (sign:Int) (w:World) (K:Int->Int->World->Prop):Prop :=Calls PG 269 #[(.int .i64 sign)] w fun e w'=>∃r0:Int,∃r1:Int,e=.returned (.tuple #[(.int .i64 r0),(.int .i64 r1)])/\K r0 r1 w'
def qjs (sign:Int) (w:World) (K:Int->Int->World->Prop):Prop :=Calls PG 270 #[(.int .i64 sign)] w fun e w'=>∃r0:Int,∃r1:Int,e=.returned (.tuple #[(.int .i64 r0),(.int .i64 r1)])/\K r0 r1 w'
def qq7 (b:Slc) (w:World) (K:Bool->World->Prop):Prop :=Calls PG 271 #[(.slice b.a b.n b.c)] w fun e w'=>∃r0:Bool,e=.returned (.bool r0)/\K r0 w'
def qdm (s:Option Addr) (parts:Slc) (w:World) (K:Int->World->Prop):Prop :=Calls PG 272 #[(.pointer s),(.slice parts.a parts.n parts.c)] w fun e w'=>∃r0:Int,e=.returned (.int .u32 r0)/\K r0 w'
def qh9  (w:World) (K:Option Addr->World->Prop):Prop :=Calls PG 273 #[] w fun e w'=>∃r0:Option Addr,e=.returned (.pointer r0)/\K r0 w'
def qll (s:Slc) (v:Int) (w:World) (K:Int->World->Prop):Prop :=Calls PG 274 #[(.slice s.a s.n s.c),(.int .i64 v)] w fun e w'=>∃r0:Int,e=.returned (.int .i64 r0)/\K r0 w'
def qcv (x:Int) (c0:Addr) (c1:Addr) (c2:Addr) (w:World) (K:Int->World->Prop):Prop :=Calls PG 275 #[(.int .u8 x),(.pointer (some c0)),(.pointer (some c1)),(.pointer (some c2))] w fun e w'=>∃r0:Int,e=.returned (.int .i64 r0)/\K r0 w'
def qig (lengths:Slc) (w:World) (K:Int->World->Prop):Prop :=Calls PG 276 #[(.slice lengths.a lengths.n lengths.c)] w fun e w'=>∃r0:Int,e=.returned (.int .i64 r0)/\K r0 w'
def qd4 (t:Option Addr) (w:World) (K:World->Prop):Prop :=Calls PG 277 #[(.pointer t)] w fun e w'=>e=.returned (.tuple #[])/\K w'
def qf2 (s:Slc) (f:Value) (w:World) (K:Bool->World->Prop):Prop :=Calls PG 278 #[(.slice s.a s.n s.c),f] w fun e w'=>∃r0:Bool,e=.returned (.bool r0)/\K r0 w'
def qum (c:Int) (w:World) (K:Bool->World->Prop):Prop :=Calls PG 279 #[(.int .u8 c)] w fun e w'=>∃r0:Bool,e=.returned (.bool r0)/\K r0 w'
def qo8 (v:Int) (n:Int) (w:World) (K:Int->World->Prop):Prop :=Calls PG 280 #[(.int .u32 v),(.int .i64 n)] w fun e w'=>∃r0:Int,e=.returned (.int .u32 r0)/\K r0 w'
def qg6 (s:Slc) (f:Value) (w:World) (K:Int->World->Prop):Prop :=Calls PG 281 #[(.slice s.a s.n s.c),f] w fun e w'=>∃r0:Int,e=.returned (.int .i64 r0)/\K r0 w'
def ql6 (a:Option Addr) (w:World) (K:Int->World->Prop):Prop :=Calls PG 303 #[(.pointer a)] w fun e w'=>∃r0:Int,e=.returned (.int .u32 r0)/\K r0 w'
def qjl (a:Option Addr) (b:Slc) (w:World) (K:Int->Value->World->Prop):Prop :=Calls PG 304 #[(.pointer a),(.slice b.a b.n b.c)] w fun e w'=>∃r0:Int,∃r1:Value,e=.returned (.tuple #[(.int .i64 r0),r1])/\K r0 r1 w'
def qo5 (c:Option Addr) (w:World) (K:Int->World->Prop):Prop :=Calls PG 305 #[(.pointer c)] w fun e w'=>∃r0:Int,e=.returned (.int .u32 r0)/\K r0 w'
def ql4 (c:Option Addr) (b:Slc) (w:World) (K:Int->Value->World->Prop):Prop :=Calls PG 306 #[(.pointer c),(.slice b.a b.n b.c)] w fun e w'=>∃r0:Int,∃r1:Value,e=.returned (.tuple #[(.int .i64 r0),r1])/\K r0 r1 w'
end Go.Proofs.YtedcpbkcamckoaaGreatDoor
