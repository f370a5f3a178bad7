import Derived.Test.YtedcpbkcamckoaaGreatDoorVc
import Derived.Test.YtedcpbkcamckoaaGreatDoorChecked
import Derived.KernelRfl
set_option maxRecDepth 100000
set_option linter.unusedVariables false
namespace Go.Proofs.YtedcpbkcamckoaaGreatDoor
open Go.Vc
structure qbv where
 Alt:Bool
 Top:Int
 Rows:Int
 Cols:Int
 Row:Int
 Col:Int
def qbv.rep:Rep where
 T:=qbv
 cells x:=[(.bool x.Alt),(.int .i64 x.Top),(.int .i64 x.Rows),(.int .i64 x.Cols),(.int .i64 x.Row),(.int .i64 x.Col)]
 get l:=match l with
  | [.bool v1,.int .i64 v2,.int .i64 v3,.int .i64 v4,.int .i64 v5,.int .i64 v6]=>some ⟨v1,v2,v3,v4,v5,v6⟩
  | _=>none
 ok l c h:=by
  split at h
  ·injection h with h;subst h;rfl
  ·cases h
structure qae where
 View:qbv
 CellW:Int
 CellH:Int
def qae.rep:Rep where
 T:=qae
 cells x:=[(.bool x.View.Alt),(.int .i64 x.View.Top),(.int .i64 x.View.Rows),(.int .i64 x.View.Cols),(.int .i64 x.View.Row),(.int .i64 x.View.Col),(.int .i64 x.CellW),(.int .i64 x.CellH)]
 get l:=match l with
  | [.bool v1,.int .i64 v2,.int .i64 v3,.int .i64 v4,.int .i64 v5,.int .i64 v6,.int .i64 v7,.int .i64 v8]=>some ⟨⟨v1,v2,v3,v4,v5,v6⟩,v7,v8⟩
  | _=>none
 ok l c h:=by
  split at h
  ·injection h with h;subst h;rfl
  ·cases h
structure qac where
 Reply:Slc
 Rows:Int
 Cols:Int
 Moves:Bool
def qac.rep:Rep where
 T:=qac
 cells x:=[(.slice x.Reply.a x.Reply.n x.Reply.c),(.int .i64 x.Rows),(.int .i64 x.Cols),(.bool x.Moves)]
 get l:=match l with
  | [.slice v1a v1n v1c,.int .i64 v2,.int .i64 v3,.bool v4]=>some ⟨⟨v1a,v1n,v1c⟩,v2,v3,v4⟩
  | _=>none
 ok l c h:=by
  split at h
  ·injection h with h;subst h;rfl
  ·cases h
structure qab where
 W:Int
 H:Int
 P:Slc
def qab.rep:Rep where
 T:=qab
 cells x:=[(.int .i64 x.W),(.int .i64 x.H),(.slice x.P.a x.P.n x.P.c)]
 get l:=match l with
  | [.int .i64 v1,.int .i64 v2,.slice v3a v3n v3c]=>some ⟨v1,v2,⟨v3a,v3n,v3c⟩⟩
  | _=>none
 ok l c h:=by
  split at h
  ·injection h with h;subst h;rfl
  ·cases h
structure qct where
 Op:Int
 Command:Slc
 V:qae
 M:qab
 Alt:Bool
 Line:Int
 Rows:Int
 From:Int
 Past:Int
 N:Int
def qct.rep:Rep where
 T:=qct
 cells x:=[(.int .i64 x.Op),(.slice x.Command.a x.Command.n x.Command.c),(.bool x.V.View.Alt),(.int .i64 x.V.View.Top),(.int .i64 x.V.View.Rows),(.int .i64 x.V.View.Cols),(.int .i64 x.V.View.Row),(.int .i64 x.V.View.Col),(.int .i64 x.V.CellW),(.int .i64 x.V.CellH),(.int .i64 x.M.W),(.int .i64 x.M.H),(.slice x.M.P.a x.M.P.n x.M.P.c),(.bool x.Alt),(.int .i64 x.Line),(.int .i64 x.Rows),(.int .i64 x.From),(.int .i64 x.Past),(.int .i64 x.N)]
 get l:=match l with
  | [.int .i64 v1,.slice v2a v2n v2c,.bool v3,.int .i64 v4,.int .i64 v5,.int .i64 v6,.int .i64 v7,.int .i64 v8,.int .i64 v9,.int .i64 v10,.int .i64 v11,.int .i64 v12,.slice v13a v13n v13c,.bool v14,.int .i64 v15,.int .i64 v16,.int .i64 v17,.int .i64 v18,.int .i64 v19]=>some ⟨v1,⟨v2a,v2n,v2c⟩,⟨⟨v3,v4,v5,v6,v7,v8⟩,v9,v10⟩,⟨v11,v12,⟨v13a,v13n,v13c⟩⟩,v14,v15,v16,v17,v18,v19⟩
  | _=>none
 ok l c h:=by
  split at h
  ·injection h with h;subst h;rfl
  ·cases h
structure qaa where
 Action:Int
 Medium:Int
 Zip:Int
 What:Int
 Quiet:Int
 Format:Int
 W:Int
 H:Int
 Id:Int
 Number:Int
 Place:Int
 More:Int
 X:Int
 Y:Int
 PW:Int
 PH:Int
 DX:Int
 DY:Int
 Rows:Int
 Cols:Int
 Z:Int
 Stay:Int
def qaa.rep:Rep where
 T:=qaa
 cells x:=[(.int .u8 x.Action),(.int .u8 x.Medium),(.int .u8 x.Zip),(.int .u8 x.What),(.int .i64 x.Quiet),(.int .i64 x.Format),(.int .i64 x.W),(.int .i64 x.H),(.int .i64 x.Id),(.int .i64 x.Number),(.int .i64 x.Place),(.int .i64 x.More),(.int .i64 x.X),(.int .i64 x.Y),(.int .i64 x.PW),(.int .i64 x.PH),(.int .i64 x.DX),(.int .i64 x.DY),(.int .i64 x.Rows),(.int .i64 x.Cols),(.int .i64 x.Z),(.int .i64 x.Stay)]
 get l:=match l with
  | [.int .u8 v1,.int .u8 v2,.int .u8 v3,.int .u8 v4,.int .i64 v5,.int .i64 v6,.int .i64 v7,.int .i64 v8,.int .i64 v9,.int .i64 v10,.int .i64 v11,.int .i64 v12,.int .i64 v13,.int .i64 v14,.int .i64 v15,.int .i64 v16,.int .i64 v17,.int .i64 v18,.int .i64 v19,.int .i64 v20,.int .i64 v21,.int .i64 v22]=>some ⟨v1,v2,v3,v4,v5,v6,v7,v8,v9,v10,v11,v12,v13,v14,v15,v16,v17,v18,v19,v20,v21,v22⟩
  | _=>none
 ok l c h:=by
  split at h
  ·injection h with h;subst h;rfl
  ·cases h
structure qpj where
 quota:Int
 s:Option Addr
 t:Option Addr
 l:Option Addr
 first:qaa
def qpj.rep:Rep where
 T:=qpj
 cells x:=[(.int .i64 x.quota),(.pointer x.s),(.pointer x.t),(.pointer x.l),(.int .u8 x.first.Action),(.int .u8 x.first.Medium),(.int .u8 x.first.Zip),(.int .u8 x.first.What),(.int .i64 x.first.Quiet),(.int .i64 x.first.Format),(.int .i64 x.first.W),(.int .i64 x.first.H),(.int .i64 x.first.Id),(.int .i64 x.first.Number),(.int .i64 x.first.Place),(.int .i64 x.first.More),(.int .i64 x.first.X),(.int .i64 x.first.Y),(.int .i64 x.first.PW),(.int .i64 x.first.PH),(.int .i64 x.first.DX),(.int .i64 x.first.DY),(.int .i64 x.first.Rows),(.int .i64 x.first.Cols),(.int .i64 x.first.Z),(.int .i64 x.first.Stay)]
 get l:=match l with
  | [.int .i64 v1,.pointer v2,.pointer v3,.pointer v4,.int .u8 v5,.int .u8 v6,.int .u8 v7,.int .u8 v8,.int .i64 v9,.int .i64 v10,.int .i64 v11,.int .i64 v12,.int .i64 v13,.int .i64 v14,.int .i64 v15,.int .i64 v16,.int .i64 v17,.int .i64 v18,.int .i64 v19,.int .i64 v20,.int .i64 v21,.int .i64 v22,.int .i64 v23,.int .i64 v24,.int .i64 v25,.int .i64 v26]=>some ⟨v1,v2,v3,v4,⟨v5,v6,v7,v8,v9,v10,v11,v12,v13,v14,v15,v16,v17,v18,v19,v20,v21,v22,v23,v24,v25,v26⟩⟩
  | _=>none
 ok l c h:=by
  split at h
  ·injection h with h;subst h;rfl
  ·cases h
structure qb8 where
 What:Int
 Image:Int
 Place:Int
 X:Int
 Y:Int
 Z:Int
def qb8.rep:Rep where
 T:=qb8
 cells x:=[(.int .u8 x.What),(.int .i64 x.Image),(.int .i64 x.Place),(.int .i64 x.X),(.int .i64 x.Y),(.int .i64 x.Z)]
 get l:=match l with
  | [.int .u8 v1,.int .i64 v2,.int .i64 v3,.int .i64 v4,.int .i64 v5,.int .i64 v6]=>some ⟨v1,v2,v3,v4,v5,v6⟩
  | _=>none
 ok l c h:=by
  split at h
  ·injection h with h;subst h;rfl
  ·cases h
structure qag where
 Image:Int
 Id:Int
 Alt:Bool
 Line:Int
 Col:Int
 Rows:Int
 Cols:Int
 X:Int
 Y:Int
 W:Int
 H:Int
 DX:Int
 DY:Int
 Z:Int
def qag.rep:Rep where
 T:=qag
 cells x:=[(.int .i64 x.Image),(.int .i64 x.Id),(.bool x.Alt),(.int .i64 x.Line),(.int .i64 x.Col),(.int .i64 x.Rows),(.int .i64 x.Cols),(.int .i64 x.X),(.int .i64 x.Y),(.int .i64 x.W),(.int .i64 x.H),(.int .i64 x.DX),(.int .i64 x.DY),(.int .i64 x.Z)]
 get l:=match l with
  | [.int .i64 v1,.int .i64 v2,.bool v3,.int .i64 v4,.int .i64 v5,.int .i64 v6,.int .i64 v7,.int .i64 v8,.int .i64 v9,.int .i64 v10,.int .i64 v11,.int .i64 v12,.int .i64 v13,.int .i64 v14]=>some ⟨v1,v2,v3,v4,v5,v6,v7,v8,v9,v10,v11,v12,v13,v14⟩
  | _=>none
 ok l c h:=by
  split at h
  ·injection h with h;subst h;rfl
  ·cases h
structure qee where
 quota:Int
 reserved:Int
 used:Int
 clock:Int
 l:Option Nat
def qee.rep:Rep where
 T:=qee
 cells x:=[(.int .i64 x.quota),(.int .i64 x.reserved),(.int .i64 x.used),(.int .i64 x.clock),(.map x.l)]
 get l:=match l with
  | [.int .i64 v1,.int .i64 v2,.int .i64 v3,.int .i64 v4,.map v5]=>some ⟨v1,v2,v3,v4,v5⟩
  | _=>none
 ok l c h:=by
  split at h
  ·injection h with h;subst h;rfl
  ·cases h
structure qrv where
 l:Slc
def qrv.rep:Rep where
 T:=qrv
 cells x:=[(.slice x.l.a x.l.n x.l.c)]
 get l:=match l with
  | [.slice v1a v1n v1c]=>some ⟨⟨v1a,v1n,v1c⟩⟩
  | _=>none
 ok l c h:=by
  split at h
  ·injection h with h;subst h;rfl
  ·cases h
structure qap where
 number:Int
 m:qab
 stamp:Int
 born:Int
def qap.rep:Rep where
 T:=qap
 cells x:=[(.int .i64 x.number),(.int .i64 x.m.W),(.int .i64 x.m.H),(.slice x.m.P.a x.m.P.n x.m.P.c),(.int .i64 x.stamp),(.int .i64 x.born)]
 get l:=match l with
  | [.int .i64 v1,.int .i64 v2,.int .i64 v3,.slice v4a v4n v4c,.int .i64 v5,.int .i64 v6]=>some ⟨v1,⟨v2,v3,⟨v4a,v4n,v4c⟩⟩,v5,v6⟩
  | _=>none
 ok l c h:=by
  split at h
  ·injection h with h;subst h;rfl
  ·cases h
structure qrk where
 Decoder:Option Addr
 k:qaa
 most:Int
 need:Int
 pieces:Slc
 held:Int
 failed:Int
 over:Bool
def qrk.rep:Rep where
 T:=qrk
 cells x:=[(.pointer x.Decoder),(.int .u8 x.k.Action),(.int .u8 x.k.Medium),(.int .u8 x.k.Zip),(.int .u8 x.k.What),(.int .i64 x.k.Quiet),(.int .i64 x.k.Format),(.int .i64 x.k.W),(.int .i64 x.k.H),(.int .i64 x.k.Id),(.int .i64 x.k.Number),(.int .i64 x.k.Place),(.int .i64 x.k.More),(.int .i64 x.k.X),(.int .i64 x.k.Y),(.int .i64 x.k.PW),(.int .i64 x.k.PH),(.int .i64 x.k.DX),(.int .i64 x.k.DY),(.int .i64 x.k.Rows),(.int .i64 x.k.Cols),(.int .i64 x.k.Z),(.int .i64 x.k.Stay),(.int .i64 x.most),(.int .i64 x.need),(.slice x.pieces.a x.pieces.n x.pieces.c),(.int .i64 x.held),(.int .i64 x.failed),(.bool x.over)]
 get l:=match l with
  | [.pointer v1,.int .u8 v2,.int .u8 v3,.int .u8 v4,.int .u8 v5,.int .i64 v6,.int .i64 v7,.int .i64 v8,.int .i64 v9,.int .i64 v10,.int .i64 v11,.int .i64 v12,.int .i64 v13,.int .i64 v14,.int .i64 v15,.int .i64 v16,.int .i64 v17,.int .i64 v18,.int .i64 v19,.int .i64 v20,.int .i64 v21,.int .i64 v22,.int .i64 v23,.int .i64 v24,.int .i64 v25,.slice v26a v26n v26c,.int .i64 v27,.int .i64 v28,.bool v29]=>some ⟨v1,⟨v2,v3,v4,v5,v6,v7,v8,v9,v10,v11,v12,v13,v14,v15,v16,v17,v18,v19,v20,v21,v22,v23⟩,v24,v25,⟨v26a,v26n,v26c⟩,v27,v28,v29⟩
  | _=>none
 ok l c h:=by
  split at h
  ·injection h with h;subst h;rfl
  ·cases h
structure qbg where
 key:ByteArray
 n:Int
def qbg.rep:Rep where
 T:=qbg
 cells x:=[(.string x.key),(.int .i64 x.n)]
 get l:=match l with
  | [.string v1,.int .i64 v2]=>some ⟨v1,v2⟩
  | _=>none
 ok l c h:=by
  split at h
  ·injection h with h;subst h;rfl
  ·cases h
structure qmc where
 v:Int
 n:Int
 fill:Int
 over:Bool
 bad:Bool
def qmc.rep:Rep where
 T:=qmc
 cells x:=[(.int .u32 x.v),(.int .i64 x.n),(.int .i64 x.fill),(.bool x.over),(.bool x.bad)]
 get l:=match l with
  | [.int .u32 v1,.int .i64 v2,.int .i64 v3,.bool v4,.bool v5]=>some ⟨v1,v2,v3,v4,v5⟩
  | _=>none
 ok l c h:=by
  split at h
  ·injection h with h;subst h;rfl
  ·cases h
structure qk5 where
 addr:Option Addr
 buf:Slc
def qk5.rep:Rep where
 T:=qk5
 cells x:=[(.pointer x.addr),(.slice x.buf.a x.buf.n x.buf.c)]
 get l:=match l with
  | [.pointer v1,.slice v2a v2n v2c]=>some ⟨v1,⟨v2a,v2n,v2c⟩⟩
  | _=>none
 ok l c h:=by
  split at h
  ·injection h with h;subst h;rfl
  ·cases h
structure qah where
 W:Int
 H:Int
 Depth:Int
 Color:Int
 Lace:Int
def qah.rep:Rep where
 T:=qah
 cells x:=[(.int .i64 x.W),(.int .i64 x.H),(.int .i64 x.Depth),(.int .i64 x.Color),(.int .i64 x.Lace)]
 get l:=match l with
  | [.int .i64 v1,.int .i64 v2,.int .i64 v3,.int .i64 v4,.int .i64 v5]=>some ⟨v1,v2,v3,v4,v5⟩
  | _=>none
 ok l c h:=by
  split at h
  ·injection h with h;subst h;rfl
  ·cases h
structure qjc where
 lo:Int
 hi:Int
def qjc.rep:Rep where
 T:=qjc
 cells x:=[(.int .u8 x.lo),(.int .u8 x.hi)]
 get l:=match l with
  | [.int .u8 v1,.int .u8 v2]=>some ⟨v1,v2⟩
  | _=>none
 ok l c h:=by
  split at h
  ·injection h with h;subst h;rfl
  ·cases h
structure qpq where
 Decoder:Option Addr
 head:Slc
 tail:Slc
 sum:Value
 over:Int
 failed:Int
def qpq.rep:Rep where
 T:=qpq
 cells x:=[(.pointer x.Decoder),(.slice x.head.a x.head.n x.head.c),(.slice x.tail.a x.tail.n x.tail.c),x.sum,(.int .i64 x.over),(.int .i64 x.failed)]
 get l:=match l with
  | [.pointer v1,.slice v2a v2n v2c,.slice v3a v3n v3c,v4,.int .i64 v5,.int .i64 v6]=>some ⟨v1,⟨v2a,v2n,v2c⟩,⟨v3a,v3n,v3c⟩,v4,v5,v6⟩
  | _=>none
 ok l c h:=by
  split at h
  ·injection h with h;subst h;rfl
  ·cases h
structure qam where
 Kind:ByteArray
 Data:Slc
def qam.rep:Rep where
 T:=qam
 cells x:=[(.string x.Kind),(.slice x.Data.a x.Data.n x.Data.c)]
 get l:=match l with
  | [.string v1,.slice v2a v2n v2c]=>some ⟨v1,⟨v2a,v2n,v2c⟩⟩
  | _=>none
 ok l c h:=by
  split at h
  ·injection h with h;subst h;rfl
  ·cases h
structure qd3 where
 Head:qah
 palette:Slc
 trans:Slc
 hasPalette:Bool
 hasTr:Bool
 data:Slc
 hasData:Bool
 wasData:Bool
def qd3.rep:Rep where
 T:=qd3
 cells x:=[(.int .i64 x.Head.W),(.int .i64 x.Head.H),(.int .i64 x.Head.Depth),(.int .i64 x.Head.Color),(.int .i64 x.Head.Lace),(.slice x.palette.a x.palette.n x.palette.c),(.slice x.trans.a x.trans.n x.trans.c),(.bool x.hasPalette),(.bool x.hasTr),(.slice x.data.a x.data.n x.data.c),(.bool x.hasData),(.bool x.wasData)]
 get l:=match l with
  | [.int .i64 v1,.int .i64 v2,.int .i64 v3,.int .i64 v4,.int .i64 v5,.slice v6a v6n v6c,.slice v7a v7n v7c,.bool v8,.bool v9,.slice v10a v10n v10c,.bool v11,.bool v12]=>some ⟨⟨v1,v2,v3,v4,v5⟩,⟨v6a,v6n,v6c⟩,⟨v7a,v7n,v7c⟩,v8,v9,⟨v10a,v10n,v10c⟩,v11,v12⟩
  | _=>none
 ok l c h:=by
  split at h
  ·injection h with h;subst h;rfl
  ·cases h
structure qk6 where
 most:Int
 state:Int
 last:Bool
 wait:Slc
 skip:Int
 left:Int
 signs:Option Addr
 dists:Option Addr
 ring:Slc
 total:Int
 told:Int
 took:Int
 given:Int
 failed:Int
 out:Slc
def qk6.rep:Rep where
 T:=qk6
 cells x:=[(.int .i64 x.most),(.int .i64 x.state),(.bool x.last),(.slice x.wait.a x.wait.n x.wait.c),(.int .i64 x.skip),(.int .i64 x.left),(.pointer x.signs),(.pointer x.dists),(.slice x.ring.a x.ring.n x.ring.c),(.int .i64 x.total),(.int .i64 x.told),(.int .i64 x.took),(.int .i64 x.given),(.int .i64 x.failed),(.slice x.out.a x.out.n x.out.c)]
 get l:=match l with
  | [.int .i64 v1,.int .i64 v2,.bool v3,.slice v4a v4n v4c,.int .i64 v5,.int .i64 v6,.pointer v7,.pointer v8,.slice v9a v9n v9c,.int .i64 v10,.int .i64 v11,.int .i64 v12,.int .i64 v13,.int .i64 v14,.slice v15a v15n v15c]=>some ⟨v1,v2,v3,⟨v4a,v4n,v4c⟩,v5,v6,v7,v8,⟨v9a,v9n,v9c⟩,v10,v11,v12,v13,v14,⟨v15a,v15n,v15c⟩⟩
  | _=>none
 ok l c h:=by
  split at h
  ·injection h with h;subst h;rfl
  ·cases h
structure qtv where
 a:Int
 b:Int
def qtv.rep:Rep where
 T:=qtv
 cells x:=[(.int .u32 x.a),(.int .u32 x.b)]
 get l:=match l with
  | [.int .u32 v1,.int .u32 v2]=>some ⟨v1,v2⟩
  | _=>none
 ok l c h:=by
  split at h
  ·injection h with h;subst h;rfl
  ·cases h
structure qaz where
 X:Int
 Y:Int
 DX:Int
 DY:Int
def qaz.rep:Rep where
 T:=qaz
 cells x:=[(.int .i64 x.X),(.int .i64 x.Y),(.int .i64 x.DX),(.int .i64 x.DY)]
 get l:=match l with
  | [.int .i64 v1,.int .i64 v2,.int .i64 v3,.int .i64 v4]=>some ⟨v1,v2,v3,v4⟩
  | _=>none
 ok l c h:=by
  split at h
  ·injection h with h;subst h;rfl
  ·cases h
structure qan where
 e0:Int
 e1:Int
 e2:Int
 e3:Int
def qan.rep:Rep where
 T:=qan
 cells x:=[(.int .u8 x.e0),(.int .u8 x.e1),(.int .u8 x.e2),(.int .u8 x.e3)]
 get l:=match l with
  | [.int .u8 v1,.int .u8 v2,.int .u8 v3,.int .u8 v4]=>some ⟨v1,v2,v3,v4⟩
  | _=>none
 ok l c h:=by
  split at h
  ·injection h with h;subst h;rfl
  ·cases h
structure qe9 where
 b:Slc
 at_:Int
def qe9.rep:Rep where
 T:=qe9
 cells x:=[(.slice x.b.a x.b.n x.b.c),(.int .i64 x.at_)]
 get l:=match l with
  | [.slice v1a v1n v1c,.int .i64 v2]=>some ⟨⟨v1a,v1n,v1c⟩,v2⟩
  | _=>none
 ok l c h:=by
  split at h
  ·injection h with h;subst h;rfl
  ·cases h
structure q4f where
 e0:Int
 e1:Int
 e2:Int
 e3:Int
 e4:Int
 e5:Int
 e6:Int
 e7:Int
 e8:Int
 e9:Int
 e10:Int
 e11:Int
 e12:Int
 e13:Int
 e14:Int
 e15:Int
 e16:Int
 e17:Int
 e18:Int
def q4f.rep:Rep where
 T:=q4f
 cells x:=[(.int .i64 x.e0),(.int .i64 x.e1),(.int .i64 x.e2),(.int .i64 x.e3),(.int .i64 x.e4),(.int .i64 x.e5),(.int .i64 x.e6),(.int .i64 x.e7),(.int .i64 x.e8),(.int .i64 x.e9),(.int .i64 x.e10),(.int .i64 x.e11),(.int .i64 x.e12),(.int .i64 x.e13),(.int .i64 x.e14),(.int .i64 x.e15),(.int .i64 x.e16),(.int .i64 x.e17),(.int .i64 x.e18)]
 get l:=match l with
  | [.int .i64 v1,.int .i64 v2,.int .i64 v3,.int .i64 v4,.int .i64 v5,.int .i64 v6,.int .i64 v7,.int .i64 v8,.int .i64 v9,.int .i64 v10,.int .i64 v11,.int .i64 v12,.int .i64 v13,.int .i64 v14,.int .i64 v15,.int .i64 v16,.int .i64 v17,.int .i64 v18,.int .i64 v19]=>some ⟨v1,v2,v3,v4,v5,v6,v7,v8,v9,v10,v11,v12,v13,v14,v15,v16,v17,v18,v19⟩
  | _=>none
 ok l c h:=by
  split at h
  ·injection h with h;subst h;rfl
  ·cases h
structure qze where
 e0:Int
 e1:Int
 e2:Int
 e3:Int
 e4:Int
 e5:Int
 e6:Int
 e7:Int
 e8:Int
 e9:Int
 e10:Int
 e11:Int
 e12:Int
 e13:Int
 e14:Int
 e15:Int
def qze.rep:Rep where
 T:=qze
 cells x:=[(.int .i64 x.e0),(.int .i64 x.e1),(.int .i64 x.e2),(.int .i64 x.e3),(.int .i64 x.e4),(.int .i64 x.e5),(.int .i64 x.e6),(.int .i64 x.e7),(.int .i64 x.e8),(.int .i64 x.e9),(.int .i64 x.e10),(.int .i64 x.e11),(.int .i64 x.e12),(.int .i64 x.e13),(.int .i64 x.e14),(.int .i64 x.e15)]
 get l:=match l with
  | [.int .i64 v1,.int .i64 v2,.int .i64 v3,.int .i64 v4,.int .i64 v5,.int .i64 v6,.int .i64 v7,.int .i64 v8,.int .i64 v9,.int .i64 v10,.int .i64 v11,.int .i64 v12,.int .i64 v13,.int .i64 v14,.int .i64 v15,.int .i64 v16]=>some ⟨v1,v2,v3,v4,v5,v6,v7,v8,v9,v10,v11,v12,v13,v14,v15,v16⟩
  | _=>none
 ok l c h:=by
  split at h
  ·injection h with h;subst h;rfl
  ·cases h
structure qtm where
 count:qze
 sorted:Slc
 codes:Slc
 lengths:Slc
 last:Int
def qtm.rep:Rep where
 T:=qtm
 cells x:=[(.int .i64 x.count.e0),(.int .i64 x.count.e1),(.int .i64 x.count.e2),(.int .i64 x.count.e3),(.int .i64 x.count.e4),(.int .i64 x.count.e5),(.int .i64 x.count.e6),(.int .i64 x.count.e7),(.int .i64 x.count.e8),(.int .i64 x.count.e9),(.int .i64 x.count.e10),(.int .i64 x.count.e11),(.int .i64 x.count.e12),(.int .i64 x.count.e13),(.int .i64 x.count.e14),(.int .i64 x.count.e15),(.slice x.sorted.a x.sorted.n x.sorted.c),(.slice x.codes.a x.codes.n x.codes.c),(.slice x.lengths.a x.lengths.n x.lengths.c),(.int .i64 x.last)]
 get l:=match l with
  | [.int .i64 v1,.int .i64 v2,.int .i64 v3,.int .i64 v4,.int .i64 v5,.int .i64 v6,.int .i64 v7,.int .i64 v8,.int .i64 v9,.int .i64 v10,.int .i64 v11,.int .i64 v12,.int .i64 v13,.int .i64 v14,.int .i64 v15,.int .i64 v16,.slice v17a v17n v17c,.slice v18a v18n v18c,.slice v19a v19n v19c,.int .i64 v20]=>some ⟨⟨v1,v2,v3,v4,v5,v6,v7,v8,v9,v10,v11,v12,v13,v14,v15,v16⟩,⟨v17a,v17n,v17c⟩,⟨v18a,v18n,v18c⟩,⟨v19a,v19n,v19c⟩,v20⟩
  | _=>none
 ok l c h:=by
  split at h
  ·injection h with h;subst h;rfl
  ·cases h
structure qyu where
 v:Int
def qyu.rep:Rep where
 T:=qyu
 cells x:=[(.int .u32 x.v)]
 get l:=match l with
  | [.int .u32 v1]=>some ⟨v1⟩
  | _=>none
 ok l c h:=by
  split at h
  ·injection h with h;subst h;rfl
  ·cases h
structure qv1 where
 e0:Int
 e1:Int
 e2:Int
 e3:Int
 e4:Int
 e5:Int
 e6:Int
 e7:Int
 e8:Int
 e9:Int
 e10:Int
 e11:Int
 e12:Int
 e13:Int
 e14:Int
 e15:Int
def qv1.rep:Rep where
 T:=qv1
 cells x:=[(.int .u32 x.e0),(.int .u32 x.e1),(.int .u32 x.e2),(.int .u32 x.e3),(.int .u32 x.e4),(.int .u32 x.e5),(.int .u32 x.e6),(.int .u32 x.e7),(.int .u32 x.e8),(.int .u32 x.e9),(.int .u32 x.e10),(.int .u32 x.e11),(.int .u32 x.e12),(.int .u32 x.e13),(.int .u32 x.e14),(.int .u32 x.e15)]
 get l:=match l with
  | [.int .u32 v1,.int .u32 v2,.int .u32 v3,.int .u32 v4,.int .u32 v5,.int .u32 v6,.int .u32 v7,.int .u32 v8,.int .u32 v9,.int .u32 v10,.int .u32 v11,.int .u32 v12,.int .u32 v13,.int .u32 v14,.int .u32 v15,.int .u32 v16]=>some ⟨v1,v2,v3,v4,v5,v6,v7,v8,v9,v10,v11,v12,v13,v14,v15,v16⟩
  | _=>none
 ok l c h:=by
  split at h
  ·injection h with h;subst h;rfl
  ·cases h
noncomputable abbrev PG:Program:=Tryz.prog
abbrev q2n:TypeId:=0
abbrev zbc:TypeId:=2
abbrev qa7:TypeId:=3
abbrev zdc:TypeId:=4
abbrev qaw:TypeId:=5
abbrev qbm:TypeId:=9
abbrev za9:TypeId:=20
abbrev qrj:TypeId:=28
abbrev qbb:TypeId:=30
abbrev qaf:TypeId:=37
abbrev qao:TypeId:=39
abbrev zea:TypeId:=41
abbrev qal:TypeId:=43
abbrev qbl:TypeId:=45
abbrev qbd:TypeId:=49
abbrev qhz:TypeId:=50
abbrev qaq:TypeId:=61
abbrev qav:TypeId:=80
abbrev qbw:TypeId:=82
abbrev qcg:TypeId:=93
abbrev qas:TypeId:=98
abbrev qcj:TypeId:=100
abbrev qbr:TypeId:=102
abbrev qey:TypeId:=119
abbrev qhi:TypeId:=127
abbrev qka:TypeId:=146
abbrev qci:TypeId:=148
abbrev zes:TypeId:=153
abbrev zjn:TypeId:=156
abbrev qco:TypeId:=168
abbrev zhb:TypeId:=189
abbrev qk2:TypeId:=191
abbrev qrp:TypeId:=242
abbrev qbn:TypeId:=246
abbrev qlz:TypeId:=248
abbrev qe4:TypeId:=266
abbrev qbq:TypeId:=271
abbrev qdy:TypeId:=277
abbrev qc1:TypeId:=283
abbrev qbs:TypeId:=287
abbrev qa2:TypeId:=292
abbrev qbe:TypeId:=300
abbrev qb7:TypeId:=302
abbrev qpc:TypeId:=319
abbrev q1e:TypeId:=331
abbrev qgb:TypeId:=336
abbrev qjf:TypeId:=340
abbrev qbx:TypeId:=343
abbrev qc8:TypeId:=347
abbrev qhf:TypeId:=362
abbrev qnw:Nat:=50
abbrev qj7:Nat:=72
abbrev qko:Nat:=90
abbrev qlh:Nat:=92
abbrev qkl:Nat:=107
abbrev qmw:Nat:=116
abbrev qm5:Nat:=119
abbrev qnj:Nat:=122
abbrev q23:Nat:=171
abbrev q4b:Nat:=173
abbrev q1r:Nat:=218
abbrev qh5:Nat:=221
abbrev q6a:Nat:=235
abbrev q39:Nat:=279
abbrev gl_0:Nat:=0
def reg (t:TypeId):Option Rep:=match t with
 | 28=>some qbv.rep
 | 63=>some qbv.rep
 | 30=>some qae.rep
 | 43=>some qac.rep
 | 39=>some qab.rep
 | 41=>some qct.rep
 | 80=>some qaa.rep
 | 82=>some qpj.rep
 | 55=>some qb8.rep
 | 127=>some qb8.rep
 | 58=>some qag.rep
 | 61=>some qag.rep
 | 102=>some qee.rep
 | 93=>some qrv.rep
 | 100=>some qap.rep
 | 148=>some qrk.rep
 | 168=>some qbg.rep
 | 191=>some qmc.rep
 | 202=>some qk5.rep
 | 246=>some qah.rep
 | 260=>some qjc.rep
 | 271=>some qpq.rep
 | 283=>some qam.rep
 | 248=>some qd3.rep
 | 300=>some qk6.rep
 | 302=>some qtv.rep
 | 287=>some qaz.rep
 | 292=>some qan.rep
 | 319=>some qe9.rep
 | 331=>some q4f.rep
 | 341=>some qze.rep
 | 343=>some qtm.rep
 | 347=>some qyu.rep
 | 362=>some qv1.rep
 | _=>none
def zbt:List Nat:=[2,3,4,5,6,7,8,9,10,11,12,13,14,15,16,17,18,19,20,21,22,23,24,25,26,27,28,29,30,31,32,33,34,35,36,37,38,39,40,41,42,43,44,45,46,47,48,49,50,51,52,53,54,55,56,57,58,59,60,61,62,63,64,65,66,67,68,69,70,71,72,73,74,75,76,77,78,79,80,81,82,83,84,85,86,87,88,89,90,91,92,93,94,95,96,97,98,99,100,101,102,103,104,105,106,107,108,109,110,112,113,114,115,116,117,118,119,120,121,122,123,124,126,127,128,129,130,131,132,133,134,135,136,137,138,139,140,141,142,143,144,145,146,147,148,149,150,151,152,153,154,155,156,157,159,160,161,163,164,165,166,167,168,169,170,171,172,173,174,175,176,177,178,179,180,181,182,183,185,186,188,189,190,191,192,193,194,195,196,197,198,199,202,203,204,205,206,207,208,209,210,211,212,213,214,215,216,217,218,219,220,221,222,223,224,225,226,227,228,229,230,231,232,233,234,235,236,237,238,239,240,241,242,243,244,245,246,247,248,249,250,251,252,253,254,255,256,257,258,259,260,261,262,263,264,265,266,267,268,269,270,271,272,273,274,275,276,277,278,279,280,281,300,302,303,304,305,306,315]
noncomputable def C:Cx:={ P:=Tryz.prog,reg:=reg,plain:=fun n=>zbt.elem n }
theorem C.plain_ok (g:Nat) (h:C.plain g=true):qfs C.P g=true:=by
 have h':g∈zbt:=by simpa [C] using h
 have:zbt.all (fun g=>qfs Tryz.prog g)=true:=by kernel_rfl
 exact List.all_eq_true.1 this g h'
theorem C.mixed:C.P.follows .mixedOrders=true:=by kernel_rfl
theorem fnOf {f:FuncId} {fn:Func} {n:List Ann} {ks:List Kind} {a:List Value} {w:World} {Q:DenL ks->World->Prop} {sh:Prop} {X:Ending->World->Prop} (hf:C.P.funcs[f]?=some fn) (hb:fn.body=some (fn.body.getD .skip)) (h:sh)
  (e:vcFn C (fn.body.getD .skip) fn.results.toList fn.ntmps n ks a w Q=sh) (m:∀s w',Q s w'->X (.returned (tup (encL ks s))) w'):Calls C.P f a.toArray w X:=by
 rw [<-e] at h;refine Calls.mono (cvc C.plain_ok C.mixed hf hb h) ?_;rintro e w' ⟨s,rfl,hK⟩;exact m s w' hK
def qub (wx:Int) (hx:Int) (dx:Int) (dy:Int) (cw:Int) (ch:Int) (w:World) (K:Bool->World->Prop):Prop :=Calls PG 3 #[(.int .i64 wx),(.int .i64 hx),(.int .i64 dx),(.int .i64 dy),(.int .i64 cw),(.int .i64 ch)] w fun e w'=>∃r0:Bool,e=.returned (.bool r0)/\K r0 w'
def qr1 (quota:Int) (l:Slc) (w:World) (K:Bool->World->Prop):Prop :=Calls PG 6 #[(.int .i64 quota),(.slice l.a l.n l.c)] w fun e w'=>∃r0:Bool,e=.returned (.bool r0)/\K r0 w'
def qp5  (w:World) (K:Bool->World->Prop):Prop :=Calls PG 7 #[] w fun e w'=>∃r0:Bool,e=.returned (.bool r0)/\K r0 w'
def ql1 (wx:Int) (hx:Int) (dx:Int) (dy:Int) (cw:Int) (ch:Int) (w:World) (K:Int->Int->World->Prop):Prop :=Calls PG 8 #[(.int .i64 wx),(.int .i64 hx),(.int .i64 dx),(.int .i64 dy),(.int .i64 cw),(.int .i64 ch)] w fun e w'=>∃r0:Int,∃r1:Int,e=.returned (.tuple #[(.int .i64 r0),(.int .i64 r1)])/\K r0 r1 w'
def qwg (wx:Int) (hx:Int) (dx:Int) (dy:Int) (cw:Int) (ch:Int) (w:World) (K:Int->Int->World->Prop):Prop :=Calls PG 9 #[(.int .i64 wx),(.int .i64 hx),(.int .i64 dx),(.int .i64 dy),(.int .i64 cw),(.int .i64 ch)] w fun e w'=>∃r0:Int,∃r1:Int,e=.returned (.tuple #[(.int .i64 r0),(.int .i64 r1)])/\K r0 r1 w'
def q03 (l:Slc) (w:World) (K:Bool->World->Prop):Prop :=Calls PG 10 #[(.slice l.a l.n l.c)] w fun e w'=>∃r0:Bool,e=.returned (.bool r0)/\K r0 w'
def qp9 (v:qae) (w:World) (K:Bool->World->Prop):Prop :=Calls PG 11 #[(.agg #[(.bool v.View.Alt),(.int .i64 v.View.Top),(.int .i64 v.View.Rows),(.int .i64 v.View.Cols),(.int .i64 v.View.Row),(.int .i64 v.View.Col),(.int .i64 v.CellW),(.int .i64 v.CellH)])] w fun e w'=>∃r0:Bool,e=.returned (.bool r0)/\K r0 w'
def qp4 (quota:Int) (w:World) (K:Option Addr->Int->World->Prop):Prop :=Calls PG 12 #[(.int .i64 quota)] w fun e w'=>∃r0:Option Addr,∃r1:Int,e=.returned (.tuple #[(.pointer r0),(.int .i64 r1)])/\K r0 r1 w'
def qfa (e:Option Addr) (command:Slc) (v:qae) (w:World) (K:qac->World->Prop):Prop :=Calls PG 13 #[(.pointer e),(.slice command.a command.n command.c),(.agg #[(.bool v.View.Alt),(.int .i64 v.View.Top),(.int .i64 v.View.Rows),(.int .i64 v.View.Cols),(.int .i64 v.View.Row),(.int .i64 v.View.Col),(.int .i64 v.CellW),(.int .i64 v.CellH)])] w fun e w'=>∃r0:qac,e=.returned (.agg #[(.slice r0.Reply.a r0.Reply.n r0.Reply.c),(.int .i64 r0.Rows),(.int .i64 r0.Cols),(.bool r0.Moves)])/\K r0 w'
def qe7 (e:Option Addr) (w:World) (K:Option Addr->World->Prop):Prop :=Calls PG 14 #[(.pointer e)] w fun e w'=>∃r0:Option Addr,e=.returned (.pointer r0)/\K r0 w'
def qg2 (t:Option Addr) (w:World) (K:Slc->World->Prop):Prop :=Calls PG 15 #[(.pointer t)] w fun e w'=>∃r0:Slc,e=.returned (.slice r0.a r0.n r0.c)/\K r0 w'
def qd0 (e:Option Addr) (w:World) (K:Option Addr->World->Prop):Prop :=Calls PG 16 #[(.pointer e)] w fun e w'=>∃r0:Option Addr,e=.returned (.pointer r0)/\K r0 w'
def qfe (s:Option Addr) (w:World) (K:Slc->World->Prop):Prop :=Calls PG 17 #[(.pointer s)] w fun e w'=>∃r0:Slc,e=.returned (.slice r0.a r0.n r0.c)/\K r0 w'
def qfd (s:Option Addr) (id:Int) (w:World) (K:qab->Bool->World->Prop):Prop :=Calls PG 22 #[(.pointer s),(.int .i64 id)] w fun e w'=>∃r0:qab,∃r1:Bool,e=.returned (.tuple #[(.agg #[(.int .i64 r0.W),(.int .i64 r0.H),(.slice r0.P.a r0.P.n r0.P.c)]),(.bool r1)])/\K r0 r1 w'
def qk9 (t:Option Addr) (image:Int) (w:World) (K:Bool->World->Prop):Prop :=Calls PG 23 #[(.pointer t),(.int .i64 image)] w fun e w'=>∃r0:Bool,e=.returned (.bool r0)/\K r0 w'
def qhp (e:Option Addr) (m:qab) (v:qae) (w:World) (K:qac->World->Prop):Prop :=Calls PG 24 #[(.pointer e),(.agg #[(.int .i64 m.W),(.int .i64 m.H),(.slice m.P.a m.P.n m.P.c)]),(.agg #[(.bool v.View.Alt),(.int .i64 v.View.Top),(.int .i64 v.View.Rows),(.int .i64 v.View.Cols),(.int .i64 v.View.Row),(.int .i64 v.View.Col),(.int .i64 v.CellW),(.int .i64 v.CellH)])] w fun e w'=>∃r0:qac,e=.returned (.agg #[(.slice r0.Reply.a r0.Reply.n r0.Reply.c),(.int .i64 r0.Rows),(.int .i64 r0.Cols),(.bool r0.Moves)])/\K r0 w'
def qhw (e:Option Addr) (alt:Bool) (first:Int) (w:World) (K:World->Prop):Prop :=Calls PG 25 #[(.pointer e),(.bool alt),(.int .i64 first)] w fun e w'=>e=.returned (.tuple #[])/\K w'
def qgq (s:Option Addr) (w:World) (K:Int->World->Prop):Prop :=Calls PG 26 #[(.pointer s)] w fun e w'=>∃r0:Int,e=.returned (.int .i64 r0)/\K r0 w'
def qej (e:Option Addr) (w:World) (K:Int->World->Prop):Prop :=Calls PG 27 #[(.pointer e)] w fun e w'=>∃r0:Int,e=.returned (.int .i64 r0)/\K r0 w'
def qcw (v:Int) (lo:Int) (hi:Int) (w:World) (K:Bool->World->Prop):Prop :=Calls PG 28 #[(.int .i64 v),(.int .i64 lo),(.int .i64 hi)] w fun e w'=>∃r0:Bool,e=.returned (.bool r0)/\K r0 w'
def ql3 (n:Int) (more:Int) (size:Int) (w:World) (K:Int->World->Prop):Prop :=Calls PG 29 #[(.int .i64 n),(.int .i64 more),(.int .i64 size)] w fun e w'=>∃r0:Int,e=.returned (.int .i64 r0)/\K r0 w'
def qvr (quota:Int) (w:World) (K:Option Addr->Int->World->Prop):Prop :=Calls PG 30 #[(.int .i64 quota)] w fun e w'=>∃r0:Option Addr,∃r1:Int,e=.returned (.tuple #[(.pointer r0),(.int .i64 r1)])/\K r0 r1 w'
def q3c  (w:World) (K:Option Addr->World->Prop):Prop :=Calls PG 31 #[] w fun e w'=>∃r0:Option Addr,e=.returned (.pointer r0)/\K r0 w'
def qtx (b:Slc) (w:World) (K:Slc->Slc->World->Prop):Prop :=Calls PG 32 #[(.slice b.a b.n b.c)] w fun e w'=>∃r0:Slc,∃r1:Slc,e=.returned (.tuple #[(.slice r0.a r0.n r0.c),(.slice r1.a r1.n r1.c)])/\K r0 r1 w'
def qt5 (b:Slc) (w:World) (K:qaa->Int->World->Prop):Prop :=Calls PG 33 #[(.slice b.a b.n b.c)] w fun e w'=>∃r0:qaa,∃r1:Int,e=.returned (.tuple #[(.agg #[(.int .u8 r0.Action),(.int .u8 r0.Medium),(.int .u8 r0.Zip),(.int .u8 r0.What),(.int .i64 r0.Quiet),(.int .i64 r0.Format),(.int .i64 r0.W),(.int .i64 r0.H),(.int .i64 r0.Id),(.int .i64 r0.Number),(.int .i64 r0.Place),(.int .i64 r0.More),(.int .i64 r0.X),(.int .i64 r0.Y),(.int .i64 r0.PW),(.int .i64 r0.PH),(.int .i64 r0.DX),(.int .i64 r0.DY),(.int .i64 r0.Rows),(.int .i64 r0.Cols),(.int .i64 r0.Z),(.int .i64 r0.Stay)]),(.int .i64 r1)])/\K r0 r1 w'
def qf5 (e:Option Addr) (k:qaa) (text:Slc) (v:qae) (w:World) (K:qac->World->Prop):Prop :=Calls PG 34 #[(.pointer e),(.agg #[(.int .u8 k.Action),(.int .u8 k.Medium),(.int .u8 k.Zip),(.int .u8 k.What),(.int .i64 k.Quiet),(.int .i64 k.Format),(.int .i64 k.W),(.int .i64 k.H),(.int .i64 k.Id),(.int .i64 k.Number),(.int .i64 k.Place),(.int .i64 k.More),(.int .i64 k.X),(.int .i64 k.Y),(.int .i64 k.PW),(.int .i64 k.PH),(.int .i64 k.DX),(.int .i64 k.DY),(.int .i64 k.Rows),(.int .i64 k.Cols),(.int .i64 k.Z),(.int .i64 k.Stay)]),(.slice text.a text.n text.c),(.agg #[(.bool v.View.Alt),(.int .i64 v.View.Top),(.int .i64 v.View.Rows),(.int .i64 v.View.Cols),(.int .i64 v.View.Row),(.int .i64 v.View.Col),(.int .i64 v.CellW),(.int .i64 v.CellH)])] w fun e w'=>∃r0:qac,e=.returned (.agg #[(.slice r0.Reply.a r0.Reply.n r0.Reply.c),(.int .i64 r0.Rows),(.int .i64 r0.Cols),(.bool r0.Moves)])/\K r0 w'
def qeh (e:Option Addr) (w:World) (K:World->Prop):Prop :=Calls PG 35 #[(.pointer e)] w fun e w'=>e=.returned (.tuple #[])/\K w'
def qh1 (e:Option Addr) (k:qaa) (text:Slc) (v:qae) (w:World) (K:qac->World->Prop):Prop :=Calls PG 36 #[(.pointer e),(.agg #[(.int .u8 k.Action),(.int .u8 k.Medium),(.int .u8 k.Zip),(.int .u8 k.What),(.int .i64 k.Quiet),(.int .i64 k.Format),(.int .i64 k.W),(.int .i64 k.H),(.int .i64 k.Id),(.int .i64 k.Number),(.int .i64 k.Place),(.int .i64 k.More),(.int .i64 k.X),(.int .i64 k.Y),(.int .i64 k.PW),(.int .i64 k.PH),(.int .i64 k.DX),(.int .i64 k.DY),(.int .i64 k.Rows),(.int .i64 k.Cols),(.int .i64 k.Z),(.int .i64 k.Stay)]),(.slice text.a text.n text.c),(.agg #[(.bool v.View.Alt),(.int .i64 v.View.Top),(.int .i64 v.View.Rows),(.int .i64 v.View.Cols),(.int .i64 v.View.Row),(.int .i64 v.View.Col),(.int .i64 v.CellW),(.int .i64 v.CellH)])] w fun e w'=>∃r0:qac,e=.returned (.agg #[(.slice r0.Reply.a r0.Reply.n r0.Reply.c),(.int .i64 r0.Rows),(.int .i64 r0.Cols),(.bool r0.Moves)])/\K r0 w'
def qix (e:Option Addr) (k:qaa) (v:qae) (w:World) (K:qac->World->Prop):Prop :=Calls PG 37 #[(.pointer e),(.agg #[(.int .u8 k.Action),(.int .u8 k.Medium),(.int .u8 k.Zip),(.int .u8 k.What),(.int .i64 k.Quiet),(.int .i64 k.Format),(.int .i64 k.W),(.int .i64 k.H),(.int .i64 k.Id),(.int .i64 k.Number),(.int .i64 k.Place),(.int .i64 k.More),(.int .i64 k.X),(.int .i64 k.Y),(.int .i64 k.PW),(.int .i64 k.PH),(.int .i64 k.DX),(.int .i64 k.DY),(.int .i64 k.Rows),(.int .i64 k.Cols),(.int .i64 k.Z),(.int .i64 k.Stay)]),(.agg #[(.bool v.View.Alt),(.int .i64 v.View.Top),(.int .i64 v.View.Rows),(.int .i64 v.View.Cols),(.int .i64 v.View.Row),(.int .i64 v.View.Col),(.int .i64 v.CellW),(.int .i64 v.CellH)])] w fun e w'=>∃r0:qac,e=.returned (.agg #[(.slice r0.Reply.a r0.Reply.n r0.Reply.c),(.int .i64 r0.Rows),(.int .i64 r0.Cols),(.bool r0.Moves)])/\K r0 w'
def qhj (e:Option Addr) (k:qaa) (v:qae) (w:World) (K:World->Prop):Prop :=Calls PG 38 #[(.pointer e),(.agg #[(.int .u8 k.Action),(.int .u8 k.Medium),(.int .u8 k.Zip),(.int .u8 k.What),(.int .i64 k.Quiet),(.int .i64 k.Format),(.int .i64 k.W),(.int .i64 k.H),(.int .i64 k.Id),(.int .i64 k.Number),(.int .i64 k.Place),(.int .i64 k.More),(.int .i64 k.X),(.int .i64 k.Y),(.int .i64 k.PW),(.int .i64 k.PH),(.int .i64 k.DX),(.int .i64 k.DY),(.int .i64 k.Rows),(.int .i64 k.Cols),(.int .i64 k.Z),(.int .i64 k.Stay)]),(.agg #[(.bool v.View.Alt),(.int .i64 v.View.Top),(.int .i64 v.View.Rows),(.int .i64 v.View.Cols),(.int .i64 v.View.Row),(.int .i64 v.View.Col),(.int .i64 v.CellW),(.int .i64 v.CellH)])] w fun e w'=>e=.returned (.tuple #[])/\K w'
def qbo (e:Option Addr) (k:qaa) (x:Int) (word:ByteArray) (w:World) (K:qac->World->Prop):Prop :=Calls PG 39 #[(.pointer e),(.agg #[(.int .u8 k.Action),(.int .u8 k.Medium),(.int .u8 k.Zip),(.int .u8 k.What),(.int .i64 k.Quiet),(.int .i64 k.Format),(.int .i64 k.W),(.int .i64 k.H),(.int .i64 k.Id),(.int .i64 k.Number),(.int .i64 k.Place),(.int .i64 k.More),(.int .i64 k.X),(.int .i64 k.Y),(.int .i64 k.PW),(.int .i64 k.PH),(.int .i64 k.DX),(.int .i64 k.DY),(.int .i64 k.Rows),(.int .i64 k.Cols),(.int .i64 k.Z),(.int .i64 k.Stay)]),(.int .i64 x),(.string word)] w fun e w'=>∃r0:qac,e=.returned (.agg #[(.slice r0.Reply.a r0.Reply.n r0.Reply.c),(.int .i64 r0.Rows),(.int .i64 r0.Cols),(.bool r0.Moves)])/\K r0 w'
def qqp (t:Option Addr) (w:World) (K:Option Addr->World->Prop):Prop :=Calls PG 40 #[(.pointer t)] w fun e w'=>∃r0:Option Addr,e=.returned (.pointer r0)/\K r0 w'
def qb4 (s:Slc) (w:World) (K:Slc->World->Prop):Prop :=Calls PG 41 #[(.slice s.a s.n s.c)] w fun e w'=>∃r0:Slc,e=.returned (.slice r0.a r0.n r0.c)/\K r0 w'
def qjg (s:Option Addr) (w:World) (K:Option Addr->World->Prop):Prop :=Calls PG 42 #[(.pointer s)] w fun e w'=>∃r0:Option Addr,e=.returned (.pointer r0)/\K r0 w'
def qpb (seq:Value) (w:World) (K:Slc->World->Prop):Prop :=Calls PG 43 #[seq] w fun e w'=>∃r0:Slc,e=.returned (.slice r0.a r0.n r0.c)/\K r0 w'
def qb5 (m:Option Nat) (w:World) (K:Value->World->Prop):Prop :=Calls PG 44 #[(.map m)] w fun e w'=>∃r0:Value,e=.returned r0/\K r0 w'
def qd8 (s:Option Addr) (id:Int) (w:World) (K:qab->Bool->World->Prop):Prop :=Calls PG 47 #[(.pointer s),(.int .i64 id)] w fun e w'=>∃r0:qab,∃r1:Bool,e=.returned (.tuple #[(.agg #[(.int .i64 r0.W),(.int .i64 r0.H),(.slice r0.P.a r0.P.n r0.P.c)]),(.bool r1)])/\K r0 r1 w'
def qax (s:Slc) (w:World) (K:Slc->World->Prop):Prop :=Calls PG 48 #[(.slice s.a s.n s.c)] w fun e w'=>∃r0:Slc,e=.returned (.slice r0.a r0.n r0.c)/\K r0 w'
def qde (s:Slc) (f:Value) (w:World) (K:Bool->World->Prop):Prop :=Calls PG 49 #[(.slice s.a s.n s.c),f] w fun e w'=>∃r0:Bool,e=.returned (.bool r0)/\K r0 w'
def qoq (p:qag) (c0:Addr) (w:World) (K:Bool->World->Prop):Prop :=Calls PG 50 #[(.agg #[(.int .i64 p.Image),(.int .i64 p.Id),(.bool p.Alt),(.int .i64 p.Line),(.int .i64 p.Col),(.int .i64 p.Rows),(.int .i64 p.Cols),(.int .i64 p.X),(.int .i64 p.Y),(.int .i64 p.W),(.int .i64 p.H),(.int .i64 p.DX),(.int .i64 p.DY),(.int .i64 p.Z)]),(.pointer (some c0))] w fun e w'=>∃r0:Bool,e=.returned (.bool r0)/\K r0 w'
def qg3 (s:Option Addr) (id:Int) (number:Int) (m:qab) (w:World) (K:Int->Slc->Int->World->Prop):Prop :=Calls PG 51 #[(.pointer s),(.int .i64 id),(.int .i64 number),(.agg #[(.int .i64 m.W),(.int .i64 m.H),(.slice m.P.a m.P.n m.P.c)])] w fun e w'=>∃r0:Int,∃r1:Slc,∃r2:Int,e=.returned (.tuple #[(.int .i64 r0),(.slice r1.a r1.n r1.c),(.int .i64 r2)])/\K r0 r1 r2 w'
def qem (e:Option Addr) (ids:Slc) (w:World) (K:World->Prop):Prop :=Calls PG 52 #[(.pointer e),(.slice ids.a ids.n ids.c)] w fun e w'=>e=.returned (.tuple #[])/\K w'
def qca (e:Option Addr) (k:qaa) (id:Int) (v:qae) (w:World) (K:qac->Bool->World->Prop):Prop :=Calls PG 53 #[(.pointer e),(.agg #[(.int .u8 k.Action),(.int .u8 k.Medium),(.int .u8 k.Zip),(.int .u8 k.What),(.int .i64 k.Quiet),(.int .i64 k.Format),(.int .i64 k.W),(.int .i64 k.H),(.int .i64 k.Id),(.int .i64 k.Number),(.int .i64 k.Place),(.int .i64 k.More),(.int .i64 k.X),(.int .i64 k.Y),(.int .i64 k.PW),(.int .i64 k.PH),(.int .i64 k.DX),(.int .i64 k.DY),(.int .i64 k.Rows),(.int .i64 k.Cols),(.int .i64 k.Z),(.int .i64 k.Stay)]),(.int .i64 id),(.agg #[(.bool v.View.Alt),(.int .i64 v.View.Top),(.int .i64 v.View.Rows),(.int .i64 v.View.Cols),(.int .i64 v.View.Row),(.int .i64 v.View.Col),(.int .i64 v.CellW),(.int .i64 v.CellH)])] w fun e w'=>∃r0:qac,∃r1:Bool,e=.returned (.tuple #[(.agg #[(.slice r0.Reply.a r0.Reply.n r0.Reply.c),(.int .i64 r0.Rows),(.int .i64 r0.Cols),(.bool r0.Moves)]),(.bool r1)])/\K r0 r1 w'
def qj1  (w:World) (K:qaa->World->Prop):Prop :=Calls PG 54 #[] w fun e w'=>∃r0:qaa,e=.returned (.agg #[(.int .u8 r0.Action),(.int .u8 r0.Medium),(.int .u8 r0.Zip),(.int .u8 r0.What),(.int .i64 r0.Quiet),(.int .i64 r0.Format),(.int .i64 r0.W),(.int .i64 r0.H),(.int .i64 r0.Id),(.int .i64 r0.Number),(.int .i64 r0.Place),(.int .i64 r0.More),(.int .i64 r0.X),(.int .i64 r0.Y),(.int .i64 r0.PW),(.int .i64 r0.PH),(.int .i64 r0.DX),(.int .i64 r0.DY),(.int .i64 r0.Rows),(.int .i64 r0.Cols),(.int .i64 r0.Z),(.int .i64 r0.Stay)])/\K r0 w'
def qcc (e:Option Addr) (n:Int) (w:World) (K:Int->World->Prop):Prop :=Calls PG 55 #[(.pointer e),(.int .i64 n)] w fun e w'=>∃r0:Int,e=.returned (.int .i64 r0)/\K r0 w'
def qhy (e:Option Addr) (l:Slc) (w:World) (K:World->Prop):Prop :=Calls PG 56 #[(.pointer e),(.slice l.a l.n l.c)] w fun e w'=>e=.returned (.tuple #[])/\K w'
def qiz (t:Option Addr) (alt:Bool) (first:Int) (w:World) (K:Slc->World->Prop):Prop :=Calls PG 57 #[(.pointer t),(.bool alt),(.int .i64 first)] w fun e w'=>∃r0:Slc,e=.returned (.slice r0.a r0.n r0.c)/\K r0 w'
def qjo (l:Option Addr) (w:World) (K:Int->World->Prop):Prop :=Calls PG 58 #[(.pointer l)] w fun e w'=>∃r0:Int,e=.returned (.int .i64 r0)/\K r0 w'
def qv8 (s:Slc) (sep:Slc) (w:World) (K:Slc->Slc->Bool->World->Prop):Prop :=Calls PG 59 #[(.slice s.a s.n s.c),(.slice sep.a sep.n sep.c)] w fun e w'=>∃r0:Slc,∃r1:Slc,∃r2:Bool,e=.returned (.tuple #[(.slice r0.a r0.n r0.c),(.slice r1.a r1.n r1.c),(.bool r2)])/\K r0 r1 r2 w'
def qif (b:Slc) (w:World) (K:Slc->World->Prop):Prop :=Calls PG 60 #[(.slice b.a b.n b.c)] w fun e w'=>∃r0:Slc,e=.returned (.slice r0.a r0.n r0.c)/\K r0 w'
def qnu (s:ByteArray) (sep:ByteArray) (w:World) (K:Slc->World->Prop):Prop :=Calls PG 61 #[(.string s),(.string sep)] w fun e w'=>∃r0:Slc,e=.returned (.slice r0.a r0.n r0.c)/\K r0 w'
def qnx (k:Option Addr) (s:ByteArray) (w:World) (K:Bool->World->Prop):Prop :=Calls PG 62 #[(.pointer k),(.string s)] w fun e w'=>∃r0:Bool,e=.returned (.bool r0)/\K r0 w'
def qle (l:Option Addr) (text:Slc) (w:World) (K:Int->World->Prop):Prop :=Calls PG 63 #[(.pointer l),(.slice text.a text.n text.c)] w fun e w'=>∃r0:Int,e=.returned (.int .i64 r0)/\K r0 w'
def qi9 (e:Option Addr) (k:qaa) (v:qae) (w:World) (K:qac->World->Prop):Prop :=Calls PG 64 #[(.pointer e),(.agg #[(.int .u8 k.Action),(.int .u8 k.Medium),(.int .u8 k.Zip),(.int .u8 k.What),(.int .i64 k.Quiet),(.int .i64 k.Format),(.int .i64 k.W),(.int .i64 k.H),(.int .i64 k.Id),(.int .i64 k.Number),(.int .i64 k.Place),(.int .i64 k.More),(.int .i64 k.X),(.int .i64 k.Y),(.int .i64 k.PW),(.int .i64 k.PH),(.int .i64 k.DX),(.int .i64 k.DY),(.int .i64 k.Rows),(.int .i64 k.Cols),(.int .i64 k.Z),(.int .i64 k.Stay)]),(.agg #[(.bool v.View.Alt),(.int .i64 v.View.Top),(.int .i64 v.View.Rows),(.int .i64 v.View.Cols),(.int .i64 v.View.Row),(.int .i64 v.View.Col),(.int .i64 v.CellW),(.int .i64 v.CellH)])] w fun e w'=>∃r0:qac,e=.returned (.agg #[(.slice r0.Reply.a r0.Reply.n r0.Reply.c),(.int .i64 r0.Rows),(.int .i64 r0.Cols),(.bool r0.Moves)])/\K r0 w'
def qe5 (s:Option Addr) (w:World) (K:World->Prop):Prop :=Calls PG 65 #[(.pointer s)] w fun e w'=>e=.returned (.tuple #[])/\K w'
def qye (k:qaa) (room:Int) (w:World) (K:Option Addr->Int->World->Prop):Prop :=Calls PG 66 #[(.agg #[(.int .u8 k.Action),(.int .u8 k.Medium),(.int .u8 k.Zip),(.int .u8 k.What),(.int .i64 k.Quiet),(.int .i64 k.Format),(.int .i64 k.W),(.int .i64 k.H),(.int .i64 k.Id),(.int .i64 k.Number),(.int .i64 k.Place),(.int .i64 k.More),(.int .i64 k.X),(.int .i64 k.Y),(.int .i64 k.PW),(.int .i64 k.PH),(.int .i64 k.DX),(.int .i64 k.DY),(.int .i64 k.Rows),(.int .i64 k.Cols),(.int .i64 k.Z),(.int .i64 k.Stay)]),(.int .i64 room)] w fun e w'=>∃r0:Option Addr,∃r1:Int,e=.returned (.tuple #[(.pointer r0),(.int .i64 r1)])/\K r0 r1 w'
def qh6 (e:Option Addr) (k:qaa) (w:World) (K:Int->Bool->World->Prop):Prop :=Calls PG 67 #[(.pointer e),(.agg #[(.int .u8 k.Action),(.int .u8 k.Medium),(.int .u8 k.Zip),(.int .u8 k.What),(.int .i64 k.Quiet),(.int .i64 k.Format),(.int .i64 k.W),(.int .i64 k.H),(.int .i64 k.Id),(.int .i64 k.Number),(.int .i64 k.Place),(.int .i64 k.More),(.int .i64 k.X),(.int .i64 k.Y),(.int .i64 k.PW),(.int .i64 k.PH),(.int .i64 k.DX),(.int .i64 k.DY),(.int .i64 k.Rows),(.int .i64 k.Cols),(.int .i64 k.Z),(.int .i64 k.Stay)])] w fun e w'=>∃r0:Int,∃r1:Bool,e=.returned (.tuple #[(.int .i64 r0),(.bool r1)])/\K r0 r1 w'
def qla (s:Option Addr) (id:Int) (w:World) (K:Bool->World->Prop):Prop :=Calls PG 68 #[(.pointer s),(.int .i64 id)] w fun e w'=>∃r0:Bool,e=.returned (.bool r0)/\K r0 w'
def qd2 (s:Option Addr) (n:Int) (w:World) (K:Int->Bool->World->Prop):Prop :=Calls PG 69 #[(.pointer s),(.int .i64 n)] w fun e w'=>∃r0:Int,∃r1:Bool,e=.returned (.tuple #[(.int .i64 r0),(.bool r1)])/\K r0 r1 w'
def qh4 (t:Option Addr) (a:qb8) (v:qbv) (w:World) (K:Slc->World->Prop):Prop :=Calls PG 70 #[(.pointer t),(.agg #[(.int .u8 a.What),(.int .i64 a.Image),(.int .i64 a.Place),(.int .i64 a.X),(.int .i64 a.Y),(.int .i64 a.Z)]),(.agg #[(.bool v.Alt),(.int .i64 v.Top),(.int .i64 v.Rows),(.int .i64 v.Cols),(.int .i64 v.Row),(.int .i64 v.Col)])] w fun e w'=>∃r0:Slc,e=.returned (.slice r0.a r0.n r0.c)/\K r0 w'
def qfh (e:Option Addr) (ids:Slc) (goes:Value) (w:World) (K:World->Prop):Prop :=Calls PG 71 #[(.pointer e),(.slice ids.a ids.n ids.c),goes] w fun e w'=>e=.returned (.tuple #[])/\K w'
def qkm (p0:Int) (w:World) (K:Bool->World->Prop):Prop :=Calls PG 72 #[(.int .i64 p0)] w fun e w'=>∃r0:Bool,e=.returned (.bool r0)/\K r0 w'
def q34 (e:Int) (w:World) (K:ByteArray->World->Prop):Prop :=Calls PG 73 #[(.int .i64 e)] w fun e w'=>∃r0:ByteArray,e=.returned (.string r0)/\K r0 w'
def qt3 (k:qaa) (word:ByteArray) (w:World) (K:Slc->World->Prop):Prop :=Calls PG 74 #[(.agg #[(.int .u8 k.Action),(.int .u8 k.Medium),(.int .u8 k.Zip),(.int .u8 k.What),(.int .i64 k.Quiet),(.int .i64 k.Format),(.int .i64 k.W),(.int .i64 k.H),(.int .i64 k.Id),(.int .i64 k.Number),(.int .i64 k.Place),(.int .i64 k.More),(.int .i64 k.X),(.int .i64 k.Y),(.int .i64 k.PW),(.int .i64 k.PH),(.int .i64 k.DX),(.int .i64 k.DY),(.int .i64 k.Rows),(.int .i64 k.Cols),(.int .i64 k.Z),(.int .i64 k.Stay)]),(.string word)] w fun e w'=>∃r0:Slc,e=.returned (.slice r0.a r0.n r0.c)/\K r0 w'
def qb3 (m:Option Nat) (w:World) (K:Option Nat->World->Prop):Prop :=Calls PG 75 #[(.map m)] w fun e w'=>∃r0:Option Nat,e=.returned (.map r0)/\K r0 w'
def qnn (seq:Value) (w:World) (K:Slc->World->Prop):Prop :=Calls PG 76 #[seq] w fun e w'=>∃r0:Slc,e=.returned (.slice r0.a r0.n r0.c)/\K r0 w'
def qdt (s:Slc) (f:Value) (w:World) (K:Int->World->Prop):Prop :=Calls PG 79 #[(.slice s.a s.n s.c),f] w fun e w'=>∃r0:Int,e=.returned (.int .i64 r0)/\K r0 w'
def qro (m:qab) (w:World) (K:Bool->World->Prop):Prop :=Calls PG 80 #[(.agg #[(.int .i64 m.W),(.int .i64 m.H),(.slice m.P.a m.P.n m.P.c)])] w fun e w'=>∃r0:Bool,e=.returned (.bool r0)/\K r0 w'
def qh7 (n:Int) (w:World) (K:Bool->World->Prop):Prop :=Calls PG 81 #[(.int .i64 n)] w fun e w'=>∃r0:Bool,e=.returned (.bool r0)/\K r0 w'
def qez (s:Option Addr) (id:Int) (w:World) (K:Bool->World->Prop):Prop :=Calls PG 82 #[(.pointer s),(.int .i64 id)] w fun e w'=>∃r0:Bool,e=.returned (.bool r0)/\K r0 w'
def qgn (s:Option Addr) (n:Int) (w:World) (K:Slc->World->Prop):Prop :=Calls PG 83 #[(.pointer s),(.int .i64 n)] w fun e w'=>∃r0:Slc,e=.returned (.slice r0.a r0.n r0.c)/\K r0 w'
def qmh (s:Option Addr) (id:Int) (w:World) (K:Bool->World->Prop):Prop :=Calls PG 84 #[(.pointer s),(.int .i64 id)] w fun e w'=>∃r0:Bool,e=.returned (.bool r0)/\K r0 w'
def qef (s:Slc) (w:World) (K:Slc->World->Prop):Prop :=Calls PG 85 #[(.slice s.a s.n s.c)] w fun e w'=>∃r0:Slc,e=.returned (.slice r0.a r0.n r0.c)/\K r0 w'
def qjv (t:Option Addr) (image:Int) (w:World) (K:Int->World->Prop):Prop :=Calls PG 86 #[(.pointer t),(.int .i64 image)] w fun e w'=>∃r0:Int,e=.returned (.int .i64 r0)/\K r0 w'
def qh8 (e:Option Addr) (k:qaa) (id:Int) (v:qae) (w:World) (K:qag->Int->World->Prop):Prop :=Calls PG 87 #[(.pointer e),(.agg #[(.int .u8 k.Action),(.int .u8 k.Medium),(.int .u8 k.Zip),(.int .u8 k.What),(.int .i64 k.Quiet),(.int .i64 k.Format),(.int .i64 k.W),(.int .i64 k.H),(.int .i64 k.Id),(.int .i64 k.Number),(.int .i64 k.Place),(.int .i64 k.More),(.int .i64 k.X),(.int .i64 k.Y),(.int .i64 k.PW),(.int .i64 k.PH),(.int .i64 k.DX),(.int .i64 k.DY),(.int .i64 k.Rows),(.int .i64 k.Cols),(.int .i64 k.Z),(.int .i64 k.Stay)]),(.int .i64 id),(.agg #[(.bool v.View.Alt),(.int .i64 v.View.Top),(.int .i64 v.View.Rows),(.int .i64 v.View.Cols),(.int .i64 v.View.Row),(.int .i64 v.View.Col),(.int .i64 v.CellW),(.int .i64 v.CellH)])] w fun e w'=>∃r0:qag,∃r1:Int,e=.returned (.tuple #[(.agg #[(.int .i64 r0.Image),(.int .i64 r0.Id),(.bool r0.Alt),(.int .i64 r0.Line),(.int .i64 r0.Col),(.int .i64 r0.Rows),(.int .i64 r0.Cols),(.int .i64 r0.X),(.int .i64 r0.Y),(.int .i64 r0.W),(.int .i64 r0.H),(.int .i64 r0.DX),(.int .i64 r0.DY),(.int .i64 r0.Z)]),(.int .i64 r1)])/\K r0 r1 w'
def qld (t:Option Addr) (p:qag) (w:World) (K:Int->World->Prop):Prop :=Calls PG 88 #[(.pointer t),(.agg #[(.int .i64 p.Image),(.int .i64 p.Id),(.bool p.Alt),(.int .i64 p.Line),(.int .i64 p.Col),(.int .i64 p.Rows),(.int .i64 p.Cols),(.int .i64 p.X),(.int .i64 p.Y),(.int .i64 p.W),(.int .i64 p.H),(.int .i64 p.DX),(.int .i64 p.DY),(.int .i64 p.Z)])] w fun e w'=>∃r0:Int,e=.returned (.int .i64 r0)/\K r0 w'
def qhd (s:Option Addr) (n:Int) (w:World) (K:Slc->Int->World->Prop):Prop :=Calls PG 89 #[(.pointer s),(.int .i64 n)] w fun e w'=>∃r0:Slc,∃r1:Int,e=.returned (.tuple #[(.slice r0.a r0.n r0.c),(.int .i64 r1)])/\K r0 r1 w'
def qlm (id:Int) (w:World) (K:Bool->World->Prop):Prop :=Calls PG 90 #[(.int .i64 id)] w fun e w'=>∃r0:Bool,e=.returned (.bool r0)/\K r0 w'
def qdq (t:Option Addr) (goes:Value) (w:World) (K:Slc->World->Prop):Prop :=Calls PG 91 #[(.pointer t),goes] w fun e w'=>∃r0:Slc,e=.returned (.slice r0.a r0.n r0.c)/\K r0 w'
def qm1 (p:qag) (c0:Addr) (c1:Addr) (w:World) (K:Bool->World->Prop):Prop :=Calls PG 92 #[(.agg #[(.int .i64 p.Image),(.int .i64 p.Id),(.bool p.Alt),(.int .i64 p.Line),(.int .i64 p.Col),(.int .i64 p.Rows),(.int .i64 p.Cols),(.int .i64 p.X),(.int .i64 p.Y),(.int .i64 p.W),(.int .i64 p.H),(.int .i64 p.DX),(.int .i64 p.DY),(.int .i64 p.Z)]),(.pointer (some c0)),(.pointer (some c1))] w fun e w'=>∃r0:Bool,e=.returned (.bool r0)/\K r0 w'
def qrf (s:Slc) (sep:Slc) (w:World) (K:Int->World->Prop):Prop :=Calls PG 93 #[(.slice s.a s.n s.c),(.slice sep.a sep.n sep.c)] w fun e w'=>∃r0:Int,e=.returned (.int .i64 r0)/\K r0 w'
def qqh (s:ByteArray) (sep:ByteArray) (sepSave:Int) (n:Int) (w:World) (K:Slc->World->Prop):Prop :=Calls PG 94 #[(.string s),(.string sep),(.int .i64 sepSave),(.int .i64 n)] w fun e w'=>∃r0:Slc,e=.returned (.slice r0.a r0.n r0.c)/\K r0 w'
def qs9 (s:ByteArray) (w:World) (K:Int->Bool->World->Prop):Prop :=Calls PG 95 #[(.string s)] w fun e w'=>∃r0:Int,∃r1:Bool,e=.returned (.tuple #[(.int .i64 r0),(.bool r1)])/\K r0 r1 w'
def qhn (k:Option Addr) (c:Int) (w:World) (K:Option Addr->World->Prop):Prop :=Calls PG 96 #[(.pointer k),(.int .u8 c)] w fun e w'=>∃r0:Option Addr,e=.returned (.pointer r0)/\K r0 w'
def qpu (c:Int) (w:World) (K:Bool->World->Prop):Prop :=Calls PG 97 #[(.int .u8 c)] w fun e w'=>∃r0:Bool,e=.returned (.bool r0)/\K r0 w'
def qgc (k:Option Addr) (c:Int) (w:World) (K:Option Addr->World->Prop):Prop :=Calls PG 98 #[(.pointer k),(.int .u8 c)] w fun e w'=>∃r0:Option Addr,e=.returned (.pointer r0)/\K r0 w'
def qp3 (s:ByteArray) (w:World) (K:Int->Bool->World->Prop):Prop :=Calls PG 99 #[(.string s)] w fun e w'=>∃r0:Int,∃r1:Bool,e=.returned (.tuple #[(.int .i64 r0),(.bool r1)])/\K r0 r1 w'
def qia (d:Option Addr) (c:Int) (w:World) (K:Slc->Int->World->Prop):Prop :=Calls PG 100 #[(.pointer d),(.int .u8 c)] w fun e w'=>∃r0:Slc,∃r1:Int,e=.returned (.tuple #[(.slice r0.a r0.n r0.c),(.int .i64 r1)])/\K r0 r1 w'
def qe2 (l:Option Addr) (b:Slc) (w:World) (K:Int->World->Prop):Prop :=Calls PG 101 #[(.pointer l),(.slice b.a b.n b.c)] w fun e w'=>∃r0:Int,e=.returned (.int .i64 r0)/\K r0 w'
def qcl (l:Option Addr) (e:Int) (w:World) (K:World->Prop):Prop :=Calls PG 102 #[(.pointer l),(.int .i64 e)] w fun e w'=>e=.returned (.tuple #[])/\K w'
def qk3 (l:Option Addr) (w:World) (K:qab->Int->World->Prop):Prop :=Calls PG 103 #[(.pointer l)] w fun e w'=>∃r0:qab,∃r1:Int,e=.returned (.tuple #[(.agg #[(.int .i64 r0.W),(.int .i64 r0.H),(.slice r0.P.a r0.P.n r0.P.c)]),(.int .i64 r1)])/\K r0 r1 w'
def qiu (e:Option Addr) (k:qaa) (m:qab) (v:qae) (w:World) (K:qac->World->Prop):Prop :=Calls PG 104 #[(.pointer e),(.agg #[(.int .u8 k.Action),(.int .u8 k.Medium),(.int .u8 k.Zip),(.int .u8 k.What),(.int .i64 k.Quiet),(.int .i64 k.Format),(.int .i64 k.W),(.int .i64 k.H),(.int .i64 k.Id),(.int .i64 k.Number),(.int .i64 k.Place),(.int .i64 k.More),(.int .i64 k.X),(.int .i64 k.Y),(.int .i64 k.PW),(.int .i64 k.PH),(.int .i64 k.DX),(.int .i64 k.DY),(.int .i64 k.Rows),(.int .i64 k.Cols),(.int .i64 k.Z),(.int .i64 k.Stay)]),(.agg #[(.int .i64 m.W),(.int .i64 m.H),(.slice m.P.a m.P.n m.P.c)]),(.agg #[(.bool v.View.Alt),(.int .i64 v.View.Top),(.int .i64 v.View.Rows),(.int .i64 v.View.Cols),(.int .i64 v.View.Row),(.int .i64 v.View.Col),(.int .i64 v.CellW),(.int .i64 v.CellH)])] w fun e w'=>∃r0:qac,e=.returned (.agg #[(.slice r0.Reply.a r0.Reply.n r0.Reply.c),(.int .i64 r0.Rows),(.int .i64 r0.Cols),(.bool r0.Moves)])/\K r0 w'
def qtg (k:qaa) (w:World) (K:Int->Int->World->Prop):Prop :=Calls PG 105 #[(.agg #[(.int .u8 k.Action),(.int .u8 k.Medium),(.int .u8 k.Zip),(.int .u8 k.What),(.int .i64 k.Quiet),(.int .i64 k.Format),(.int .i64 k.W),(.int .i64 k.H),(.int .i64 k.Id),(.int .i64 k.Number),(.int .i64 k.Place),(.int .i64 k.More),(.int .i64 k.X),(.int .i64 k.Y),(.int .i64 k.PW),(.int .i64 k.PH),(.int .i64 k.DX),(.int .i64 k.DY),(.int .i64 k.Rows),(.int .i64 k.Cols),(.int .i64 k.Z),(.int .i64 k.Stay)])] w fun e w'=>∃r0:Int,∃r1:Int,e=.returned (.tuple #[(.int .i64 r0),(.int .i64 r1)])/\K r0 r1 w'
def qoy  (w:World) (K:Option Addr->World->Prop):Prop :=Calls PG 106 #[] w fun e w'=>∃r0:Option Addr,e=.returned (.pointer r0)/\K r0 w'
def qlj (p:qag) (c0:Addr) (c1:Addr) (w:World) (K:Bool->World->Prop):Prop :=Calls PG 107 #[(.agg #[(.int .i64 p.Image),(.int .i64 p.Id),(.bool p.Alt),(.int .i64 p.Line),(.int .i64 p.Col),(.int .i64 p.Rows),(.int .i64 p.Cols),(.int .i64 p.X),(.int .i64 p.Y),(.int .i64 p.W),(.int .i64 p.H),(.int .i64 p.DX),(.int .i64 p.DY),(.int .i64 p.Z)]),(.pointer (some c0)),(.pointer (some c1))] w fun e w'=>∃r0:Bool,e=.returned (.bool r0)/\K r0 w'
def qrn (a:qb8) (p:qag) (v:qbv) (w:World) (K:Bool->World->Prop):Prop :=Calls PG 108 #[(.agg #[(.int .u8 a.What),(.int .i64 a.Image),(.int .i64 a.Place),(.int .i64 a.X),(.int .i64 a.Y),(.int .i64 a.Z)]),(.agg #[(.int .i64 p.Image),(.int .i64 p.Id),(.bool p.Alt),(.int .i64 p.Line),(.int .i64 p.Col),(.int .i64 p.Rows),(.int .i64 p.Cols),(.int .i64 p.X),(.int .i64 p.Y),(.int .i64 p.W),(.int .i64 p.H),(.int .i64 p.DX),(.int .i64 p.DY),(.int .i64 p.Z)]),(.agg #[(.bool v.Alt),(.int .i64 v.Top),(.int .i64 v.Rows),(.int .i64 v.Cols),(.int .i64 v.Row),(.int .i64 v.Col)])] w fun e w'=>∃r0:Bool,e=.returned (.bool r0)/\K r0 w'
def qw3 (i:Int) (w:World) (K:ByteArray->World->Prop):Prop :=Calls PG 109 #[(.int .i64 i)] w fun e w'=>∃r0:ByteArray,e=.returned (.string r0)/\K r0 w'
def qwp (elems:Slc) (sep:ByteArray) (w:World) (K:ByteArray->World->Prop):Prop :=Calls PG 110 #[(.slice elems.a elems.n elems.c),(.string sep)] w fun e w'=>∃r0:ByteArray,e=.returned (.string r0)/\K r0 w'
def qjd (wx:Int) (hx:Int) (w:World) (K:Bool->World->Prop):Prop :=Calls PG 115 #[(.int .i64 wx),(.int .i64 hx)] w fun e w'=>∃r0:Bool,e=.returned (.bool r0)/\K r0 w'
def qh9 (a:Int) (b:Int) (c0:Addr) (w:World) (K:Int->World->Prop):Prop :=Calls PG 116 #[(.int .i64 a),(.int .i64 b),(.pointer (some c0))] w fun e w'=>∃r0:Int,e=.returned (.int .i64 r0)/\K r0 w'
def qf6 (x:Int) (y:Int) (w:World) (K:Int->World->Prop):Prop :=Calls PG 117 #[(.int .i64 x),(.int .i64 y)] w fun e w'=>∃r0:Int,e=.returned (.int .i64 r0)/\K r0 w'
def qfy (x:Slc) (cmp:Value) (w:World) (K:Int->World->Prop):Prop :=Calls PG 118 #[(.slice x.a x.n x.c),cmp] w fun e w'=>∃r0:Int,e=.returned (.int .i64 r0)/\K r0 w'
def qol (p:qag) (c0:Addr) (w:World) (K:Bool->World->Prop):Prop :=Calls PG 119 #[(.agg #[(.int .i64 p.Image),(.int .i64 p.Id),(.bool p.Alt),(.int .i64 p.Line),(.int .i64 p.Col),(.int .i64 p.Rows),(.int .i64 p.Cols),(.int .i64 p.X),(.int .i64 p.Y),(.int .i64 p.W),(.int .i64 p.H),(.int .i64 p.DX),(.int .i64 p.DY),(.int .i64 p.Z)]),(.pointer (some c0))] w fun e w'=>∃r0:Bool,e=.returned (.bool r0)/\K r0 w'
def qoc (at_:Int) (n:Int) (side:Int) (w:World) (K:Int->World->Prop):Prop :=Calls PG 120 #[(.int .i64 at_),(.int .i64 n),(.int .i64 side)] w fun e w'=>∃r0:Int,e=.returned (.int .i64 r0)/\K r0 w'
def qv4 (p:qag) (w:World) (K:Bool->World->Prop):Prop :=Calls PG 121 #[(.agg #[(.int .i64 p.Image),(.int .i64 p.Id),(.bool p.Alt),(.int .i64 p.Line),(.int .i64 p.Col),(.int .i64 p.Rows),(.int .i64 p.Cols),(.int .i64 p.X),(.int .i64 p.Y),(.int .i64 p.W),(.int .i64 p.H),(.int .i64 p.DX),(.int .i64 p.DY),(.int .i64 p.Z)])] w fun e w'=>∃r0:Bool,e=.returned (.bool r0)/\K r0 w'
def qpa (o:qag) (c0:Addr) (w:World) (K:Bool->World->Prop):Prop :=Calls PG 122 #[(.agg #[(.int .i64 o.Image),(.int .i64 o.Id),(.bool o.Alt),(.int .i64 o.Line),(.int .i64 o.Col),(.int .i64 o.Rows),(.int .i64 o.Cols),(.int .i64 o.X),(.int .i64 o.Y),(.int .i64 o.W),(.int .i64 o.H),(.int .i64 o.DX),(.int .i64 o.DY),(.int .i64 o.Z)]),(.pointer (some c0))] w fun e w'=>∃r0:Bool,e=.returned (.bool r0)/\K r0 w'
def qk4 (b:Slc) (c:Int) (w:World) (K:Int->World->Prop):Prop :=Calls PG 123 #[(.slice b.a b.n b.c),(.int .u8 c)] w fun e w'=>∃r0:Int,e=.returned (.int .i64 r0)/\K r0 w'
def qga (a:Slc) (b:Slc) (w:World) (K:Bool->World->Prop):Prop :=Calls PG 124 #[(.slice a.a a.n a.c),(.slice b.a b.n b.c)] w fun e w'=>∃r0:Bool,e=.returned (.bool r0)/\K r0 w'
def qrx (n:Int) (w:World) (K:Int->World->Prop):Prop :=Calls PG 126 #[(.int .i64 n)] w fun e w'=>∃r0:Int,e=.returned (.int .i64 r0)/\K r0 w'
def qir (s:Slc) (sep:Slc) (w:World) (K:Int->World->Prop):Prop :=Calls PG 127 #[(.slice s.a s.n s.c),(.slice sep.a sep.n sep.c)] w fun e w'=>∃r0:Int,e=.returned (.int .i64 r0)/\K r0 w'
def q2v (s:ByteArray) (n:Int) (w:World) (K:Slc->World->Prop):Prop :=Calls PG 128 #[(.string s),(.int .i64 n)] w fun e w'=>∃r0:Slc,e=.returned (.slice r0.a r0.n r0.c)/\K r0 w'
def qu6 (s:ByteArray) (substr:ByteArray) (w:World) (K:Int->World->Prop):Prop :=Calls PG 129 #[(.string s),(.string substr)] w fun e w'=>∃r0:Int,e=.returned (.int .i64 r0)/\K r0 w'
def qve (s:ByteArray) (substr:ByteArray) (w:World) (K:Int->World->Prop):Prop :=Calls PG 130 #[(.string s),(.string substr)] w fun e w'=>∃r0:Int,e=.returned (.int .i64 r0)/\K r0 w'
def qis (s:ByteArray) (prefix_:ByteArray) (w:World) (K:ByteArray->Bool->World->Prop):Prop :=Calls PG 131 #[(.string s),(.string prefix_)] w fun e w'=>∃r0:ByteArray,∃r1:Bool,e=.returned (.tuple #[(.string r0),(.bool r1)])/\K r0 r1 w'
def qei (s:ByteArray) (c:Int) (w:World) (K:Int->World->Prop):Prop :=Calls PG 132 #[(.string s),(.int .u8 c)] w fun e w'=>∃r0:Int,e=.returned (.int .i64 r0)/\K r0 w'
def qhr (d:Option Addr) (c:Int) (w:World) (K:Slc->Bool->World->Prop):Prop :=Calls PG 133 #[(.pointer d),(.int .u8 c)] w fun e w'=>∃r0:Slc,∃r1:Bool,e=.returned (.tuple #[(.slice r0.a r0.n r0.c),(.bool r1)])/\K r0 r1 w'
def qjp (l:Option Addr) (w:World) (K:World->Prop):Prop :=Calls PG 134 #[(.pointer l)] w fun e w'=>e=.returned (.tuple #[])/\K w'
def qh3 (d:Option Addr) (w:World) (K:Slc->Int->World->Prop):Prop :=Calls PG 135 #[(.pointer d)] w fun e w'=>∃r0:Slc,∃r1:Int,e=.returned (.tuple #[(.slice r0.a r0.n r0.c),(.int .i64 r1)])/\K r0 r1 w'
def qbh (slices:Slc) (w:World) (K:Slc->World->Prop):Prop :=Calls PG 136 #[(.slice slices.a slices.n slices.c)] w fun e w'=>∃r0:Slc,e=.returned (.slice r0.a r0.n r0.c)/\K r0 w'
def qho (l:Option Addr) (b:Slc) (w:World) (K:Slc->Int->World->Prop):Prop :=Calls PG 137 #[(.pointer l),(.slice b.a b.n b.c)] w fun e w'=>∃r0:Slc,∃r1:Int,e=.returned (.tuple #[(.slice r0.a r0.n r0.c),(.int .i64 r1)])/\K r0 r1 w'
def qi0 (l:Option Addr) (b:Slc) (w:World) (K:qab->Int->World->Prop):Prop :=Calls PG 138 #[(.pointer l),(.slice b.a b.n b.c)] w fun e w'=>∃r0:qab,∃r1:Int,e=.returned (.tuple #[(.agg #[(.int .i64 r0.W),(.int .i64 r0.H),(.slice r0.P.a r0.P.n r0.P.c)]),(.int .i64 r1)])/\K r0 r1 w'
def ql4 (n:Int) (w:World) (K:Bool->World->Prop):Prop :=Calls PG 139 #[(.int .i64 n)] w fun e w'=>∃r0:Bool,e=.returned (.bool r0)/\K r0 w'
def qcf (p:qag) (line:Int) (rows:Int) (from_:Int) (past:Int) (w:World) (K:Bool->World->Prop):Prop :=Calls PG 140 #[(.agg #[(.int .i64 p.Image),(.int .i64 p.Id),(.bool p.Alt),(.int .i64 p.Line),(.int .i64 p.Col),(.int .i64 p.Rows),(.int .i64 p.Cols),(.int .i64 p.X),(.int .i64 p.Y),(.int .i64 p.W),(.int .i64 p.H),(.int .i64 p.DX),(.int .i64 p.DY),(.int .i64 p.Z)]),(.int .i64 line),(.int .i64 rows),(.int .i64 from_),(.int .i64 past)] w fun e w'=>∃r0:Bool,e=.returned (.bool r0)/\K r0 w'
def qk1 (x:Int) (w:World) (K:Bool->World->Prop):Prop :=Calls PG 156 #[(.int .i64 x)] w fun e w'=>∃r0:Bool,e=.returned (.bool r0)/\K r0 w'
def qb9 (v:Int) (lo:Int) (hi:Int) (w:World) (K:Bool->World->Prop):Prop :=Calls PG 157 #[(.int .i64 v),(.int .i64 lo),(.int .i64 hi)] w fun e w'=>∃r0:Bool,e=.returned (.bool r0)/\K r0 w'
def qfw (s:ByteArray) (prefix_:ByteArray) (w:World) (K:ByteArray->Bool->World->Prop):Prop :=Calls PG 164 #[(.string s),(.string prefix_)] w fun e w'=>∃r0:ByteArray,∃r1:Bool,e=.returned (.tuple #[(.string r0),(.bool r1)])/\K r0 r1 w'
def qes (d:Option Addr) (w:World) (K:Bool->World->Prop):Prop :=Calls PG 166 #[(.pointer d)] w fun e w'=>∃r0:Bool,e=.returned (.bool r0)/\K r0 w'
def qet (d:Option Addr) (w:World) (K:Slc->World->Prop):Prop :=Calls PG 167 #[(.pointer d)] w fun e w'=>∃r0:Slc,e=.returned (.slice r0.a r0.n r0.c)/\K r0 w'
def qly (d:Option Addr) (w:World) (K:World->Prop):Prop :=Calls PG 168 #[(.pointer d)] w fun e w'=>e=.returned (.tuple #[])/\K w'
def qf9 (s:Slc) (n:Int) (w:World) (K:Slc->World->Prop):Prop :=Calls PG 169 #[(.slice s.a s.n s.c),(.int .i64 n)] w fun e w'=>∃r0:Slc,e=.returned (.slice r0.a r0.n r0.c)/\K r0 w'
def ql5 (b:Slc) (most:Int) (w:World) (K:Slc->Int->Int->World->Prop):Prop :=Calls PG 170 #[(.slice b.a b.n b.c),(.int .i64 most)] w fun e w'=>∃r0:Slc,∃r1:Int,∃r2:Int,e=.returned (.tuple #[(.slice r0.a r0.n r0.c),(.int .i64 r1),(.int .i64 r2)])/\K r0 r1 r2 w'
def ql7 (wx:Int) (hx:Int) (b:Slc) (w:World) (K:qab->Int->World->Prop):Prop :=Calls PG 171 #[(.int .i64 wx),(.int .i64 hx),(.slice b.a b.n b.c)] w fun e w'=>∃r0:qab,∃r1:Int,e=.returned (.tuple #[(.agg #[(.int .i64 r0.W),(.int .i64 r0.H),(.slice r0.P.a r0.P.n r0.P.c)]),(.int .i64 r1)])/\K r0 r1 w'
def qs8 (b:Slc) (pixels:Int) (w:World) (K:qab->Int->World->Prop):Prop :=Calls PG 172 #[(.slice b.a b.n b.c),(.int .i64 pixels)] w fun e w'=>∃r0:qab,∃r1:Int,e=.returned (.tuple #[(.agg #[(.int .i64 r0.W),(.int .i64 r0.H),(.slice r0.P.a r0.P.n r0.P.c)]),(.int .i64 r1)])/\K r0 r1 w'
def qn7 (wx:Int) (hx:Int) (b:Slc) (w:World) (K:qab->Int->World->Prop):Prop :=Calls PG 173 #[(.int .i64 wx),(.int .i64 hx),(.slice b.a b.n b.c)] w fun e w'=>∃r0:qab,∃r1:Int,e=.returned (.tuple #[(.agg #[(.int .i64 r0.W),(.int .i64 r0.H),(.slice r0.P.a r0.P.n r0.P.c)]),(.int .i64 r1)])/\K r0 r1 w'
def qdn (s:ByteArray) (prefix_:ByteArray) (w:World) (K:Bool->World->Prop):Prop :=Calls PG 186 #[(.string s),(.string prefix_)] w fun e w'=>∃r0:Bool,e=.returned (.bool r0)/\K r0 w'
def q6c (most:Int) (w:World) (K:Option Addr->Int->World->Prop):Prop :=Calls PG 188 #[(.int .i64 most)] w fun e w'=>∃r0:Option Addr,∃r1:Int,e=.returned (.tuple #[(.pointer r0),(.int .i64 r1)])/\K r0 r1 w'
def qht (d:Option Addr) (b:Slc) (w:World) (K:Slc->Int->World->Prop):Prop :=Calls PG 189 #[(.pointer d),(.slice b.a b.n b.c)] w fun e w'=>∃r0:Slc,∃r1:Int,e=.returned (.tuple #[(.slice r0.a r0.n r0.c),(.int .i64 r1)])/\K r0 r1 w'
def qip (d:Option Addr) (w:World) (K:Bool->World->Prop):Prop :=Calls PG 190 #[(.pointer d)] w fun e w'=>∃r0:Bool,e=.returned (.bool r0)/\K r0 w'
def qit (d:Option Addr) (w:World) (K:Int->World->Prop):Prop :=Calls PG 191 #[(.pointer d)] w fun e w'=>∃r0:Int,e=.returned (.int .i64 r0)/\K r0 w'
def qnt (wx:Int) (hx:Int) (per:Int) (b:Slc) (w:World) (K:qab->Int->World->Prop):Prop :=Calls PG 192 #[(.int .i64 wx),(.int .i64 hx),(.int .i64 per),(.slice b.a b.n b.c)] w fun e w'=>∃r0:qab,∃r1:Int,e=.returned (.tuple #[(.agg #[(.int .i64 r0.W),(.int .i64 r0.H),(.slice r0.P.a r0.P.n r0.P.c)]),(.int .i64 r1)])/\K r0 r1 w'
def qzc (b:Slc) (pixels:Int) (w:World) (K:Option Addr->Int->World->Prop):Prop :=Calls PG 193 #[(.slice b.a b.n b.c),(.int .i64 pixels)] w fun e w'=>∃r0:Option Addr,∃r1:Int,e=.returned (.tuple #[(.pointer r0),(.int .i64 r1)])/\K r0 r1 w'
def qnh (hx:qah) (w:World) (K:Int->World->Prop):Prop :=Calls PG 194 #[(.agg #[(.int .i64 hx.W),(.int .i64 hx.H),(.int .i64 hx.Depth),(.int .i64 hx.Color),(.int .i64 hx.Lace)])] w fun e w'=>∃r0:Int,e=.returned (.int .i64 r0)/\K r0 w'
def qk7 (f:Option Addr) (b:Slc) (w:World) (K:qab->Int->World->Prop):Prop :=Calls PG 195 #[(.pointer f),(.slice b.a b.n b.c)] w fun e w'=>∃r0:qab,∃r1:Int,e=.returned (.tuple #[(.agg #[(.int .i64 r0.W),(.int .i64 r0.H),(.slice r0.P.a r0.P.n r0.P.c)]),(.int .i64 r1)])/\K r0 r1 w'
def qre (most:Int) (w:World) (K:Option Addr->Int->World->Prop):Prop :=Calls PG 204 #[(.int .i64 most)] w fun e w'=>∃r0:Option Addr,∃r1:Int,e=.returned (.tuple #[(.pointer r0),(.int .i64 r1)])/\K r0 r1 w'
def qvd  (w:World) (K:Option Addr->World->Prop):Prop :=Calls PG 205 #[] w fun e w'=>∃r0:Option Addr,e=.returned (.pointer r0)/\K r0 w'
def qhu (d:Option Addr) (c:Int) (w:World) (K:Bool->World->Prop):Prop :=Calls PG 206 #[(.pointer d),(.int .u8 c)] w fun e w'=>∃r0:Bool,e=.returned (.bool r0)/\K r0 w'
def qbp (d:Option Addr) (e:Int) (w:World) (K:Int->World->Prop):Prop :=Calls PG 207 #[(.pointer d),(.int .i64 e)] w fun e w'=>∃r0:Int,e=.returned (.int .i64 r0)/\K r0 w'
def qeg (d:Option Addr) (w:World) (K:Int->World->Prop):Prop :=Calls PG 208 #[(.pointer d)] w fun e w'=>∃r0:Int,e=.returned (.int .i64 r0)/\K r0 w'
def qdc (d:Option Addr) (b:Slc) (w:World) (K:Slc->Int->World->Prop):Prop :=Calls PG 209 #[(.pointer d),(.slice b.a b.n b.c)] w fun e w'=>∃r0:Slc,∃r1:Int,e=.returned (.tuple #[(.slice r0.a r0.n r0.c),(.int .i64 r1)])/\K r0 r1 w'
def qcs (d:Option Addr) (w:World) (K:Bool->World->Prop):Prop :=Calls PG 210 #[(.pointer d)] w fun e w'=>∃r0:Bool,e=.returned (.bool r0)/\K r0 w'
def qcp (d:Option Addr) (w:World) (K:Int->World->Prop):Prop :=Calls PG 211 #[(.pointer d)] w fun e w'=>∃r0:Int,e=.returned (.int .i64 r0)/\K r0 w'
def qcv (b:Slc) (w:World) (K:Int->World->Prop):Prop :=Calls PG 212 #[(.slice b.a b.n b.c)] w fun e w'=>∃r0:Int,e=.returned (.int .u32 r0)/\K r0 w'
def qll (wx:Int) (hx:Int) (w:World) (K:qab->Int->World->Prop):Prop :=Calls PG 213 #[(.int .i64 wx),(.int .i64 hx)] w fun e w'=>∃r0:qab,∃r1:Int,e=.returned (.tuple #[(.agg #[(.int .i64 r0.W),(.int .i64 r0.H),(.slice r0.P.a r0.P.n r0.P.c)]),(.int .i64 r1)])/\K r0 r1 w'
def qt4 (b:Slc) (w:World) (K:Slc->Int->World->Prop):Prop :=Calls PG 214 #[(.slice b.a b.n b.c)] w fun e w'=>∃r0:Slc,∃r1:Int,e=.returned (.tuple #[(.slice r0.a r0.n r0.c),(.int .i64 r1)])/\K r0 r1 w'
def qy4 (c:qam) (w:World) (K:qah->Int->World->Prop):Prop :=Calls PG 215 #[(.agg #[(.string c.Kind),(.slice c.Data.a c.Data.n c.Data.c)])] w fun e w'=>∃r0:qah,∃r1:Int,e=.returned (.tuple #[(.agg #[(.int .i64 r0.W),(.int .i64 r0.H),(.int .i64 r0.Depth),(.int .i64 r0.Color),(.int .i64 r0.Lace)]),(.int .i64 r1)])/\K r0 r1 w'
def qnr (f:Option Addr) (c:qam) (w:World) (K:Int->World->Prop):Prop :=Calls PG 216 #[(.pointer f),(.agg #[(.string c.Kind),(.slice c.Data.a c.Data.n c.Data.c)])] w fun e w'=>∃r0:Int,e=.returned (.int .i64 r0)/\K r0 w'
def qe3 (hx:qah) (f:Value) (w:World) (K:Bool->World->Prop):Prop :=Calls PG 217 #[(.agg #[(.int .i64 hx.W),(.int .i64 hx.H),(.int .i64 hx.Depth),(.int .i64 hx.Color),(.int .i64 hx.Lace)]),f] w fun e w'=>∃r0:Bool,e=.returned (.bool r0)/\K r0 w'
def qr7 (x_:qaz) (x_x:Int) (wx:Int) (c0:Addr) (c1:Addr) (w:World) (K:Bool->World->Prop):Prop :=Calls PG 218 #[(.agg #[(.int .i64 x_.X),(.int .i64 x_.Y),(.int .i64 x_.DX),(.int .i64 x_.DY)]),(.int .i64 x_x),(.int .i64 wx),(.pointer (some c0)),(.pointer (some c1))] w fun e w'=>∃r0:Bool,e=.returned (.bool r0)/\K r0 w'
def qni (wx:Int) (samples:Int) (depth:Int) (w:World) (K:Int->World->Prop):Prop :=Calls PG 219 #[(.int .i64 wx),(.int .i64 samples),(.int .i64 depth)] w fun e w'=>∃r0:Int,e=.returned (.int .i64 r0)/\K r0 w'
def qe8 (color:Int) (w:World) (K:Int->World->Prop):Prop :=Calls PG 220 #[(.int .i64 color)] w fun e w'=>∃r0:Int,e=.returned (.int .i64 r0)/\K r0 w'
def qiq (p:qaz) (y:Int) (wx:Int) (c0:Addr) (c1:Addr) (c2:Addr) (c3:Addr) (c4:Addr) (c5:Addr) (w:World) (K:Bool->World->Prop):Prop :=Calls PG 221 #[(.agg #[(.int .i64 p.X),(.int .i64 p.Y),(.int .i64 p.DX),(.int .i64 p.DY)]),(.int .i64 y),(.int .i64 wx),(.pointer (some c0)),(.pointer (some c1)),(.pointer (some c2)),(.pointer (some c3)),(.pointer (some c4)),(.pointer (some c5))] w fun e w'=>∃r0:Bool,e=.returned (.bool r0)/\K r0 w'
def qrd (kind:Int) (row:Slc) (ahead:Slc) (step:Int) (w:World) (K:Slc->Int->World->Prop):Prop :=Calls PG 222 #[(.int .i64 kind),(.slice row.a row.n row.c),(.slice ahead.a ahead.n ahead.c),(.int .i64 step)] w fun e w'=>∃r0:Slc,∃r1:Int,e=.returned (.tuple #[(.slice r0.a r0.n r0.c),(.int .i64 r1)])/\K r0 r1 w'
def qmb (row:Slc) (depth:Int) (n:Int) (w:World) (K:Slc->Int->World->Prop):Prop :=Calls PG 223 #[(.slice row.a row.n row.c),(.int .i64 depth),(.int .i64 n)] w fun e w'=>∃r0:Slc,∃r1:Int,e=.returned (.tuple #[(.slice r0.a r0.n r0.c),(.int .i64 r1)])/\K r0 r1 w'
def qer (f:Option Addr) (s:Slc) (w:World) (K:qan->Bool->World->Prop):Prop :=Calls PG 224 #[(.pointer f),(.slice s.a s.n s.c)] w fun e w'=>∃r0:qan,∃r1:Bool,e=.returned (.tuple #[(.agg #[(.int .u8 r0.e0),(.int .u8 r0.e1),(.int .u8 r0.e2),(.int .u8 r0.e3)]),(.bool r1)])/\K r0 r1 w'
def qh0 (b:Slc) (w:World) (K:Option Addr->World->Prop):Prop :=Calls PG 229 #[(.slice b.a b.n b.c)] w fun e w'=>∃r0:Option Addr,e=.returned (.pointer r0)/\K r0 w'
def qa4 (r:Option Addr) (n:Int) (w:World) (K:Int->Bool->World->Prop):Prop :=Calls PG 230 #[(.pointer r),(.int .i64 n)] w fun e w'=>∃r0:Int,∃r1:Bool,e=.returned (.tuple #[(.int .u32 r0),(.bool r1)])/\K r0 r1 w'
def qbk (r:Option Addr) (w:World) (K:Int->World->Prop):Prop :=Calls PG 231 #[(.pointer r)] w fun e w'=>∃r0:Int,e=.returned (.int .i64 r0)/\K r0 w'
def qgw (d:Option Addr) (r:Option Addr) (w:World) (K:Int->World->Prop):Prop :=Calls PG 232 #[(.pointer d),(.pointer r)] w fun e w'=>∃r0:Int,e=.returned (.int .i64 r0)/\K r0 w'
def qgj (r:Option Addr) (at_:Int) (w:World) (K:World->Prop):Prop :=Calls PG 233 #[(.pointer r),(.int .i64 at_)] w fun e w'=>e=.returned (.tuple #[])/\K w'
def qzb (b:Slc) (f:Value) (w:World) (K:Int->World->Prop):Prop :=Calls PG 234 #[(.slice b.a b.n b.c),f] w fun e w'=>∃r0:Int,e=.returned (.int .i64 r0)/\K r0 w'
def qxr (c:qam) (c0:Addr) (w:World) (K:Bool->World->Prop):Prop :=Calls PG 235 #[(.agg #[(.string c.Kind),(.slice c.Data.a c.Data.n c.Data.c)]),(.pointer (some c0))] w fun e w'=>∃r0:Bool,e=.returned (.bool r0)/\K r0 w'
def qio (hx:qah) (w:World) (K:Int->World->Prop):Prop :=Calls PG 236 #[(.agg #[(.int .i64 hx.W),(.int .i64 hx.H),(.int .i64 hx.Depth),(.int .i64 hx.Color),(.int .i64 hx.Lace)])] w fun e w'=>∃r0:Int,e=.returned (.int .i64 r0)/\K r0 w'
def qk8 (f:Option Addr) (b:Slc) (w:World) (K:Bool->World->Prop):Prop :=Calls PG 237 #[(.pointer f),(.slice b.a b.n b.c)] w fun e w'=>∃r0:Bool,e=.returned (.bool r0)/\K r0 w'
def qma (f:Option Addr) (b:Slc) (w:World) (K:Bool->World->Prop):Prop :=Calls PG 238 #[(.pointer f),(.slice b.a b.n b.c)] w fun e w'=>∃r0:Bool,e=.returned (.bool r0)/\K r0 w'
def qlc (hx:qah) (w:World) (K:Slc->World->Prop):Prop :=Calls PG 239 #[(.agg #[(.int .i64 hx.W),(.int .i64 hx.H),(.int .i64 hx.Depth),(.int .i64 hx.Color),(.int .i64 hx.Lace)])] w fun e w'=>∃r0:Slc,e=.returned (.slice r0.a r0.n r0.c)/\K r0 w'
def qrt (p:qaz) (wx:Int) (hx:Int) (w:World) (K:Int->Int->World->Prop):Prop :=Calls PG 240 #[(.agg #[(.int .i64 p.X),(.int .i64 p.Y),(.int .i64 p.DX),(.int .i64 p.DY)]),(.int .i64 wx),(.int .i64 hx)] w fun e w'=>∃r0:Int,∃r1:Int,e=.returned (.tuple #[(.int .i64 r0),(.int .i64 r1)])/\K r0 r1 w'
def qhx (n:Int) (w:World) (K:Bool->World->Prop):Prop :=Calls PG 241 #[(.int .i64 n)] w fun e w'=>∃r0:Bool,e=.returned (.bool r0)/\K r0 w'
def qpw (kind:Int) (row:Slc) (ahead:Slc) (step:Int) (w:World) (K:Bool->World->Prop):Prop :=Calls PG 242 #[(.int .i64 kind),(.slice row.a row.n row.c),(.slice ahead.a ahead.n ahead.c),(.int .i64 step)] w fun e w'=>∃r0:Bool,e=.returned (.bool r0)/\K r0 w'
def qpp (kind:Int) (i:Int) (row:Slc) (ahead:Slc) (step:Int) (w:World) (K:Int->World->Prop):Prop :=Calls PG 243 #[(.int .i64 kind),(.int .i64 i),(.slice row.a row.n row.c),(.slice ahead.a ahead.n ahead.c),(.int .i64 step)] w fun e w'=>∃r0:Int,e=.returned (.int .u8 r0)/\K r0 w'
def qdk (hx:qah) (v:Int) (w:World) (K:Int->World->Prop):Prop :=Calls PG 244 #[(.agg #[(.int .i64 hx.W),(.int .i64 hx.H),(.int .i64 hx.Depth),(.int .i64 hx.Color),(.int .i64 hx.Lace)]),(.int .i64 v)] w fun e w'=>∃r0:Int,e=.returned (.int .u8 r0)/\K r0 w'
def qgo (r:Option Addr) (n:Int) (w:World) (K:Int->Bool->World->Prop):Prop :=Calls PG 247 #[(.pointer r),(.int .i64 n)] w fun e w'=>∃r0:Int,∃r1:Bool,e=.returned (.tuple #[(.int .u32 r0),(.bool r1)])/\K r0 r1 w'
def qgu (d:Option Addr) (r:Option Addr) (w:World) (K:Int->World->Prop):Prop :=Calls PG 248 #[(.pointer d),(.pointer r)] w fun e w'=>∃r0:Int,e=.returned (.int .i64 r0)/\K r0 w'
def qf3 (d:Option Addr) (r:Option Addr) (w:World) (K:Int->World->Prop):Prop :=Calls PG 249 #[(.pointer d),(.pointer r)] w fun e w'=>∃r0:Int,e=.returned (.int .i64 r0)/\K r0 w'
def qf8 (d:Option Addr) (r:Option Addr) (w:World) (K:Int->World->Prop):Prop :=Calls PG 250 #[(.pointer d),(.pointer r)] w fun e w'=>∃r0:Int,e=.returned (.int .i64 r0)/\K r0 w'
def qfl (d:Option Addr) (r:Option Addr) (w:World) (K:Int->World->Prop):Prop :=Calls PG 251 #[(.pointer d),(.pointer r)] w fun e w'=>∃r0:Int,e=.returned (.int .i64 r0)/\K r0 w'
def qgt (d:Option Addr) (r:Option Addr) (w:World) (K:Int->World->Prop):Prop :=Calls PG 252 #[(.pointer d),(.pointer r)] w fun e w'=>∃r0:Int,e=.returned (.int .i64 r0)/\K r0 w'
def qsl  (w:World) (K:Slc->World->Prop):Prop :=Calls PG 253 #[] w fun e w'=>∃r0:Slc,e=.returned (.slice r0.a r0.n r0.c)/\K r0 w'
def qwd (b:Slc) (w:World) (K:qam->Int->Int->World->Prop):Prop :=Calls PG 254 #[(.slice b.a b.n b.c)] w fun e w'=>∃r0:qam,∃r1:Int,∃r2:Int,e=.returned (.tuple #[(.agg #[(.string r0.Kind),(.slice r0.Data.a r0.Data.n r0.Data.c)]),(.int .i64 r1),(.int .i64 r2)])/\K r0 r1 r2 w'
def qfk (s:Slc) (v:Int) (w:World) (K:Bool->World->Prop):Prop :=Calls PG 255 #[(.slice s.a s.n s.c),(.int .i64 v)] w fun e w'=>∃r0:Bool,e=.returned (.bool r0)/\K r0 w'
def qn1  (w:World) (K:Slc->World->Prop):Prop :=Calls PG 256 #[] w fun e w'=>∃r0:Slc,e=.returned (.slice r0.a r0.n r0.c)/\K r0 w'
def qi5 (n:Int) (w:World) (K:Bool->World->Prop):Prop :=Calls PG 257 #[(.int .i64 n)] w fun e w'=>∃r0:Bool,e=.returned (.bool r0)/\K r0 w'
def qpv (a:Int) (b:Int) (c:Int) (w:World) (K:Int->World->Prop):Prop :=Calls PG 258 #[(.int .u8 a),(.int .u8 b),(.int .u8 c)] w fun e w'=>∃r0:Int,e=.returned (.int .u8 r0)/\K r0 w'
def qlf (v:Int) (from_:Int) (to:Int) (w:World) (K:Int->World->Prop):Prop :=Calls PG 259 #[(.int .i64 v),(.int .i64 from_),(.int .i64 to)] w fun e w'=>∃r0:Int,e=.returned (.int .i64 r0)/\K r0 w'
def qgm (r:Option Addr) (w:World) (K:Int->World->Prop):Prop :=Calls PG 260 #[(.pointer r)] w fun e w'=>∃r0:Int,e=.returned (.int .i64 r0)/\K r0 w'
def qtj  (w:World) (K:Slc->Slc->World->Prop):Prop :=Calls PG 261 #[] w fun e w'=>∃r0:Slc,∃r1:Slc,e=.returned (.tuple #[(.slice r0.a r0.n r0.c),(.slice r1.a r1.n r1.c)])/\K r0 r1 w'
def qgp (lengths:Slc) (w:World) (K:Option Addr->Int->World->Prop):Prop :=Calls PG 262 #[(.slice lengths.a lengths.n lengths.c)] w fun e w'=>∃r0:Option Addr,∃r1:Int,e=.returned (.tuple #[(.pointer r0),(.int .i64 r1)])/\K r0 r1 w'
def qiy (r:Option Addr) (w:World) (K:Int->World->Prop):Prop :=Calls PG 263 #[(.pointer r)] w fun e w'=>∃r0:Int,e=.returned (.int .i64 r0)/\K r0 w'
def qgy (d:Option Addr) (r:Option Addr) (w:World) (K:World->Prop):Prop :=Calls PG 264 #[(.pointer d),(.pointer r)] w fun e w'=>e=.returned (.tuple #[])/\K w'
def qcy (d:Option Addr) (c:Int) (w:World) (K:Int->World->Prop):Prop :=Calls PG 265 #[(.pointer d),(.int .u8 c)] w fun e w'=>∃r0:Int,e=.returned (.int .i64 r0)/\K r0 w'
def qdf (d:Option Addr) (w:World) (K:World->Prop):Prop :=Calls PG 266 #[(.pointer d)] w fun e w'=>e=.returned (.tuple #[])/\K w'
def qpf (r:Option Addr) (t:Option Addr) (n:Int) (w:World) (K:Slc->Int->World->Prop):Prop :=Calls PG 267 #[(.pointer r),(.pointer t),(.int .i64 n)] w fun e w'=>∃r0:Slc,∃r1:Int,e=.returned (.tuple #[(.slice r0.a r0.n r0.c),(.int .i64 r1)])/\K r0 r1 w'
def qd7 (t:Option Addr) (r:Option Addr) (w:World) (K:Int->Int->World->Prop):Prop :=Calls PG 268 #[(.pointer t),(.pointer r)] w fun e w'=>∃r0:Int,∃r1:Int,e=.returned (.tuple #[(.int .i64 r0),(.int .i64 r1)])/\K r0 r1 w'
def ql8 (sign:Int) (w:World) (K:Int->Int->World->Prop):Prop :=Calls PG 269 #[(.int .i64 sign)] w fun e w'=>∃r0:Int,∃r1:Int,e=.returned (.tuple #[(.int .i64 r0),(.int .i64 r1)])/\K r0 r1 w'
def qj3 (sign:Int) (w:World) (K:Int->Int->World->Prop):Prop :=Calls PG 270 #[(.int .i64 sign)] w fun e w'=>∃r0:Int,∃r1:Int,e=.returned (.tuple #[(.int .i64 r0),(.int .i64 r1)])/\K r0 r1 w'
def qrr (b:Slc) (w:World) (K:Bool->World->Prop):Prop :=Calls PG 271 #[(.slice b.a b.n b.c)] w fun e w'=>∃r0:Bool,e=.returned (.bool r0)/\K r0 w'
def qdr (s:Option Addr) (parts:Slc) (w:World) (K:Int->World->Prop):Prop :=Calls PG 272 #[(.pointer s),(.slice parts.a parts.n parts.c)] w fun e w'=>∃r0:Int,e=.returned (.int .u32 r0)/\K r0 w'
def qii  (w:World) (K:Option Addr->World->Prop):Prop :=Calls PG 273 #[] w fun e w'=>∃r0:Option Addr,e=.returned (.pointer r0)/\K r0 w'
def qlk (s:Slc) (v:Int) (w:World) (K:Int->World->Prop):Prop :=Calls PG 274 #[(.slice s.a s.n s.c),(.int .i64 v)] w fun e w'=>∃r0:Int,e=.returned (.int .i64 r0)/\K r0 w'
def qc7 (x:Int) (c0:Addr) (c1:Addr) (c2:Addr) (w:World) (K:Int->World->Prop):Prop :=Calls PG 275 #[(.int .u8 x),(.pointer (some c0)),(.pointer (some c1)),(.pointer (some c2))] w fun e w'=>∃r0:Int,e=.returned (.int .i64 r0)/\K r0 w'
def qin (lengths:Slc) (w:World) (K:Int->World->Prop):Prop :=Calls PG 276 #[(.slice lengths.a lengths.n lengths.c)] w fun e w'=>∃r0:Int,e=.returned (.int .i64 r0)/\K r0 w'
def qeb (t:Option Addr) (w:World) (K:World->Prop):Prop :=Calls PG 277 #[(.pointer t)] w fun e w'=>e=.returned (.tuple #[])/\K w'
def qf7 (s:Slc) (f:Value) (w:World) (K:Bool->World->Prop):Prop :=Calls PG 278 #[(.slice s.a s.n s.c),f] w fun e w'=>∃r0:Bool,e=.returned (.bool r0)/\K r0 w'
def qu4 (c:Int) (w:World) (K:Bool->World->Prop):Prop :=Calls PG 279 #[(.int .u8 c)] w fun e w'=>∃r0:Bool,e=.returned (.bool r0)/\K r0 w'
def qpy (v:Int) (n:Int) (w:World) (K:Int->World->Prop):Prop :=Calls PG 280 #[(.int .u32 v),(.int .i64 n)] w fun e w'=>∃r0:Int,e=.returned (.int .u32 r0)/\K r0 w'
def qg8 (s:Slc) (f:Value) (w:World) (K:Int->World->Prop):Prop :=Calls PG 281 #[(.slice s.a s.n s.c),f] w fun e w'=>∃r0:Int,e=.returned (.int .i64 r0)/\K r0 w'
def qmj (a:Option Addr) (w:World) (K:Int->World->Prop):Prop :=Calls PG 303 #[(.pointer a)] w fun e w'=>∃r0:Int,e=.returned (.int .u32 r0)/\K r0 w'
def qjx (a:Option Addr) (b:Slc) (w:World) (K:Int->Value->World->Prop):Prop :=Calls PG 304 #[(.pointer a),(.slice b.a b.n b.c)] w fun e w'=>∃r0:Int,∃r1:Value,e=.returned (.tuple #[(.int .i64 r0),r1])/\K r0 r1 w'
def qpo (c:Option Addr) (w:World) (K:Int->World->Prop):Prop :=Calls PG 305 #[(.pointer c)] w fun e w'=>∃r0:Int,e=.returned (.int .u32 r0)/\K r0 w'
def qmg (c:Option Addr) (b:Slc) (w:World) (K:Int->Value->World->Prop):Prop :=Calls PG 306 #[(.pointer c),(.slice b.a b.n b.c)] w fun e w'=>∃r0:Int,∃r1:Value,e=.returned (.tuple #[(.int .i64 r0),r1])/\K r0 r1 w'
end Go.Proofs.YtedcpbkcamckoaaGreatDoor
