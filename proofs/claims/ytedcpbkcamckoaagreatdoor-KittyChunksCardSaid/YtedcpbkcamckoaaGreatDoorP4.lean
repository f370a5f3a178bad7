import Derived.Test.YtedcpbkcamckoaaGreatDoorP3
import Derived.Test.YtedcpbkcamckoaaGreatDoorP1
import Derived.Lib.SlBytesConst
set_option linter.unusedVariables false
namespace Go.Proofs.YtedcpbkcamckoaaGreatDoor
open Go.Vc Go.RowKit
set_option maxRecDepth 400000
open Builtin (copy_)
open _root_.Int (ofNat_tdiv toNat_natCast)
open IntKind (i64 u32)
open Lib (indexByte)
open _root_.List (append_assoc length_append length_cons length_map length_take)
open _root_.Nat (le_refl lt_of_lt_of_le mul_one)
open _root_.Option (getD_some)
theorem w8 (y:UInt8):i64.wrap ((y.toNat:Nat):Int)=((y.toNat:Nat):Int):=w64i (by have:=y.toNat_lt;omega)
theorem zew (x y:UInt8):IntKind.u8.wrap ((x.toNat:Int)+(y.toNat:Int))=(((x+y).toNat:Nat):Int):=by
 rw [IntKind.wrap_u8,UInt8.toNat_add];omega
def u8c (x:UInt8):List Value:=[.int .u8 (x.toNat:Int)]
theorem zkh (z:Int):(if (0-z)>z then (0-z) else z)=(z.natAbs:Int):=by split<;>omega
section
variable {w:World}
theorem qii {a b c x:UInt8} {ga gb gc:Nat} {K:Int->World->Prop} (ha:Blk w ga qan (u8c a)) (hb:Blk w gb qan (u8c b)) (hc:Blk w gc qan (u8c c))
  (hK:K ((((a.toNat:Int)+(b.toNat:Int)-(c.toNat:Int)-(x.toNat:Int)).natAbs:Nat):Int) w):qcv (x.toNat:Int) ⟨ga,0,none⟩ ⟨gb,0,none⟩ ⟨gc,0,none⟩ w K:=by
 refine qzj _ _ _ _ ?_;unfold qrs;refine lI (x:=(a.toNat:Int)) (ha.cell 0 rfl) (lI (x:=(b.toNat:Int)) (hb.cell 0 rfl) (lI (x:=(c.toNat:Int)) (hc.cell 0 rfl) ?_));have a8:=a.toNat_lt;have b8:=b.toNat_lt;have c8:=c.toNat_lt;have x8:=x.toNat_lt;rw [w8,w8,w8,w8,w64i (x:=(a.toNat:Int)+(b.toNat:Int)) (by omega),w64i (x:=(a.toNat:Int)+(b.toNat:Int)-(c.toNat:Int)) (by omega),w64i (x:=(a.toNat:Int)+(b.toNat:Int)-(c.toNat:Int)-(x.toNat:Int)) (by omega),
  w64i (x:=0-((a.toNat:Int)+(b.toNat:Int)-(c.toNat:Int)-(x.toNat:Int))) (by omega),zkh]
 exact hK
theorem zce {a b c:UInt8} {K:Int->World->Prop} (hK:∀w',Below w.heap.size w w'->K (((qqq a b c).toNat:Nat):Int) w'):qo6 (a.toNat:Int) (b.toNat:Int) (c.toNat:Int) w K:=by
 refine q12 _ _ _ ?_;unfold quq;refine nwb fun w1 h1 hB1 hs1=>nwb fun w2 h2 hB2 hs2=>nwb fun w3 h3 hB3 hs3=>?_;have hB13:=bT (bT hB1 hB2) hB3;have ha:Blk w3 w.heap.size qan (u8c a):=(h1.ext hB2).ext hB3;have hb:Blk w3 w1.heap.size qan (u8c b):=h2.ext hB3;have hc:Blk w3 w2.heap.size qan (u8c c):=h3;have hBd:=bT hB13 (bdw w3);have had:=ha.ext (bdw w3);have hbd:=hb.ext (bdw w3);have hcd:=hc.ext (bdw w3);refine jpO fun J1 hJ1=>?_;refine lI (x:=(a.toNat:Int)) (had.cell 0 rfl) (lI (x:=(b.toNat:Int)) (hbd.cell 0 rfl) ?_);obtain ⟨p,hp⟩:∃p:Int,p=(a.toNat:Int)+(b.toNat:Int)-(c.toNat:Int):=⟨_,rfl⟩;have kB:(¬((p-(a.toNat:Int)).natAbs<=(p-(b.toNat:Int)).natAbs/\(p-(a.toNat:Int)).natAbs<=(p-(c.toNat:Int)).natAbs))->J1 (false,()) w3.drew:=by
  intro hn;refine hJ1 _ _ (cF rfl ?_);have hBd2:=bT hBd (bdw _);have had:=had.ext (bdw _);have hbd:=hbd.ext (bdw _);have hcd:=hcd.ext (bdw _);refine lI (x:=(b.toNat:Int)) (hbd.cell 0 rfl) (lI (x:=(c.toNat:Int)) (hcd.cell 0 rfl) ?_);refine qii had hbd hcd ⟨hcd.cell 0 rfl,qii had hbd hcd ?_⟩;rw [<-hp];refine cO (fun h=>?_) fun h=>?_
  ·have h:=oTq h;refine lI (x:=(b.toNat:Int)) (hbd.cell 0 rfl) ?_;have:qqq a b c=b:=by unfold qqq;rw [<-hp];dsimp only;rw [if_neg hn,if_pos (by omega)]
   rw [this] at hK;exact hK _ hBd2
  ·have h:=oFq h;refine lI (x:=(c.toNat:Int)) (hcd.cell 0 rfl) ?_;have:qqq a b c=c:=by unfold qqq;rw [<-hp];dsimp only;rw [if_neg hn,if_neg (by omega)]
   rw [this] at hK;exact hK _ hBd2
 refine qii had hbd hcd ⟨hbd.cell 0 rfl,qii had hbd hcd ?_⟩;rw [<-hp];refine cO (fun h=>?_) fun h=>?_
 ·have h:=oTq h;refine lI (x:=(a.toNat:Int)) (had.cell 0 rfl) (lI (x:=(c.toNat:Int)) (hcd.cell 0 rfl) ?_);refine qii had hbd hcd ⟨hcd.cell 0 rfl,qii had hbd hcd ?_⟩;rw [<-hp];by_cases h2:(p-(a.toNat:Int)).natAbs<=(p-(c.toNat:Int)).natAbs
  ·rw [dTq (by omega)];refine hJ1 _ _ (cT rfl (lI (x:=(a.toNat:Int)) (had.cell 0 rfl) ?_));have:qqq a b c=a:=by unfold qqq;rw [<-hp];dsimp only;rw [if_pos ⟨by omega,h2⟩]
   rw [this] at hK;exact hK _ hBd
  ·rw [dFq (by omega)];exact kB fun e=>h2 e.2
 ·have h:=oFq h;exact kB fun e=>h (by omega)
theorem zd0 {kind step:Int} {row ahead:Slc} {K:Bool->World->Prop} (hK:K (decide (0<=kind/\kind<=4/\1<=step/\step<=8/\(ahead.n=0\/ahead.n=row.n))) w):qpj kind row ahead step w K:=by
 refine q1v _ _ _ _ ?_;unfold qud;by_cases h1:kind>=0
 ·refine cT (dTq h1) ?_;by_cases h2:kind<=4
  ·refine cT (dTq h2) ?_;by_cases h3:step>=1
   ·refine cT (dTq h3) ?_;by_cases h4:step<=8
    ·refine cT (dTq h4) ?_;by_cases h5:ahead.n=0
     ·refine cT (zfk (by omega)) ?_;rw [dTq ⟨h1,h2,h3,h4,.inl h5⟩] at hK;exact hK
     ·refine cF (qtd (by omega)) ?_;by_cases h6:ahead.n=row.n
      ·rw [dTq ⟨h1,h2,h3,h4,.inr h6⟩] at hK;rw [zfk (by omega)];exact hK
      ·rw [dFq (by omega)] at hK;rw [qtd (by omega)];exact hK
    ·refine cF (dFq h4) ?_;rw [dFq (by omega)] at hK;exact hK
   ·refine cF (dFq h3) ?_;rw [dFq (by omega)] at hK;exact hK
  ·refine cF (dFq h2) ?_;rw [dFq (by omega)] at hK;exact hK
 ·refine cF (dFq h1) ?_;rw [dFq (by omega)] at hK;exact hK
theorem zdi {kind i step:Nat} {row ahead:Slc} {rs ah:List UInt8} {K:Int->World->Prop} (hr:Rd qae w row rs) (ha:Rd qae w ahead ah) (hk:kind<=4) (h1:1<=step) (hil:i<rs.length) (hal:ah=[]\/ah.length=rs.length) (hl:rs.length<=1000000000)
  (hK:∀w',Below w.heap.size w w'->K ((gAt kind rs ah step i).toNat:Nat) w'):qpe (kind:Int) (i:Int) row ahead (step:Int) w K:=by
 refine q1y _ _ _ _ _ ?_;unfold qup;unfold gAt at hK;have hp0:¬step<=i->∀l,prevP l i step=0:=fun h l=>by unfold prevP;rw [if_neg h]
 have hp1:step<=i->∀l:List UInt8,∀x,l[i-step]?=some x->prevP l i step=x:=fun h l x hx=>by unfold prevP;rw [if_pos h,hx];rfl
 refine jpO fun J1 hJ1=>?_;have key:∀a:UInt8,prevP rs i step=a->J1 (((a.toNat:Nat):Int),()) w:=by
  intro a ea;rw [ea] at hK;refine hJ1 _ _ (jpO fun J2 hJ2=>?_);have key2:∀b c:UInt8,ah[i]?.getD 0=b->prevP ah i step=c->J2 (((b.toNat:Nat):Int),((c.toNat:Nat):Int),()) w:=by
   intro b c eb ec;rw [eb,ec] at hK;refine hJ2 _ _ ?_;dsimp only;have a8:=a.toNat_lt;have b8:=b.toNat_lt;refine cO (fun h=>?_) fun h=>?_
   ·have h:kind=3:=by
                have:(kind:Int)=3:=by simpa using h
                omega
    subst h;refine ⟨by decide,?_⟩;have e:IntKind.u8.wrap (i64.wrap ((i64.wrap ((i64.wrap ((a.toNat:Nat):Int))+(i64.wrap ((b.toNat:Nat):Int)))).tdiv (2:Int)))=(((UInt8.ofNat ((a.toNat+b.toNat)/2)).toNat:Nat):Int):=by
     rw [w8,w8,show ((a.toNat:Nat):Int)+((b.toNat:Nat):Int)=((a.toNat+b.toNat:Nat):Int) from rfl,w64i (x:=((a.toNat+b.toNat:Nat):Int)) (by omega),show (2:Int)=((2:Nat):Int) from rfl,<-ofNat_tdiv,w64i (by omega),qtq]
    rw [e];exact hK w (Below.refl _ _)
   have h3:kind≠3:=by
                have:(kind:Int)≠3:=by simpa using h
                omega
   refine cO (fun h=>?_) fun h=>?_
   ·have h:kind=4:=by
                have:(kind:Int)=4:=by simpa using h
                omega
    subst h;exact zce fun w3 hB3=>hK w3 hB3
   have h4:kind≠4:=by
                have:(kind:Int)≠4:=by simpa using h
                omega
   refine cO (fun h=>?_) fun h=>?_
   ·have h:kind=2:=by
                have:(kind:Int)=2:=by simpa using h
                omega
    subst h;exact hK w (Below.refl _ _)
   have h2:kind≠2:=by
                have:(kind:Int)≠2:=by simpa using h
                omega
   refine cO (fun h=>?_) fun h=>?_
   ·have h:kind=1:=by
                have:(kind:Int)=1:=by simpa using h
                omega
    subst h;exact hK w (Below.refl _ _)
   have h1:kind≠1:=by
                have:(kind:Int)≠1:=by simpa using h
                omega
   obtain rfl:kind=0:=by omega
   exact hK w (Below.refl _ _)
  rw [ha.n];refine cO (fun hlt=>?_) fun hge=>?_
  ·have hlt:=oTq hlt;obtain ⟨b,hb,hbs⟩:=qcw (xs:=ah) (k:=i) (by omega);refine ha.ix (i:=(i:Int)) rfl (by omega) (by omega) fun hcb=>?_;rw [hbs] at hcb;refine ldB8 (b:=b) hcb ?_;refine cO (fun hs=>?_) fun hs=>?_
   ·have hs:=oTq hs;have e:i64.wrap ((i:Int)-(step:Int))=((i-step:Nat):Int):=by rw [w64i (by omega)];omega
    rw [e];obtain ⟨c,hc,hcs⟩:=qcw (xs:=ah) (k:=i-step) (by omega);refine ha.ix (i:=((i-step:Nat):Int)) rfl (by omega) (by omega) fun hcc=>?_;rw [hcs] at hcc;refine ldB8 (b:=c) hcc ?_;exact key2 b c (by rw [hb];rfl) (hp1 (by omega) _ _ hc)
   ·have hs:=oFq hs;exact key2 b 0 (by rw [hb];rfl) (hp0 (by omega) _)
  ·have hge:=oFq hge;have he:ah=[]:=by
    rcases hal with h | h
    ·exact h
    ·exact absurd hil (by omega)
   subst he;refine key2 0 0 rfl ?_;unfold prevP;split<;>rfl
 refine cO (fun hs=>?_) fun hs=>?_
 ·have hs:=oTq hs;have e:i64.wrap ((i:Int)-(step:Int))=((i-step:Nat):Int):=by rw [w64i (by omega)];omega
  rw [e];obtain ⟨a,ha',has⟩:=qcw (xs:=rs) (k:=i-step) (by omega);refine hr.ix (i:=((i-step:Nat):Int)) rfl (by omega) (by omega) fun hca=>?_;rw [has] at hca;refine ldB8 (b:=a) hca ?_;exact key a (hp1 (by omega) _ _ ha')
 ·have hs:=oFq hs;exact key 0 (hp0 (by omega) _)
theorem zen (kind:Nat) (row ahead:List UInt8) (step i:Nat) {x:UInt8} (hx:row[i]?=some x) (hs:1<=step):(undoP kind row ahead step)[i]?=some (x+gAt kind (undoP kind row ahead step) ahead step i):=by
 have h:=zdq kind row ahead step i hx hs;have hi:i<row.length:=(List.getElem?_eq_some_iff.1 hx).1;have h2:((undoP kind row ahead step).take (i+1))[i]?=(undoP kind row ahead step)[i]?:=List.getElem?_take_of_lt (by omega);rw [<-h2,h,List.getElem?_append_right (by rw [length_take];omega),length_take,qn0,Nat.min_eq_left (by omega),Nat.sub_self];rfl
theorem zjt {kind:Nat} {ys xs ah:List UInt8} {step i:Nat} (h:ys.length=xs.length) (hi:i<xs.length) (hs:1<=step):gAt kind (mix ys xs i) ah step i=gAt kind ys ah step i:=by
 unfold gAt;congr 1;unfold prevP;split
 ·rw [qwi h hi,if_pos (by omega)]
 ·rfl
theorem zfd {kind step:Nat} {row ahead:Slc} {rs ah:List UInt8} {K:Slc->Int->World->Prop} (hr:Rd qae w row rs) (ha:Rd qae w ahead ah) (h1:1<=step) (h8:step<=8) (hal:ah=[]\/ah.length=rs.length) (hl:rs.length<=1000000000)
  (hB:4<kind->K ⟨none,0,0⟩ 1 w) (hK:kind<=4->∀r w',Go.Vc.Own qae w' w.heap.size r (undoP kind rs ah step)->Below w.heap.size w w'->K r 0 w'):qqu (kind:Int) row ahead (step:Int) w K:=by
 refine q26 _ _ _ _ ?_;unfold qvw;refine zd0 ?_;have hno:ahead.n=0\/ahead.n=row.n:=by
  rw [ha.n,hr.n];rcases hal with h | h
  ·left;rw [h];rfl
  ·exact .inr h
 refine cO (fun h=>?_) fun h=>?_
 ·refine hB (Nat.lt_of_not_le fun e=>?_);rw [dTq ⟨by omega,by omega,by omega,by omega,hno⟩] at h;cases h
 have hk:kind<=4:=by
  by_cases hk:kind<=4
  ·exact hk
  ·rw [dFq (by omega)] at h;cases h
 have hK:=hK hk;obtain ⟨ys,hys⟩:∃ys,ys=undoP kind rs ah step:=⟨_,rfl⟩;have hyl:ys.length=rs.length:=by rw [hys,qn0]
 rw [<-hys] at hK;refine qgp hr (by omega) fun t w2 ht hB2=>?_;refine lpR (fun (st:Int×Unit) w3=>∃i:Nat,st.1=i/\i<=rs.length/\Go.Vc.Own qae w3 w.heap.size t (mix ys rs i)/\Below w.heap.size w w3) (fun st=>rs.length-st.1.toNat) ⟨0,rfl,by omega,by rw [qxh];exact ht,hB2⟩ ?_;rintro ⟨i,u⟩ w3 ⟨i,rfl,hi,hT,hB3⟩ I hI;dsimp only;have htn:=hT.rd.n;rw [qm5 hyl] at htn;rw [htn];refine cO (fun hlt=>?_) fun hge=>?_
 ·have hlt:=oTq hlt;have hil:i<rs.length:=by omega
  have hml:=qm5 hyl i;obtain ⟨x,hx,hxs⟩:=qcw (xs:=rs) (k:=i) hil;have hxm:(mix ys rs i)[i]?=some x:=by rw [qwi hyl hil,if_neg (by omega)];exact hx
  have ix:∀{w':World} {K:Addr->Prop},Go.Vc.Own qae w' w.heap.size t (mix ys rs i)->K (t.at_ qae.k i)->ixK t (i:Int) 1 K:=fun {w' K} h hk=>h.rd.ix (i:=(i:Int)) rfl (by omega) (by omega) fun _=>by simpa using hk
  have hTd:=hT.ext (bdw w3);refine ix hT (lI (qdo hTd.rd hxm) ?_);have hBd:=bT hB3 (bdw w3);refine zdi hTd.rd (ha.ext hBd) hk h1 (by omega) (by rw [hml];exact hal) (by omega) fun w4 hB4=>?_;have hT4:=hTd.ext hB4;refine ⟨qdo hT4.rd hxm,ix hT4 ?_⟩;rw [zjt hyl hil h1,zew];refine hT4.st0 (x:=x) (y:=x+gAt kind ys ah step i) hxm rfl fun w5 hT5 hg5 hs5=>?_;have hy:ys[i]?=some (x+gAt kind ys ah step i):=by rw [hys];exact zen kind rs ah step i hx h1
  rw [q1r hyl hil hy] at hT5;rw [w64i (by omega)];refine hI _ _ ⟨i+1,rfl,by omega,hT5,?_⟩ (by simp;omega);exact (bT hBd hB4).grown hg5 (bT hBd hB4).size fun k hk=>(hT4.lt k hk).1
 ·have hge:=oFq hge;obtain rfl:i=rs.length:=by omega
  rw [q1n hyl] at hT;exact hK t w3 hT hB3
theorem q1c {n:Int} {K:Bool->World->Prop} (hK:K (qdj n) w):qhz n w K:=by
 refine qzl _ ?_;unfold qrt;unfold qdj at hK;refine cO (fun h=>?_) fun h=>?_
 ·rw [eq_of_beq h] at hK;exact hK
 have h1:n≠1:=by simpa using h
 refine cO (fun h=>?_) fun h=>?_
 ·rw [eq_of_beq h] at hK;exact hK
 have h2:n≠2:=by simpa using h
 refine cO (fun h=>?_) fun h=>?_
 ·rw [eq_of_beq h] at hK;exact hK
 have h4:n≠4:=by simpa using h
 refine cO (fun h=>?_) fun h=>?_
 ·rw [eq_of_beq h] at hK;exact hK
 have h8:n≠8:=by simpa using h
 rw [dFq h1,dFq h2,dFq h4,dFq h8] at hK;have e:(n==(16:Int))=decide (n=16):=by rw [Bool.eq_iff_iff];simp
 rw [e];exact hK
theorem q8x {wx samples depth:Int} {K:Int->World->Prop} (hK:K ((rowP wx samples depth:Nat):Int) w):qn2 wx samples depth w K:=by
 refine q40 _ _ _ ?_;unfold qyv;unfold rowP at hK;refine jpO fun J hJ=>?_;refine cO (fun h=>?_) fun h=>?_
 ·rw [if_pos (.inl (oTq h))] at hK;exact hK
 have h1:=oFq h;refine cO (fun h=>?_) fun h=>?_
 ·rw [if_pos (.inr (.inl (oTq h)))] at hK;exact hK
 have h2:=oFq h;refine cO (fun h=>?_) fun h=>?_
 ·rw [if_pos (.inr (.inr (.inl (oTq h))))] at hK;exact hK
 have h3:=oFq h;refine cO (fun h=>?_) fun h=>?_
 ·rw [if_pos (.inr (.inr (.inr (.inl (oTq h)))))] at hK;exact hK
 have h4:=oFq h;refine q1c ?_;cases hd:qdj depth with
 | false =>
  rw [if_pos (.inr (.inr (.inr (.inr hd))))] at hK;exact cT rfl hK
 | true =>
  rw [if_neg (by rw [hd];simp;omega)] at hK;refine cF rfl (hJ _ _ ⟨by decide,?_⟩);have hdp:1<=depth/\depth<=16:=by
   unfold qdj at hd;simp at hd;omega
  have a1:0<=wx*samples:=Int.mul_nonneg (by omega) (by omega);have a2:wx*samples<=16384*4:=Int.mul_le_mul (by omega) (by omega) (by omega) (by omega);have a3:0<=wx*samples*depth:=Int.mul_nonneg a1 (by omega);have a4:wx*samples*depth<=16384*4*16:=Int.mul_le_mul a2 (by omega) (by omega) (by omega);rw [w64i (x:=wx*samples) (by omega),w64i (x:=wx*samples*depth) (by omega),w64i (x:=wx*samples*depth+7) (by omega),Int.tdiv_eq_ediv_of_nonneg (by omega),w64i (by omega)];have e:(((wx*samples*depth+7)/8).toNat:Int)=(wx*samples*depth+7)/8:=by omega
  rw [e] at hK;exact hK
def passT (p:PassP):qa2:=⟨p.x,p.y,p.dx,p.dy⟩
theorem q2r {n:Nat} {K:Bool->World->Prop} (h1:1<=n) (h2:n<=16384) (hK:K true w):qiz (n:Int) w K:=by
 refine q0c _ ?_;unfold qsq;refine cT (dTq (by omega)) ?_;rw [dTq (by omega)];exact hK
theorem ze2 {p:PassP} {W H:Nat} {K:Int->Int->World->Prop} (hW1:1<=W) (hW2:W<=16384) (hH1:1<=H) (hH2:H<=16384) (hdx:1<=p.dx) (hdy:1<=p.dy)
  (hK:∀w',Below w.heap.size w w'->K ((sizeP p W H).1:Nat) ((sizeP p W H).2:Nat) w'):qq9 (passT p) (W:Int) (H:Int) w K:=by
 refine q3k _ _ _ ?_;unfold qvs;refine nwb fun w1 h1 hB1 hs1=>?_;refine jpO fun J hJ=>?_;refine q2r hW1 hW2 (cF rfl (q2r hH1 hH2 (cF rfl ?_)));unfold sizeP at hK;refine lI (x:=(p.x:Int)) (h1.cells 0 _ rfl) (cF (dFq (by omega)) ?_);refine lI (x:=(p.y:Int)) (h1.cells 1 _ rfl) (cF (dFq (by omega)) ?_);refine lI (x:=(p.dx:Int)) (h1.cells 2 _ rfl) (cF (dFq (by omega)) ?_);refine lI (x:=(p.dy:Int)) (h1.cells 3 _ rfl) (cF (dFq (by omega)) ?_);refine lI (x:=(p.x:Int)) (h1.cells 0 _ rfl) ?_;refine cO (fun h=>?_) fun h=>?_
 ·have h:=oTq h;rw [if_pos (.inl (by omega))] at hK;exact hK w1 hB1
 have hx:=oFq h;refine lI (x:=(p.y:Int)) (h1.cells 1 _ rfl) ?_;refine cO (fun h=>?_) fun h=>?_
 ·have h:=oTq h;rw [if_pos (.inr (by omega))] at hK;exact hK w1 hB1
 have hy:=oFq h;rw [if_neg (by omega)] at hK;refine qal (r:=qa2.rep) (x:=passT p) h1.cells ?_;have hz:(((passT p).X==(0:Int)) && (((passT p).Y==(0:Int)) && (((passT p).DX==(0:Int)) && (((passT p).DY==(0:Int)) && true))))=false:=by
  have:((passT p).DX==(0:Int))=false:=qtd (by show (p.dx:Int)≠0;omega);rw [this];simp
 refine cF hz (hJ _ _ ?_);have hd:=h1.ext (bdw w1);refine lI (x:=(p.x:Int)) (hd.cells 0 _ rfl) (lI (x:=(p.dx:Int)) (hd.cells 2 _ rfl) ⟨by omega,?_⟩);refine lI (x:=(p.y:Int)) (hd.cells 1 _ rfl) (lI (x:=(p.dy:Int)) (hd.cells 3 _ rfl) ⟨by omega,?_⟩);have e:∀(n a d:Nat),n<=16384->a<n->1<=d->i64.wrap ((i64.wrap ((i64.wrap ((i64.wrap ((n:Int)-(a:Int)))-(1:Int))).tdiv (d:Int)))+(1:Int))=(((n-a-1)/d+1:Nat):Int):=by
  intro n a d hn ha hd;rw [w64i (x:=(n:Int)-(a:Int)) (by omega),w64i (x:=(n:Int)-(a:Int)-1) (by omega),show (n:Int)-(a:Int)-1=((n-a-1:Nat):Int) by omega,<-ofNat_tdiv];have:(n-a-1)/d<=n-a-1:=Nat.div_le_self _ _;generalize (n-a-1)/d=q at this ⊢;rw [w64i (x:=(q:Int)) (by omega),w64i (by omega)];rfl
 rw [e W p.x p.dx hW2 (by omega) hdx,e H p.y p.dy hH2 (by omega) hdy];exact hK _ (bT hB1 (bdw w1))
theorem zb6 {d i:Nat} (h:d=1\/d=2\/d=4\/d=8):i*d%8+d<=8:=by
 rcases h with rfl | rfl | rfl | rfl<;>omega
def intsN (l:List Nat):List Int:=l.map fun (v:Nat)=>(v:Int)
theorem qpm (l:List Nat):(intsN l).length=l.length:=by simp [intsN]
theorem q8j (l:List Nat) (i:Nat):(intsN l)[i]?=(l[i]?).map fun (v:Nat)=>(v:Int):=by simp [intsN]
theorem q7k {row:Slc} {rs:List UInt8} {d n:Nat} {K:Slc->Int->World->Prop} (hr:Rd qae w row rs) (hd:d=1\/d=2\/d=4\/d=8\/d=16) (hn:n*d<=8*rs.length) (hl:rs.length<=1000000000)
  (hK:∀r w',Go.Vc.Own E_int w' w.heap.size r (intsN (qfu rs d n))->Below w.heap.size w w'->K r 0 w'):ql1 row (d:Int) (n:Int) w K:=by
 refine qzk _ _ _ ?_;unfold qrj;have hd1:1<=d/\d<=16:=by omega
 have hnl:n<=8*rs.length:=Nat.le_trans (Nat.le_mul_of_pos_right n (by omega)) hn;have hdP:qdj (d:Int)=true:=by
  unfold qdj;rcases hd with rfl | rfl | rfl | rfl | rfl<;>rfl
 refine jpO fun J1 hJ1=>jpO fun J3 hJ3=>?_;refine q1c ?_;rw [hdP];refine cF rfl ?_;rw [dFq (by omega)];refine hJ3 _ _ (cF rfl ⟨by omega,?_⟩);rw [hr.n];have e1:i64.wrap ((i64.wrap ((8:Int)*((rs.length:Nat):Int))).tdiv (d:Int))=((8*rs.length/d:Nat):Int):=by
  rw [w64i (x:=(8:Int)*((rs.length:Nat):Int)) (by omega),show (8:Int)*((rs.length:Nat):Int)=((8*rs.length:Nat):Int) by simp,<-ofNat_tdiv];have:8*rs.length/d<=8*rs.length:=Nat.div_le_self _ _;generalize 8*rs.length/d=q at this ⊢;rw [w64i (by omega)]
 rw [e1];have hle:n<=8*rs.length/d:=(Nat.le_div_iff_mul_le (by omega)).2 hn;refine cF (dFq (by omega)) (hJ1 _ _ ?_);clear hJ1 hJ3;obtain ⟨ys,hys⟩:∃ys,ys=intsN (qfu rs d n):=⟨_,rfl⟩;have hyl:ys.length=n:=by rw [hys,qpm];simp [qfu]
 have hyg:∀i,i<n->ys[i]?=some ((qph rs d i:Nat):Int):=fun i hi=>by
  rw [hys,q8j];simp [qfu,hi]
 rw [<-hys] at hK;have hyl':ys.length=(List.replicate n (0:Int)).length:=by rw [List.length_replicate];exact hyl
 have hml:∀i,(mix ys (List.replicate n 0) i).length=n:=fun i=>by rw [qm5 hyl',List.length_replicate]
 refine qpl qhd (x0:=(0:Int)) rfl (n:=n) rfl rfl (by rw [qjn];omega) (by unfold maxLen;omega) fun w2 hT0 hB2=>?_;obtain ⟨t,ht⟩:∃t:Slc,t=⟨some ⟨w.heap.size,0,none⟩,n,n⟩:=⟨_,rfl⟩;rw [<-ht] at hT0 ⊢;have htn:t.n=n:=by rw [ht]
 refine lpR (fun (st:Int×Unit) w3=>∃i:Nat,st.1=i/\i<=n/\Go.Vc.Own E_int w3 w.heap.size t (mix ys (List.replicate n 0) i)/\Below w.heap.size w w3) (fun st=>n-st.1.toNat) ⟨0,rfl,by omega,by rw [qxh];exact hT0,hB2⟩ ?_;rintro ⟨i,u⟩ w3 ⟨i,rfl,hi,hT,hB3⟩ I hI;dsimp only;rw [htn];refine cO (fun hlt=>?_) fun hge=>?_
 ·have hlt:=oTq hlt;have hil:i<n:=by omega
  have hBd:=bT hB3 (bdw w3);have hr3:=hr.ext hB3;have hrd:=hr.ext hBd;have hTd:=hT.ext (bdw w3);have hzi:(mix ys (List.replicate n 0) i)[i]?=some (0:Int):=by rw [qwi hyl' (by simpa using hil),if_neg (by omega)];simp [hil]
  have hid:i*d<n*d:=Nat.mul_lt_mul_of_pos_right hil (by omega);have st:∀v:Int,v=((qph rs d i:Nat):Int)->ixK t (i:Int) 1 fun t53=>stK t53 [.int .i64 v] w3.drew fun w4=>I ((i64.wrap ((i:Int)+(1:Int))),()) w4:=by
   intro v hv;refine hTd.rd.ix (i:=(i:Int)) rfl (by omega) (by rw [hml];omega) fun _=>?_;refine hTd.st0 (x:=(0:Int)) (y:=v) (by simpa using hzi) rfl fun w4 hT4 hg4 hs4=>?_;rw [toNat_natCast,hv,q1r hyl' (by simpa using hil) (hyg i hil)] at hT4;rw [w64i (by omega)];refine hI _ _ ⟨i+1,rfl,by omega,hT4,?_⟩ (by simp;omega);exact hBd.grown hg4 hBd.size fun k hk=>(hTd.lt k hk).1
  refine cO (fun h16=>?_) fun h16=>?_
  ·have h16:d=16:=by
    have:=eq_of_beq h16;omega
   subst h16;obtain ⟨x,hx,hxs⟩:=qcw (xs:=rs) (k:=2*i) (by omega);obtain ⟨y,hy,hys'⟩:=qcw (xs:=rs) (k:=2*i+1) (by omega);have x8:=x.toNat_lt;have y8:=y.toNat_lt;have ei:i64.wrap ((2:Int)*(i:Int))=((2*i:Nat):Int):=by rw [w64i (by omega)];simp
   have ei1:i64.wrap ((((2*i:Nat)):Int)+(1:Int))=((2*i+1:Nat):Int):=by rw [w64i (by omega)];rfl
   rw [ei,ei1];refine hr3.ix (i:=((2*i:Nat):Int)) rfl (by omega) (by omega) fun _=>?_;refine lI (x:=(x.toNat:Int)) (by rw [toNat_natCast];exact qdo hrd hx) ⟨by decide,?_⟩;refine hr3.ix (i:=((2*i+1:Nat):Int)) rfl (by omega) (by omega) fun _=>?_;refine lI (x:=(y.toNat:Int)) (by rw [toNat_natCast];exact qdo hrd hy) (st _ ?_);rw [w8,w8,show min ((8:Int)).toNat i64.bits=8 by decide,qbk,qax .i64 (x:=x.toNat*2^8) (by show _<2^63;omega),qd3 .i64 (by show _<2^63;omega) (by show _<2^63;omega)];have e:x.toNat*2^8 ||| y.toNat=x.toNat*256+y.toNat:=by
    rw [Nat.or_comm,Nat.mul_comm,qg8 (by omega)];omega
   rw [e];unfold qph;rw [if_pos rfl,hx,hy];rfl
  ·have h16:d≠16:=by
    intro h;rw [h] at h16;cases h16
   have hd':d=1\/d=2\/d=4\/d=8:=by omega
   have hsm:=zb6 (i:=i) hd';refine ⟨by decide,?_⟩;have ei:i64.wrap ((i:Int)*(d:Int))=((i*d:Nat):Int):=by
    have:i*d<=n*d:=by omega
    rw [show (i:Int)*(d:Int)=((i*d:Nat):Int) by simp,w64i (by omega)]
   have e8:i64.wrap ((((i*d:Nat)):Int).tdiv (8:Int))=((i*d/8:Nat):Int):=by
    rw [show (8:Int)=((8:Nat):Int) from rfl,<-ofNat_tdiv,w64i (by omega)]
   have em:(((i*d:Nat)):Int).tmod (8:Int)=((i*d%8:Nat):Int):=by
    rw [show (8:Int)=((8:Nat):Int) from rfl,Int.ofNat_tmod]
   rw [ei,e8,em];obtain ⟨x,hx,hxs⟩:=qcw (xs:=rs) (k:=i*d/8) (by omega);have x8:=x.toNat_lt;refine hr3.ix (i:=((i*d/8:Nat):Int)) rfl (by omega) (by omega) fun _=>?_;refine lI (x:=(x.toNat:Int)) (by rw [toNat_natCast];exact qdo hrd hx) ?_;have esh:i64.wrap ((i64.wrap ((8:Int)-(d:Int)))-((i*d%8:Nat):Int))=((8-d-i*d%8:Nat):Int):=by
    rw [w64i (x:=(8:Int)-(d:Int)) (by omega),w64i (by omega)];omega
   rw [esh];refine ⟨by decide,by omega,by omega,st _ ?_⟩;rw [w8,show min (((8-d-i*d%8:Nat):Int)).toNat i64.bits=8-d-i*d%8 by rw [toNat_natCast];show min _ 64=_;omega,show min ((d:Int)).toNat i64.bits=d by rw [toNat_natCast];show min _ 64=_;omega,qft,Int.one_mul];have hpd:(2:Nat)^d<=2^8:=Nat.pow_le_pow_right (by decide) (by omega);have hp0:0<(2:Nat)^d:=Nat.pow_pos (by decide);rw [show (2:Int)^d=((2^d:Nat):Int) by simp,w64i (x:=((2^d:Nat):Int)) (by omega),show ((2^d:Nat):Int)-1=((2^d-1:Nat):Int) by omega,w64i (by omega)];have hxd:x.toNat/2^(8-d-i*d%8)<=x.toNat:=Nat.div_le_self _ _;rw [qgr .i64 (by show _<2^63;omega) (by show _<2^63;omega),Nat.and_two_pow_sub_one_eq_mod];unfold qph;rw [if_neg h16,hx];rfl
 ·have hge:=oFq hge;obtain rfl:i=n:=by omega
  have:=q1n hyl';rw [List.length_replicate] at this;rw [this] at hT;exact hK t w3 hT hB3
end
def q37:List UInt8:=[65,66,67,68,69,70,71,72,73,74,75,76,77,78,79,80,81,82,83,84,85,86,87,88,89,90,97,98,99,100,101,102,103,104,105,106,107,108,109,110,111,112,113,114,115,116,117,118,119,120,121,122,48,49,50,51,52,53,54,55,56,57,43,47]
def valB (c:UInt8):Option Nat :=
 if 65<=c.toNat/\c.toNat<=90 then some (c.toNat-65) else if 97<=c.toNat/\c.toNat<=122 then some (c.toNat-97+26) else if 48<=c.toNat/\c.toNat<=57 then some (c.toNat-48+52) else if c.toNat=43 then some 62 else if c.toNat=47 then some 63 else none
theorem zbw {c:UInt8} {v:Nat} (h:valB c=some v):v<64:=by
 unfold valB at h
 repeat' split at h
 all_goals (first | (cases h;omega) | cases h)
def valI (c:UInt8):Int:=match valB c with | some v=>(v:Int) | none=>-1
theorem zei {P:UInt8->Prop} (h:∀n,n<256->P (UInt8.ofNat n)) (c:UInt8):P c:=by
 have:=h c.toNat c.toNat_lt
 rwa [UInt8.ofNat_toNat] at this
theorem zh0 (c:UInt8):indexByte q37 c=valI c:=by
 have h:∀n,n<256->indexByte q37 (UInt8.ofNat n)=valI (UInt8.ofNat n):=by decide +kernel
 exact zei (P:=fun c=>indexByte q37 c=valI c) h c
structure B64 where
 w:List Nat
 f:Nat
 last:Bool
 bad:Bool
def b64N:B64:=⟨[],0,false,false⟩
def b64X:B64:=⟨[],0,false,true⟩
def valN (w:List Nat):Nat:=w.foldl (fun a x=>64*a+x) 0
def be3 (v:Nat):List UInt8:=[UInt8.ofNat (v/2^16),UInt8.ofNat (v/2^8),UInt8.ofNat v]
def outB (w:List Nat):List UInt8:=(be3 (valN w*2^(6*(4-w.length)))).take (w.length*6/8)
def qpx (w:List Nat):Bool:=decide (valN w%2^(w.length*6%8)=0)
def qey (s:B64):List UInt8×B64:=if s.w.length+s.f<4 then ([],s) else (outB s.w,⟨[],0,decide (0<s.f),false⟩)
def qj5 (s:B64) (c:UInt8):Option (List UInt8×B64) :=
 if s.last then none
 else if c.toNat=61 then (if s.w.length+s.f<2\/qpx s.w=false then none else some (qey { s with f:=s.f+1 }))
 else match valB c with
  | none=>none
  | some v=>if 0<s.f then none else some (qey { s with w:=s.w++[v] })
def qd1 (s:B64) (c:UInt8):Nat×List UInt8×B64 :=
 if s.bad then (3,[],b64X) else match qj5 s c with
  | none=>(3,[],b64X)
  | some (o,s')=>(0,o,s')
def qi4 (s:B64):Nat×List UInt8×B64 :=
 if s.bad\/s.w.length+s.f=1\/0<s.f\/qpx s.w=false then (3,[],b64X) else (0,outB s.w,b64N)
structure B64Ok (s:B64):Prop where
 n:s.w.length+s.f<4
 v:∀x∈s.w,x<64
 two:0<s.f->2<=s.w.length
theorem zgq (w:List Nat) (x:Nat):valN (w++[x])=64*valN w+x:=by simp [valN]
theorem zb2:∀(w:List Nat) (a n:Nat),a<64^n->(∀x∈w,x<64)->w.foldl (fun a x=>64*a+x) a<64^(n+w.length)
 | [],a,n,h,_=>by simpa using h
 | x::w,a,n,h,hw=>by
  have hx:=hw x (by simp);have:=zb2 w (64*a+x) (n+1) (by rw [Nat.pow_succ];omega) fun y hy=>hw y (by simp [hy]);rw [List.foldl_cons,length_cons,show n+(w.length+1)=n+1+w.length by omega];exact this
theorem q1m (w:List Nat) (h:∀x∈w,x<64):valN w<64^w.length:=by
 have:=zb2 w 0 0 (by decide) h
 rwa [Nat.zero_add] at this
theorem q50:B64Ok b64X:=⟨by decide,by simp [b64X],by simp [b64X]⟩
theorem zbo:B64Ok b64N:=⟨by decide,by simp [b64N],by simp [b64N]⟩
theorem q6b {s:B64} (h1:s.w.length+s.f<=4) (h2:∀x∈s.w,x<64) (h3:0<s.f->2<=s.w.length):B64Ok (qey s).2:=by
 unfold qey;split
 ·exact ⟨by assumption,h2,h3⟩
 ·exact ⟨by simp,by simp,by simp⟩
theorem zez {s:B64} (h:B64Ok s) (c:UInt8):B64Ok (qd1 s c).2.2:=by
 unfold qd1;split
 ·exact q50
 ·cases hp:qj5 s c with
  | none=>exact q50
  | some r =>
   obtain ⟨o,s'⟩:=r;show B64Ok s';unfold qj5 at hp;split at hp
   ·cases hp
   ·split at hp
    ·split at hp
     ·cases hp
     ·rename_i hc;have:=Option.some.inj hp;have e:s'=(qey { s with f:=s.f+1 }).2:=by rw [this]
      rw [e];refine q6b (by have:=h.n;show s.w.length+(s.f+1)<=4;omega) h.v fun _=>?_;show 2<=s.w.length;by_cases hf:0<s.f
      ·exact h.two hf
      ·omega
    ·cases hv:valB c with
     | none=>rw [hv] at hp;cases hp
     | some v =>
      rw [hv] at hp;dsimp only at hp;split at hp
      ·cases hp
      ·rename_i hf;have:=Option.some.inj hp;have e:s'=(qey { s with w:=s.w++[v] }).2:=by rw [this]
       rw [e];refine q6b (by have:=h.n;show (s.w++[v]).length+s.f<=4;rw [length_append,List.length_singleton];omega) (fun x hx=>?_) fun h0=>absurd h0 hf;rcases List.mem_append.1 hx with hx | hx
       ·exact h.v x hx
       ·rw [List.mem_singleton] at hx;subst hx;exact zbw hv
theorem zii (w:List Nat) (h:w.length<=4):(outB w).length=w.length*6/8:=by
 unfold outB;rw [length_take];show min _ 3=_;omega
def q77 (s:B64):List Value:=[.int .u32 (valN s.w:Int),.int .i64 ((s.w.length+s.f:Nat):Int),.int .i64 (s.f:Int),.bool s.last,.bool s.bad]
def DecB (w:World) (g:Nat) (s:B64):Prop:=Blk w g qk1 (q77 s)
section
variable {w:World} {g:Nat} {s:B64}
theorem q5i {bs:List UInt8} {c:UInt8} {i:Int} (hi:i=c.toNat) {K:Int->World->Prop} (hK:K (indexByte bs c) w):qej (strB bs) i w K:=by
 subst hi;refine Calls.mono (Tryz.strings_IndexByte (strB bs) c.toNat w) ?_;rintro e w' ⟨rfl,rfl⟩;refine ⟨_,rfl,?_⟩;rw [show ((c.toNat:Int)).toNat.toUInt8=c by simp];exact hK
theorem q9u {n:Nat} (h:n<=4):64^n<=16777216:=Nat.le_trans (Nat.pow_le_pow_right (by decide) h) (by decide)
theorem q2a (h:DecB w g s) (hn:s.w.length+s.f<=4) (hv:∀x∈s.w,x<64) {K:Slc->World->Prop} (hK:∀t w',Rd qae w' t (outB s.w)->(∀k,t.blk=some k->w.heap.size<=k)->DecB w' g s->Below w.heap.size w w'->K t w'):qen (some ⟨g,0,none⟩) w K:=by
 refine qse _ ?_;unfold qkw;simp only [onPtr_some];have hvl:=lt_of_lt_of_le (q1m s.w hv) (q9u (n:=s.w.length) (by omega));have hd:DecB w.drew g s:=h.ext (bdw w);have hdd:DecB w.drew.drew g s:=hd.ext (bdw _);refine lI (x:=(valN s.w:Int)) (hd.cells 0 _ rfl) (lI (x:=((s.w.length+s.f:Nat):Int)) (hd.cells 1 _ rfl) (lI (x:=(s.f:Int)) (hd.cells 2 _ rfl) ?_));have es:i64.wrap ((6:Int)*(i64.wrap ((i64.wrap ((4:Int)-((s.w.length+s.f:Nat):Int)))+(s.f:Int))))=((6*(4-s.w.length):Nat):Int):=by
  rw [w64i (x:=(4:Int)-((s.w.length+s.f:Nat):Int)) (by omega),w64i (x:=(4:Int)-((s.w.length+s.f:Nat):Int)+(s.f:Int)) (by omega),w64i (by omega)];omega
 rw [es];refine ⟨by omega,by decide,by decide,?_⟩;refine lI (x:=((s.w.length+s.f:Nat):Int)) (hdd.cells 1 _ rfl) (lI (x:=(s.f:Int)) (hdd.cells 2 _ rfl) ⟨by decide,?_⟩);have hpw:valN s.w*2^(6*(4-s.w.length))<2^24:=by
  have h1:=q1m s.w hv;have e:(64:Nat)^s.w.length=2^(6*s.w.length):=by rw [Nat.pow_mul]
  rw [e] at h1;have h2:valN s.w*2^(6*(4-s.w.length))<2^(6*s.w.length)*2^(6*(4-s.w.length)):=Nat.mul_lt_mul_of_pos_right h1 (Nat.pow_pos (by decide));rw [<-Nat.pow_add,show 6*s.w.length+6*(4-s.w.length)=24 by omega] at h2;exact h2
 have ev:u32.wrap ((valN s.w:Int)*2^(min ((6*(4-s.w.length):Nat):Int).toNat u32.bits))=((valN s.w*2^(6*(4-s.w.length)):Nat):Int):=by
  rw [toNat_natCast,show min (6*(4-s.w.length)) u32.bits=6*(4-s.w.length) by show min _ 32=_;omega,qbk];exact qax .u32 (show _<2^32 by omega)
 rw [ev];obtain ⟨V,hV⟩:∃V,V=valN s.w*2^(6*(4-s.w.length)):=⟨_,rfl⟩;rw [<-hV,show min ((16:Int)).toNat u32.bits=16 by decide,show min ((8:Int)).toNat u32.bits=8 by decide,qft,qft,qtq,qtq,qtq];refine nwb fun w1 h1 hB1 hs1=>?_;have hBw1:=bT (bT (bdw w) (bdw _)) hB1;have h11:DecB w1 g s:=h.ext hBw1;refine ⟨h11.cells 2 _ rfl,h11.cells 1 _ rfl,?_⟩;have el:i64.wrap ((i64.wrap ((i64.wrap (((s.w.length+s.f:Nat):Int)-(s.f:Int)))*(6:Int))).tdiv (8:Int))=((s.w.length*6/8:Nat):Int):=by
  rw [w64i (x:=((s.w.length+s.f:Nat):Int)-(s.f:Int)) (by omega),show ((s.w.length+s.f:Nat):Int)-(s.f:Int)=(s.w.length:Int) by omega,w64i (x:=(s.w.length:Int)*6) (by omega),show (s.w.length:Int)*6=((s.w.length*6:Nat):Int) by simp,show (8:Int)=((8:Nat):Int) from rfl,<-ofNat_tdiv,w64i (by omega)]
 rw [el];have hr:Rd qae w1 ⟨some ⟨w.drew.drew.heap.size,0,none⟩,3,3⟩ (be3 V):=qsi (E:=qae) (ys:=be3 V) h1 (by show 3<=maxLen;simp [maxLen]) rfl;refine hr.slK (l:=0) (m:=s.w.length*6/8) rfl (.inl ⟨rfl,rfl⟩) (.inr rfl) (by omega) (by show _<=3;omega) fun hp=>?_;rw [List.drop_zero,hV] at hp;refine hK _ w1 hp (fun k hk=>?_) h11 hBw1;obtain ⟨a,ha,rfl⟩:=slk.1 hk;obtain ⟨a',ha',e⟩:=qgd (show cut (some ⟨w.drew.drew.heap.size,0,none⟩) 0 3 1=some a from ha);cases ha';rw [e];exact le_refl _
theorem q2s (h:DecB w g s) (hn:s.w.length+s.f<=4) (hv:∀x∈s.w,x<64) {K:Bool->World->Prop} (hK:K (qpx s.w) w.drew):qep (some ⟨g,0,none⟩) w K:=by
 refine qr9 _ ?_;unfold qkt;simp only [onPtr_some];have hvl:=lt_of_lt_of_le (q1m s.w hv) (q9u (n:=s.w.length) (by omega));have hd:DecB w.drew g s:=h.ext (bdw w);refine lI (x:=(valN s.w:Int)) (hd.cells 0 _ rfl) (lI (x:=((s.w.length+s.f:Nat):Int)) (hd.cells 1 _ rfl) (lI (x:=(s.f:Int)) (hd.cells 2 _ rfl) ⟨by decide,?_⟩));have el:((i64.wrap ((i64.wrap (((s.w.length+s.f:Nat):Int)-(s.f:Int)))*(6:Int))).tmod (8:Int))=((s.w.length*6%8:Nat):Int):=by
  rw [w64i (x:=((s.w.length+s.f:Nat):Int)-(s.f:Int)) (by omega),show ((s.w.length+s.f:Nat):Int)-(s.f:Int)=(s.w.length:Int) by omega,w64i (x:=(s.w.length:Int)*6) (by omega),show (s.w.length:Int)*6=((s.w.length*6:Nat):Int) by simp,show (8:Int)=((8:Nat):Int) from rfl,<-Int.ofNat_tmod]
 rw [el];refine ⟨by omega,?_⟩;have hm:s.w.length*6%8<8:=Nat.mod_lt _ (by decide);have hp:2^(s.w.length*6%8)<=2^8:=Nat.pow_le_pow_right (by decide) (by omega);have hp0:0<2^(s.w.length*6%8):=Nat.pow_pos (by decide);have em:u32.wrap ((u32.wrap ((1:Int)*2^(min ((s.w.length*6%8:Nat):Int).toNat u32.bits)))-(1:Int))=((2^(s.w.length*6%8)-1:Nat):Int):=by
  rw [toNat_natCast,show min (s.w.length*6%8) u32.bits=s.w.length*6%8 by show min _ 32=_;omega,show (1:Int)=((1:Nat):Int) from rfl,qbk,Nat.one_mul];generalize 2^(s.w.length*6%8)=q at hp hp0 ⊢;rw [qax .u32 (show q<2^32 by omega),show (q:Int)-((1:Nat):Int)=((q-1:Nat):Int) by omega];exact qax .u32 (show q-1<2^32 by omega)
 rw [em,qgr .u32 (show _<2^32 by omega) (show _<2^32 by omega),Nat.and_two_pow_sub_one_eq_mod];have:((((valN s.w%2^(s.w.length*6%8):Nat):Int))==(0:Int))=qpx s.w:=by
  unfold qpx;generalize valN s.w%2^(s.w.length*6%8)=q;rw [Bool.eq_iff_iff];simp
 rw [this];exact hK
theorem zek {c:UInt8} (h:DecB w g s) (hs:B64Ok s) (hb:s.bad=false) {K:Slc->Bool->World->Prop} (hN:qj5 s c=none->∀w',Below w.heap.size w w'->K ⟨none,0,0⟩ false w')
  (hY:∀o s' t w',qj5 s c=some (o,s')->Rd qae w' t o->(∀k,t.blk=some k->w.heap.size<=k)->DecB w' g s'->Chg (fun k=>k=g) w w'->K t true w'):qhu (some ⟨g,0,none⟩) (c.toNat:Int) w K:=by
 refine qtx _ _ ?_;unfold qmi;simp only [onPtr_some];have hn:=hs.n;have hgl:=h.lt;refine q5i (bs:=q37) rfl ?_;rw [zh0];refine jpO fun J1 hJ1=>?_;have fin:∀s1 w2,s1.w.length+s1.f=s.w.length+s.f+1->s1.last=false->s1.bad=false->(∀x∈s1.w,x<64)->Blk w2 g qk1 [.int .u32 (valN s1.w:Int),.int .i64 ((s.w.length+s.f:Nat):Int),.int .i64 (s1.f:Int),.bool s1.last,.bool s1.bad]->Chg (fun k=>k=g) w w2->qj5 s c=some (qey s1)->J1 () w2:=by
  intro s1 w2 hl hla hba hv hb2 hc2 hp;refine hJ1 _ _ ?_;refine lI (x:=((s.w.length+s.f:Nat):Int)) (hb2.cells 1 _ rfl) ?_;rw [qas,w64i (by omega),show ((s.w.length+s.f:Nat):Int)+1=((s1.w.length+s1.f:Nat):Int) by omega];refine qaj hb2 (by simp) fun w3 hb3 hg3 hs3=>?_;have hc3:Chg (fun k=>k=g) w2 w3:=Chg.gg hg3;have hd3:DecB w3 g s1:=hb3;refine lI (x:=((s1.w.length+s1.f:Nat):Int)) (hd3.cells 1 _ rfl) ?_;have hc03:=hc2.trans hc3 fun i _ hi=>hi;refine cO (fun e=>?_) fun e=>?_
  ·have e:=oTq e;refine hY [] s1 ⟨none,0,0⟩ w3 ?_ (Rd.nil _ _) (fun k hk=>by cases hk) hd3 hc03;rw [hp];unfold qey;rw [if_pos (by omega)]
  ·have e:=oFq e;refine q2a hd3 (by omega) hv fun t w4 ht htb hd4 hB4=>?_;refine lI (x:=(s1.f:Int)) (hd4.cells 2 _ rfl) ?_;refine qbx hd4 rfl fun w5 hd5 hc5 hs5=>?_;have hs13:=hc03.size;refine hY (outB s1.w) ⟨[],0,decide (0<s1.f),false⟩ t w5 ?_ (ht.chg hc5 fun a ha e=>?_) (fun k hk=>by have:=htb k hk;omega) ?_ ?_
   ·rw [hp];unfold qey;rw [if_neg (by omega)]
   ·have:=htb a.block (slk.2 ⟨a,ha,rfl⟩);omega
   ·have:decide ((s1.f:Int)>0)=decide (0<s1.f):=by rw [decide_eq_decide];omega
    rw [this] at hd5;exact hd5
   ·exact (hc03.trans (Chg.of_ext (S:=fun k=>k=g) hB4) fun i _ hi=>hi).trans hc5 fun i _ hi=>hi
 unfold qj5 at hN hY fin;refine qc5 (x:=s.last) (h.cells 3 _ rfl) (cO (fun e=>?_) fun e1=>?_)
 ·have e:s.last=true:=e;rw [if_pos e] at hN;exact hN rfl w (Below.refl _ _)
 have e1:s.last=false:=e1;rw [if_neg (by rw [e1];decide)] at hN hY fin;refine cO (fun e=>?_) fun e2=>?_
 ·have e:c.toNat=61:=by have:=eq_of_beq e;omega
  rw [if_pos e] at hN hY fin;refine jpO fun J2 hJ2=>?_;refine lI (x:=((s.w.length+s.f:Nat):Int)) (h.cells 1 _ rfl) (cO (fun e3=>?_) fun e3=>?_)
  ·have e3:=oTq e3;rw [if_pos (.inl (by omega))] at hN;exact hN rfl w (Below.refl _ _)
  have e3:=oFq e3;refine q2s h (by omega) hs.v (cO (fun e4=>?_) fun e4=>?_)
  ·have e4:qpx s.w=false:=by simpa using e4
   rw [if_pos (.inr e4)] at hN;exact hN rfl _ (bdw w)
  have e4:qpx s.w=true:=by simpa using e4
  rw [if_neg (by rw [e4];simp;omega)] at fin;refine hJ2 _ _ ?_;have hd:DecB w.drew g s:=h.ext (bdw w);refine lI (x:=(s.f:Int)) (hd.cells 2 _ rfl) ?_;rw [qas,w64i (by omega)];refine qaj hd (by simp [q77]) fun w3 hb3 hg3 hs3=>?_;have hc3:Chg (fun k=>k=g) w.drew w3:=Chg.gg hg3;refine fin { s with f:=s.f+1 } w3 (by dsimp only;omega) e1 hb hs.v hb3 ((Chg.of_ext (S:=fun k=>k=g) (bdw w)).trans hc3 fun i _ hi=>hi) rfl
 ·have e2:c.toNat≠61:=fun h=>by rw [h] at e2;cases e2
  rw [if_neg e2] at hN hY fin;refine jpO fun J3 hJ3=>?_;unfold valI;cases hv:valB c with
  | none =>
   rw [hv] at hN;refine cT (by decide) (hJ3 _ _ (cT rfl ?_));exact hN rfl w (Below.refl _ _)
  | some v =>
   rw [hv] at hN hY fin;dsimp only at hN hY fin ⊢;have hvl:=zbw hv;refine cF (dFq (by omega)) (lI (x:=(s.f:Int)) (h.cells 2 _ rfl) (hJ3 _ _ ?_));refine cO (fun e=>?_) fun e=>?_
   ·have e:=oTq e;rw [if_pos (by omega)] at hN;exact hN rfl w (Below.refl _ _)
   ·have e:=oFq e;rw [if_neg (by omega)] at fin;have hvn:=lt_of_lt_of_le (q1m s.w hs.v) (Nat.le_trans (Nat.pow_le_pow_right (show 0<64 by decide) (show s.w.length<=3 by omega)) (show (64:Nat)^3<=262144 by decide));refine lI (x:=(valN s.w:Int)) (h.cells 0 _ rfl) ⟨by decide,?_⟩;have ev:bitsR .or .u32 (u32.wrap ((valN s.w:Int)*2^(min (6:Int).toNat u32.bits))) (u32.wrap (v:Int))=((valN (s.w++[v]):Nat):Int):=by
     rw [show min ((6:Int)).toNat u32.bits=6 by decide,qbk,qax .u32 (x:=valN s.w*2^6) (by show _<2^32;omega),qax .u32 (x:=v) (by show _<2^32;omega),qd3 .u32 (by show _<2^32;omega) (by show _<2^32;omega),zgq];congr 1;rw [Nat.or_comm,Nat.mul_comm,qg8 (by omega)];omega
    rw [show valI c=(v:Int) by unfold valI;rw [hv],ev,qas];refine qaj h (by simp [q77]) fun w3 hb3 hg3 hs3=>?_;have hc3:Chg (fun k=>k=g) w w3:=Chg.gg hg3;refine fin { s with w:=s.w++[v] } w3 (by dsimp only;rw [length_append,List.length_singleton];omega) e1 hb (fun x hx=>?_) hb3 hc3 rfl;rcases List.mem_append.1 hx with hx | hx
    ·exact hs.v x hx
    ·rw [List.mem_singleton] at hx;subst hx;exact hvl
theorem zfm {c:UInt8} (h:DecB w g s) (hs:B64Ok s) {K:Slc->Int->World->Prop}
  (hK:∀t w',Rd qae w' t (qd1 s c).2.1->(∀k,t.blk=some k->w.heap.size<=k)->DecB w' g (qd1 s c).2.2->Chg (fun k=>k=g) w w'->K t ((qd1 s c).1:Nat) w'):qhg (some ⟨g,0,none⟩) (c.toNat:Int) w K:=by
 refine qty _ _ ?_;unfold qmy;simp only [onPtr_some];refine jpO fun J1 hJ1=>?_;unfold qd1 at hK;have bad:(qd1 s c=(3,[],b64X))->∀w2,DecB w2 g s->Chg (fun k=>k=g) w w2->J1 () w2:=by
  intro hp w2 h2 hc2;unfold qd1 at hp;rw [hp] at hK;refine hJ1 _ _ (qbx h2 rfl fun w3 h3 hc3 hs3=>?_);exact hK ⟨none,0,0⟩ w3 (Rd.nil _ _) (fun k hk=>by cases hk) h3 (hc2.trans hc3 fun i _ hi=>hi)
 refine qc5 (x:=s.bad) (h.cells 4 _ rfl) (cO (fun e=>?_) fun e=>?_)
 ·have e:s.bad=false:=by simpa using e
  rw [if_neg (by rw [e];decide)] at hK;refine zek h hs e (fun hp w2 hB2=>cF rfl (bad ?_ w2 (h.ext hB2) (Chg.of_ext hB2))) (fun o s' t w2 hp ht htb hd hc=>cT rfl ?_)
  ·unfold qd1;rw [if_neg (by rw [e];decide),hp]
  ·rw [hp] at hK;exact hK t w2 ht htb hd hc
 ·have e:s.bad=true:=by simpa using e
  refine bad ?_ w h (Chg.refl _ _);unfold qd1;rw [if_pos e]
theorem zgj (h:DecB w g s) (hs:B64Ok s) {K:Slc->Int->World->Prop}
  (hK:∀t w',Rd qae w' t (qi4 s).2.1->(∀k,t.blk=some k->w.heap.size<=k)->DecB w' g (qi4 s).2.2->Chg (fun k=>k=g) w w'->K t ((qi4 s).1:Nat) w'):qhn (some ⟨g,0,none⟩) w K:=by
 refine qt4 _ ?_;unfold qm1;simp only [onPtr_some];have hn:=hs.n;have hgl:=h.lt;refine jpO fun J1 hJ1=>jpO fun J2 hJ2=>?_;unfold qi4 at hK;have key:∀(bb:Bool) w2,(bb=true↔s.bad=true\/s.w.length+s.f=1\/0<s.f\/qpx s.w=false)->DecB w2 g s->Below w.heap.size w w2->J2 (bb,()) w2:=by
  intro bb w2 hbb h2 hB2;refine hJ2 _ _ (cO (fun e=>?_) fun e=>?_)
  ·rw [if_pos (hbb.1 e)] at hK;refine qbx h2 rfl fun w3 h3 hc3 hs3=>?_;exact hK ⟨none,0,0⟩ w3 (Rd.nil _ _) (fun k hk=>by cases hk) h3 ((Chg.of_ext (S:=fun k=>k=g) hB2).trans hc3 fun i _ hi=>hi)
  ·rw [if_neg fun h=>by rw [hbb.2 h] at e;cases e] at hK;refine hJ1 _ _ (q2a h2 (by omega) hs.v fun t w3 ht htb h3 hB3=>?_);refine qr5 _ ?_;unfold qkv;simp only [onPtr_some];refine qbx h3 rfl fun w4 h4 hc4 hs4=>?_;have hs2:=hB2.size;refine hK t w4 (ht.chg hc4 fun a ha e=>?_) (fun k hk=>by have:=htb k hk;omega) h4 (((Chg.of_ext (S:=fun k=>k=g) hB2).trans (Chg.of_ext (S:=fun k=>k=g) hB3) fun i _ hi=>hi).trans hc4 fun i _ hi=>hi);have:=htb a.block (slk.2 ⟨a,ha,rfl⟩);omega
 have hrf:=Below.refl w.heap.size w;refine qc5 (x:=s.bad) (h.cells 4 _ rfl) (cO (fun e=>key _ w ?_ h hrf) fun e1=>?_)
 ·have e:s.bad=true:=e;simp [e]
 have e1:s.bad=false:=e1;refine lI (x:=((s.w.length+s.f:Nat):Int)) (h.cells 1 _ rfl) (cO (fun e=>key _ w ?_ h hrf) fun e2=>?_)
 ·have e:s.w.length+s.f=1:=by have:=eq_of_beq e;omega
  simp [e]
 have e2:s.w.length+s.f≠1:=fun h=>by rw [h] at e2;cases e2
 refine lI (x:=(s.f:Int)) (h.cells 2 _ rfl) (cO (fun e=>key _ w ?_ h hrf) fun e3=>?_)
 ·have e:=oTq e;exact iff_of_true rfl (.inr (.inr (.inl (by omega))))
 have e3:=oFq e3;refine q2s h (by omega) hs.v (key _ _ ?_ (h.ext (bdw w)) (bdw w));rw [e1];constructor
 ·intro h;exact .inr (.inr (.inr (by simpa using h)))
 ·rintro (h | h | h | h)
  ·cases h
  ·exact absurd h e2
  ·omega
  ·rw [h];rfl
end
def qbc (l:List UInt8):List Value:=l.map fun b=>Value.int .u8 (b.toNat:Int)
theorem qu3 (l:List UInt8):flat qae l=qbc l:=by
 unfold flat qbc
 induction l with
 | nil=>rfl
 | cons x r ih=>rw [List.flatMap_cons,ih];rfl
theorem qid (l:List UInt8):(qbc l).length=l.length:=by simp [qbc]
theorem zai (l:List UInt8):∀v∈qbc l,oneB v=true:=by
 intro v hv;unfold qbc at hv;obtain ⟨b,_,rfl⟩:=List.mem_map.1 hv;rfl
theorem zcy {w:World} {a:Addr} {l:List UInt8} (h:∀(i:Nat) x,l[i]?=some x->w.cell? (a.add i)=some (.int .u8 (x.toNat:Int))):(loadCells a l.length).run PG w=.ok (qbc l).toArray w:=by
 have:=run_loadCells_list (P:=PG) w a (qbc l) (fun j v hj=>by
  unfold qbc at hj;rw [List.getElem?_map] at hj;cases hb:l[j]? with
  | none=>rw [hb] at hj;cases hj
  | some b =>
   rw [hb] at hj;cases hj;exact h j b hb)
 rwa [qid] at this
theorem copyB {w:World} {g o dn dc n:Nat} {t:TypeId} {cur:List Value} {x:Slc} {ys:List UInt8} {K:Int->World->Prop} (hb:Blk w g t cur) (hx:Rd qae w x ys) (hn:n=min ys.length dn) (hf:o+n<=cur.length)
  (hK:∀w',Blk w' g t (putL cur o (qbc (ys.take n)))->Chg (fun k=>k=g) w w'->w'.heap.size=w.heap.size->K (n:Int) w') :
  runK1 PG (copy_ #[qab,qab] qa9 #[.slice (some ⟨g,o,none⟩) dn dc,.slice x.a x.n x.c]) (Kind.int .i64) w K:=by
 have htl:(ys.take n).length=n:=by rw [length_take];omega
 have hst:(storeCells ⟨g,o,none⟩ (qbc (ys.take n)) 0).run PG w=.ok () (wr w ⟨g,o,none⟩ (qbc (ys.take n))) :=
  qri (qbc (ys.take n)) 0 w (zai _) (fun j hj=>by
   rw [qid,htl] at hj;rw [Nat.zero_add,qas];refine ⟨⟨cur[o+j]'(by omega),hb.cell (o+j) (List.getElem?_eq_getElem (by omega))⟩,hb.frozen _⟩)
 refine ⟨(n:Int),wr w ⟨g,o,none⟩ (qbc (ys.take n)),?_,hK _ (ze7 hb) (Chg.gg (q28 w ⟨g,o,none⟩ _)) (size_wr _ _ _)⟩;have hu:PG.underlying qab=some (.slice qan):=by kernel_rfl
 have hi:=qau.hi;have hs:qau.i.size=1:=qau.hs;have hi':PG.info? qan=some qau.i:=hi;have hxn:=hx.n;have hmin:Nat.min ys.length dn=n:=hn.symm;cases ha:x.a with
 | none =>
  have hy:=hx.none_nil ha;subst hy;have hn0:n=0:=by rw [hn];simp
  subst hn0;simp [copy_,run_underlying hu,Builtin.lenOf,Builtin.firstCells,sizeOf,typeInfo,hi',hxn,storeCells,wr,qdb,qbc,Kind.enc,goInt]
 | some a =>
  have hload:=zcy (w:=w) (a:=a) (l:=ys.take n) (fun i y hy=>by
   have hi2:i<n:=by rw [<-htl];exact (List.getElem?_eq_some_iff.1 hy).1
   rw [List.getElem?_take_of_lt hi2] at hy;have:=qdo hx hy;simp only [Slc.at_,ha,getD_some,mul_one] at this;exact this)
  rw [htl] at hload;simp [copy_,run_underlying hu,Builtin.lenOf,Builtin.firstCells,sizeOf,typeInfo,hi',hs,hxn,hmin,hload,hst,Kind.enc,goInt]
theorem q5l {w:World} {b g c:Nat} {xs:List UInt8} {s:Slc} (h:Go.Vc.Own qae w b s xs) (hs:s.a=some ⟨g,0,none⟩):∃cur,Blk w g qan cur/\cur.length=s.c/\cur.take xs.length=qbc xs/\xs.length<=s.c/\s.c<=maxLen/\b<=g/\s.n=xs.length:=by
 rcases h.form with ⟨rfl,rfl⟩ | ⟨g',cur,e,hg,hb,h1,h2,h3,h4⟩
 ·cases hs
 ·rw [e] at hs;have hg':g'=g:=congrArg Addr.block (Option.some.inj hs);subst hg';refine ⟨cur,hb,by rw [h3];exact mul_one _,?_,h1,h2,hg,by rw [e]⟩;rw [<-qu3,<-h4];show _=cur.take (xs.length*1);rw [mul_one]
theorem zbv {w w':World} {b g:Nat} {xs ys:List UInt8} {s:Slc} {cur:List Value} {k:Nat} (h:Go.Vc.Own qae w b s xs) (hs:s.a=some ⟨g,0,none⟩) (hc:Blk w g qan cur) (hk:k+ys.length<=xs.length) (hw:Blk w' g qan (putL cur k (qbc ys))) :
  Go.Vc.Own qae w' b s (xs.take k++ys++xs.drop (k+ys.length)):=by
 obtain ⟨cur',hb,hl,ht,h1,h2,h3,h4⟩:=q5l (c:=0) h hs;have e:cur'=cur:=by
  unfold Blk at hb hc;rw [hb] at hc;injection hc with hc
  injection hc with hc _ _
  simpa using hc
 subst e;have hlen:(xs.take k++ys++xs.drop (k+ys.length)).length=xs.length:=by simp;omega
 obtain ⟨a,n,c⟩:=s;dsimp only at hs hl h1 h2 h4;subst hs h4;have:=Go.Vc.Own.of_blk (E:=qae) (xs:=xs.take k++ys++xs.drop (k+ys.length)) (c:=c) h3 hw (by omega) h2 (by rw [qlk,hl];exact (mul_one _).symm) (by
  rw [qu3,hlen];show (putL cur' k (qbc ys)).take (xs.length*1)=_;rw [mul_one];refine List.ext_getElem? fun m=>?_;by_cases hm:m<xs.length
  ·rw [List.getElem?_take_of_lt hm,qmc _ _ _ _ (by rw [qid];omega),qid];have hcm:cur'[m]?=(qbc xs)[m]?:=by rw [<-ht,List.getElem?_take_of_lt hm]
   have hbm:∀l:List UInt8,(qbc l)[m]?=(l[m]?).map fun b=>Value.int .u8 (b.toNat:Int):=fun l=>by unfold qbc;rw [List.getElem?_map]
   by_cases hin:k<=m/\m<k+ys.length
   ·rw [if_pos hin,hbm,append_assoc,List.getElem?_append_right (by rw [length_take];omega),length_take,Nat.min_eq_left (by omega),List.getElem?_append_left (by omega)];unfold qbc;rw [List.getElem?_map]
   ·rw [if_neg hin,hcm,hbm,hbm];congr 1;by_cases hmk:m<k
    ·rw [append_assoc,List.getElem?_append_left (by rw [length_take];omega),List.getElem?_take_of_lt hmk]
    ·rw [append_assoc,List.getElem?_append_right (by rw [length_take];omega),length_take,Nat.min_eq_left (by omega),List.getElem?_append_right (by omega),List.getElem?_drop];congr 1;omega
  ·rw [List.getElem?_eq_none (by rw [length_take];omega),List.getElem?_eq_none (by rw [qid];omega)])
 rw [hlen] at this;exact this
def qvy:El qa2 where
 cells:=qa2.rep.cells
 t:=qbt
 k:=4
 pos:=by decide
 len _:=rfl
 one x v hv:=by
  simp only [qa2.rep,List.mem_cons,List.mem_nil_iff,or_false] at hv;rcases hv with rfl | rfl | rfl | rfl<;>rfl
def qwg (lace:Int):List qa2:=(qfn lace).map passT
theorem q7i (lace:Int):∀p∈qfn lace,1<=p.dx/\1<=p.dy/\p.x<=4/\p.y<=4/\p.dx<=8/\p.dy<=8:=by
 unfold qfn;split
 ·simp [zbh]
 ·simp [zbq]
theorem qxm (lace:Int):(qfn lace).length<=7:=by
 unfold qfn;split<;>decide
structure HeadOk (h:qag) (W H:Nat):Prop where
 w:h.W=W
 h:h.H=H
 w1:1<=W
 w2:W<=16384
 h1:1<=H
 h2:H<=16384
theorem HeadOk.wn {h:qag} {W H:Nat} (o:HeadOk h W H):h.W.toNat=W:=by rw [o.w];rfl
theorem HeadOk.hn {h:qag} {W H:Nat} (o:HeadOk h W H):h.H.toNat=H:=by rw [o.h];rfl
theorem qtn (p:PassP) (W H:Nat):(sizeP p W H).1<=W/\(sizeP p W H).2<=H:=by
 unfold sizeP;split
 ·exact ⟨by omega,by omega⟩
 ·have h1:(W-p.x-1)/p.dx<=W-p.x-1:=Nat.div_le_self _ _;have h2:(H-p.y-1)/p.dy<=H-p.y-1:=Nat.div_le_self _ _;exact ⟨by dsimp only;omega,by dsimp only;omega⟩
theorem qh6 (W H:Nat) (p:PassP):(qcb W H p).length=(sizeP p W H).2:=by simp [qcb]
theorem qz8 (W H:Nat) (p:PassP) {y:Nat} (hy:y<(sizeP p W H).2):qcb W H p=(qcb W H p).take y++(p,y,(sizeP p W H).1)::(qcb W H p).drop (y+1):=by
 have hl:=qh6 W H p;have e:(qcb W H p)[y]'(by omega)=(p,y,(sizeP p W H).1):=by simp [qcb]
 rw [<-e,<-List.drop_eq_getElem_cons,List.take_append_drop]
theorem qss (W H:Nat) (p:PassP) {y:Nat} (hy:y<(sizeP p W H).2):(qcb W H p).take (y+1)=(qcb W H p).take y++[(p,y,(sizeP p W H).1)]:=by
 have hl:=qh6 W H p;rw [List.take_succ_eq_append_getElem (by omega)];simp [qcb]
def KeepT (w w':World):Prop:=∀(k:Nat) t cs,(t=qbt\/t=qbo)->Blk w k t cs->Blk w' k t cs
section
variable {w:World}
theorem za4 {K:Slc->World->Prop} (hK:∀(g:Nat) w',Blk w' g qbt (flat qvy (qwg 1))->Below w.heap.size w w'->w.heap.size<=g->K ⟨some ⟨g,0,none⟩,7,7⟩ w'):qnm w K:=by
 refine q0a ?_;unfold qsv;exact nwb fun w1 h1 hB1 hs1=>hK _ w1 h1 hB1 (le_refl _)
theorem za2 {h:qag} {K:Slc->World->Prop} (hK:∀(g n:Nat) w',Blk w' g qbt (flat qvy (qwg h.Lace))->n=(qwg h.Lace).length->Below w.heap.size w w'->w.heap.size<=g->K ⟨some ⟨g,0,none⟩,n,n⟩ w'):qk6 h w K:=by
 refine qyj _ ?_;unfold qqm;refine nwb fun w1 h1 hB1 hs1=>?_;refine lI (x:=h.Lace) (h1.cells 4 _ rfl) ?_;refine cO (fun e=>?_) fun e=>?_
 ·have e:h.Lace=1:=eq_of_beq e;rw [e] at hK;exact za4 fun g w2 h2 hB2 hg=>hK g 7 w2 h2 rfl (bT hB1 hB2) (by have:=hB1.size;omega)
 ·have e:h.Lace≠1:=by simpa using e
  have hp:qwg h.Lace=[⟨0,0,1,1⟩]:=by unfold qwg qfn;rw [if_neg e];rfl
  rw [hp] at hK;exact nwb fun w2 h2 hB2 hs2=>hK _ 1 w2 h2 rfl (bT hB1 hB2) hB1.size
theorem q7h {h:qag} {W H:Nat} (ho:HeadOk h W H) {f:Value} {K:Bool->World->Prop} (Inv:List (PassP×Nat×Nat)->World->Prop) (Bad:World->Prop)
  (h0:Inv [] w) (hI:∀L w1 w2,Inv L w1->Below w1.heap.size w1 w2->Inv L w2)
  (step:∀L r R w1,rowsL h=L++r::R->Inv L w1->w.heap.size<=w1.heap.size->∀J:Bool->World->Prop,(∀w2,Inv (L++[r]) w2->KeepT w1 w2->w1.heap.size<=w2.heap.size->J true w2)->(∀w2,Bad w2->J false w2) ->
   callR C f [(.agg #[(.int .i64 (passT r.1).X),(.int .i64 (passT r.1).Y),(.int .i64 (passT r.1).DX),(.int .i64 (passT r.1).DY)]),(.int .i64 (r.2.1:Int)),(.int .i64 (r.2.2:Int))] [Kind.bool] w1 J)
  (hK1:∀w1,Inv (rowsL h) w1->K true w1) (hK0:∀w1,Bad w1->K false w1):qe3 h f w K:=by
 refine q02 _ _ ?_;unfold qtk;refine nwb fun w1 hb1 hB1 hs1=>?_;refine qal (r:=qag.rep) (x:=h) hb1.cells ?_;refine za2 fun g n w2 hg hn hB2 hgl=>?_;have hb2:=hb1.ext hB2;have hs2:=hB2.size;obtain ⟨ps,hps⟩:∃ps,ps=qfn h.Lace:=⟨_,rfl⟩;have hpT:qwg h.Lace=ps.map passT:=by rw [hps];rfl
 have hnl:n=ps.length:=by rw [hn,hpT,length_map]
 rw [hpT] at hg;have hrows:rowsL h=ps.flatMap (qcb W H):=by unfold rowsL;rw [ho.wn,ho.hn,<-hps]
 have hpl:ps.length<=7:=by rw [hps];exact qxm _
 have hdx:=q7i h.Lace;rw [<-hps] at hdx;dsimp only;refine lpR (fun (s:Int×Unit) w3=>∃i:Nat,s.1=i/\i<=ps.length/\Inv ((ps.take i).flatMap (qcb W H)) w3/\Blk w3 w.heap.size qbo (qag.rep.cells h)/\Blk w3 g qbt (flat qvy (ps.map passT))/\w.heap.size<=w3.heap.size) (fun s=>ps.length-s.1.toNat)
  ⟨0,rfl,by omega,hI _ _ _ h0 (bT hB1 hB2),hb2,hg,by omega⟩ ?_
 rintro ⟨i,u⟩ w3 ⟨i,rfl,hi,hInv,hb3,hg3,hs3⟩ I hIl;dsimp only;rw [hnl];refine cO (fun hlt=>?_) fun hge=>?_
 ·have hlt:=oTq hlt;have hil:i<ps.length:=by omega
  obtain ⟨p,hp⟩:∃p,ps[i]?=some p:=⟨_,List.getElem?_eq_getElem hil⟩;have hpd:=hdx p (List.mem_of_getElem? hp);have hrd:Rd qvy w3 ⟨some ⟨g,0,none⟩,(ps.map passT).length,(ps.map passT).length⟩ (ps.map passT):=qsi (E:=qvy) hg3 (by rw [length_map];unfold maxLen;omega) rfl;rw [length_map] at hrd;have hpT':(ps.map passT)[i]?=some (passT p):=by rw [List.getElem?_map,hp];rfl
  refine hrd.ix (i:=(i:Int)) (k:=4) rfl (by omega) (by rw [length_map];omega) fun _=>?_;refine qal (r:=qa2.rep) (x:=passT p) (hrd.at_ i _ hpT') ?_;refine nwb fun w4 hb4 hB4 hs4=>?_;refine qbx hb4 rfl fun w5 hb5 hc5 hs5=>?_;have hB35:Below w3.heap.size w3 w5:=b1o hB4 hc5 (le_refl _);refine qal (r:=qa2.rep) (x:=passT p) hb5.cells ?_;have hb35:=hb3.ext hB35;refine lI (x:=(W:Int)) (by have:=hb35.cells 0 _ rfl;rw [ho.w] at this;exact this) (lI (x:=(H:Int)) (by have:=hb35.cells 1 _ rfl;rw [ho.h] at this;exact this) ?_);refine ze2 ho.w1 ho.w2 ho.h1 ho.h2 hpd.1 hpd.2.1 fun w6 hB6=>?_;have hB36:=bT hB35 hB6;have hsz:=qtn p W H;have hH2:=ho.h2;refine lpR (fun (s:Int×Unit) w7=>∃y:Nat,s.1=y/\y<=(sizeP p W H).2/\Inv ((ps.take i).flatMap (qcb W H)++(qcb W H p).take y) w7/\Blk w7 w.heap.size qbo (qag.rep.cells h)/\Blk w7 g qbt (flat qvy (ps.map passT))/\Blk w7 w3.heap.size qbt (qa2.rep.cells (passT p))/\w.heap.size<=w7.heap.size) (fun s=>(sizeP p W H).2-s.1.toNat)
   ⟨0,rfl,by omega,by rw [List.take_zero,List.append_nil];exact hI _ _ _ hInv hB36,hb3.ext hB36,hg3.ext hB36,hb5.ext hB6,by have:=hB36.size;omega⟩ ?_
  rintro ⟨y,u⟩ w7 ⟨y,rfl,hy,hInv7,hb7,hg7,hp7,hs7⟩ I2 hI2;dsimp only;refine cO (fun hlt2=>?_) fun hge2=>?_
  ·have hlt2:=oTq hlt2;have hyl:y<(sizeP p W H).2:=by omega
   refine qal (r:=qa2.rep) (x:=passT p) hp7.cells ?_;have hsplit:rowsL h=((ps.take i).flatMap (qcb W H)++(qcb W H p).take y)++(p,y,(sizeP p W H).1)::((qcb W H p).drop (y+1)++(ps.drop (i+1)).flatMap (qcb W H)):=by
    have e:ps=ps.take i++p::ps.drop (i+1):=by
     rw [List.getElem?_eq_getElem hil] at hp;rw [<-Option.some.inj hp,<-List.drop_eq_getElem_cons hil,List.take_append_drop]
    conv=>lhs;rw [hrows,e,List.flatMap_append,List.flatMap_cons,qz8 W H p hyl]
    simp [append_assoc]
   refine step _ _ _ w7 hsplit hInv7 hs7 _ (fun w8 h8 hk8 hs8=>?_) (fun w8 h8=>cT rfl (hK0 w8 h8));refine cF rfl ?_;rw [w64i (by omega)];refine hI2 _ _ ⟨y+1,rfl,by omega,?_,hk8 _ _ _ (.inr rfl) hb7,hk8 _ _ _ (.inl rfl) hg7,hk8 _ _ _ (.inl rfl) hp7,by omega⟩ (by simp;omega);rw [qss W H p hyl,<-append_assoc];exact h8
  ·have hge2:=oFq hge2;obtain rfl:y=(sizeP p W H).2:=by omega
   rw [w64i (by omega)];refine hIl _ _ ⟨i+1,rfl,by omega,?_,hb7,hg7,hs7⟩ (by simp;omega);rw [List.take_add_one,hp,List.flatMap_append];rw [List.take_of_length_le (show (qcb W H p).length<=(sizeP p W H).2 by rw [qh6];exact le_refl _)] at hInv7;simpa using hInv7
 ·have hge:=oFq hge;obtain rfl:i=ps.length:=by omega
  rw [List.take_length,<-hrows] at hInv;exact hK1 w3 hInv
end
structure LdK where
 k:qaa
 most:Nat
 need:Nat
structure LdS where
 d:B64
 b:List UInt8
 err:Nat
 over:Bool
def takeE (C:LdK) (n:Nat):Nat:=if n>C.most then 6 else if C.k.Zip=0/\C.k.Format≠100/\n>C.need then 5 else 0
def failL (s:LdS) (e:Nat):LdS:=if s.err=0/\e≠0 then { s with b:=[],err:=e } else s
def gotL (C:LdK) (s:LdS) (r:Nat×List UInt8×B64):LdS :=
 if r.1≠0 then failL { s with d:=r.2.2 } r.1 else failL { s with d:=r.2.2,b:=s.b++r.2.1 } (takeE C (s.b++r.2.1).length)
def addC (C:LdK) (s:LdS) (c:UInt8):LdS:=if s.err≠0 then s else gotL C s (qd1 s.d c)
def addL (C:LdK) (s:LdS) (text:List UInt8):LdS:=text.foldl (addC C) s
def endL (C:LdK) (s:LdS):LdS:=if s.err≠0 then s else gotL C s (qi4 s.d)
theorem qva (C:LdK) (s:LdS) (a b:List UInt8):addL C s (a++b)=addL C (addL C s a) b:=List.foldl_append
theorem q7b (C:LdK) (s:LdS) (c:UInt8):(addC C s c).over=s.over:=by
 unfold addC gotL failL
 repeat' split
 all_goals rfl
theorem zc4 (s:B64) (hs:B64Ok s) (c:UInt8):(qd1 s c).2.1.length<=3:=by
 unfold qd1;split
 ·simp
 ·cases hp:qj5 s c with
  | none=>simp
  | some r =>
   obtain ⟨o,s'⟩:=r;show o.length<=3;have fin:∀s1:B64,some (qey s1)=some (o,s')->o.length<=3:=by
    intro s1 h;have:o=(qey s1).1:=by rw [Option.some.inj h]
    rw [this];unfold qey;split
    ·simp
    ·unfold outB;rw [length_take];exact Nat.min_le_right _ 3
   unfold qj5 at hp;split at hp
   ·cases hp
   ·split at hp
    ·split at hp
     ·cases hp
     ·exact fin _ hp
    ·split at hp
     ·cases hp
     ·split at hp
      ·cases hp
      ·exact fin _ hp
theorem zhv (C:LdK) (s:LdS) (r:Nat×List UInt8×B64):(gotL C s r).b.length<=s.b.length+r.2.1.length:=by
 unfold gotL failL
 repeat' split
 all_goals simp
theorem zi4 {C:LdK} {s:LdS} (h:s.err≠0) (c:UInt8):addC C s c=s:=by unfold addC;rw [if_pos h]
theorem q73 {C:LdK} {s:LdS} (h:s.err≠0) (l:List UInt8):addL C s l=s:=by
 induction l with
 | nil=>rfl
 | cons c l ih=>show addL C (addC C s c) l=s;rw [zi4 h];exact ih
def qdp (gd:Nat) (C:LdK) (p:Slc) (held err:Nat) (over:Bool):List Value:=.pointer (some ⟨gd,0,none⟩)::(qaa.rep.cells C.k++[.int .i64 (C.most:Int),.int .i64 (C.need:Int),.slice p.a p.n p.c,.int .i64 (held:Int),.int .i64 (err:Int),.bool over])
def PcS (w:World) (B:Nat) (S:Nat->Prop) (p:Slc) (bs:List UInt8):Prop :=
 (bs=[]/\p=⟨none,0,0⟩)\/∃x,Go.Vc.Own qfe w B p [x]/\Go.Vc.Own qae w B x bs/\bs≠[]/\(∀k,p.blk=some k->S k)/\(∀k,x.blk=some k->S k)
structure LdA (w:World) (B g gd:Nat) (C:LdK) (s:LdS) (S:Nat->Prop):Prop where
 ex:∃p:Slc,Blk w g qcd (qdp gd C p s.b.length s.err s.over)/\PcS w B S p s.b
 d:DecB w gd s.d
 ok:B64Ok s.d
 sg:S g
 sd:S gd
 lt:∀k,S k->B<=k/\k<w.heap.size
section
variable {w:World} {B g gd:Nat} {C:LdK} {s:LdS} {S:Nat->Prop}
theorem PcS.chg {w':World} {p:Slc} {bs:List UInt8} {T:Nat->Prop} (h:PcS w B S p bs) (hc:Chg T w w') (hT:∀k,S k->¬T k):PcS w' B S p bs:=by
 rcases h with h | ⟨x,h1,h2,h3,h4,h5⟩
 ·exact .inl h
 ·exact .inr ⟨x,h1.chg hc fun k hk=>hT k (h4 k hk),h2.chg hc fun k hk=>hT k (h5 k hk),h3,h4,h5⟩
theorem LdA.chg {w':World} {T:Nat->Prop} (h:LdA w B g gd C s S) (hc:Chg T w w') (hT:∀k,S k->¬T k):LdA w' B g gd C s S:=by
 obtain ⟨⟨p,h1,h2⟩,h3,h4,h5,h6,h7⟩:=h;exact ⟨⟨p,h1.chg hc (hT g h5),h2.chg hc hT⟩,Blk.chg h3 hc (hT gd h6),h4,h5,h6,fun k hk=>⟨(h7 k hk).1,lt_of_lt_of_le (h7 k hk).2 hc.size⟩⟩
theorem LdA.ext {w':World} (h:LdA w B g gd C s S) (hB:Below w.heap.size w w'):LdA w' B g gd C s S:=h.chg (Chg.of_ext (S:=fun _=>False) hB) fun k _ hf=>hf
end
def qjr (F:FilL) (p t d:Slc):List Value:=qdx.rep.cells ⟨F.h,p,t,F.hasP,F.hasT,d,F.hasD,F.wasD⟩
structure FilA (w:World) (g b:Nat) (F:FilL) (p t d:Slc):Prop where
 blk:Blk w g qlp (qjr F p t d)
 pal:Rd qae w p F.pal
 tr:Rd qae w t F.tr
 data:Go.Vc.Own qae w b d F.data
 pb:∀k,p.blk=some k->k<b
 tb:∀k,t.blk=some k->k<b
theorem FilA.ext {w w':World} {g b:Nat} {F:FilL} {p t d:Slc} (h:FilA w g b F p t d) (hB:Below w.heap.size w w'):FilA w' g b F p t d:=⟨h.blk.ext hB,h.pal.ext hB,h.tr.ext hB,h.data.ext hB,h.pb,h.tb⟩
structure ColOk (h:qag):Prop where
 c:h.Color=0\/h.Color=2\/h.Color=3\/h.Color=4\/h.Color=6
 d:h.Depth=1\/h.Depth=2\/h.Depth=4\/h.Depth=8\/h.Depth=16
theorem qpu {h:qag} (hc:qgw h=0):(∃W H,HeadOk h W H)/\ColOk h:=by
 unfold qgw at hc;split at hc
 ·cases hc
 ·rename_i h1;split at hc
  ·cases hc
  ·rename_i h2;refine ⟨⟨h.W.toNat,h.H.toNat,by omega,by omega,by omega,by omega,by omega,by omega⟩,?_,?_⟩
   ·have hs:qak h.Color≠0:=fun e=>h2 (.inl e);unfold qak at hs;by_cases h0:h.Color=0\/h.Color=3
    ·omega
    ·rw [if_neg h0] at hs;by_cases h22:h.Color=2
     ·omega
     ·rw [if_neg h22] at hs;by_cases h4:h.Color=4
      ·omega
      ·rw [if_neg h4] at hs;by_cases h6:h.Color=6
       ·omega
       ·rw [if_neg h6] at hs;exact absurd rfl hs
   ·have hd:qmv h=true:=by
     cases e:qmv h with
     | true=>rfl
     | false=>exact absurd (.inr (.inl e)) h2
    unfold qmv at hd;have:=oTq hd;omega
structure FilOk (F:FilL):Prop where
 hd:qgw F.h=0
 tr:F.hasT=true->F.h.Color=0/\F.tr.length=2\/F.h.Color=2/\F.tr.length=6\/F.h.Color=3
 pal:F.pal.length%3=0
theorem q86 {F:FilL} {c:ChL} (h:FilOk F) (h0:(takeP F c).1=0):FilOk (takeP F c).2/\(takeP F c).2.h=F.h:=by
 unfold takeP at h0 ⊢;by_cases h1:c.kind=ihdrL
 ·rw [if_pos h1] at h0;cases h0
 rw [if_neg h1] at h0 ⊢;by_cases h2:c.kind=plteL
 ·rw [if_pos h2] at h0 ⊢;cases hp:qqf F c.data with
  | false=>rw [hp] at h0;cases h0
  | true =>
   unfold qqf at hp;simp only [Bool.not_eq_true',Bool.or_eq_false_iff,decide_eq_false_iff_not] at hp;exact ⟨⟨h.hd,h.tr,by show c.data.length%3=0;omega⟩,rfl⟩
 rw [if_neg h2] at h0 ⊢;by_cases h3:c.kind=trnsL
 ·rw [if_pos h3] at h0 ⊢;cases hp:qp1 F c.data with
  | false=>rw [hp] at h0;cases h0
  | true =>
   refine ⟨⟨h.hd,fun _=>?_,h.pal⟩,rfl⟩;unfold qp1 at hp;simp only [Bool.and_eq_true] at hp;have hp:=hp.2;show F.h.Color=0/\c.data.length=2\/F.h.Color=2/\c.data.length=6\/F.h.Color=3;by_cases e0:F.h.Color=0
   ·rw [if_pos e0] at hp;exact .inl ⟨e0,oTq hp⟩
   ·rw [if_neg e0] at hp;by_cases e2:F.h.Color=2
    ·rw [if_pos e2] at hp;exact .inr (.inl ⟨e2,oTq hp⟩)
    ·rw [if_neg e2] at hp;by_cases e3:F.h.Color=3
     ·exact .inr (.inr e3)
     ·rw [if_neg e3] at hp;cases hp
 rw [if_neg h3] at h0 ⊢;by_cases h4:c.kind=idatL
 ·rw [if_pos h4] at h0 ⊢;split
  ·exact ⟨⟨h.hd,h.tr,h.pal⟩,rfl⟩
  ·rename_i hn;rw [if_neg hn] at h0;cases h0
 rw [if_neg h4] at h0 ⊢;by_cases h5:c.kind=iendL
 ·rw [if_pos h5] at h0 ⊢;split
  ·exact ⟨⟨h.hd,h.tr,h.pal⟩,rfl⟩
  ·rename_i hn;rw [if_neg hn] at h0;cases h0
 rw [if_neg h5] at h0 ⊢;split
 ·rename_i hn;rw [if_pos hn] at h0;cases h0
 ·exact ⟨⟨h.hd,h.tr,h.pal⟩,rfl⟩
section
variable {w:World} {g b:Nat} {F:FilL} {p t d:Slc}
theorem zbb (h:FilA w g b F p t d) (hc:ColOk F.h) {x:Slc} {ds:List UInt8} (hx:Rd qae w x ds) (hxb:∀k,x.blk=some k->k<b) (hbg:b<=g) (hl:ds.length<=1000000000) {K:Bool->World->Prop}
  (hN:qqf F ds=false->K false w) (hY:qqf F ds=true->∀w',FilA w' g b { F with pal:=ds,hasP:=true } x t d->Chg (fun k=>k=g) w w'->K true w'):qlc (some ⟨g,0,none⟩) x w K:=by
 refine qxt _ _ ?_;unfold qqd;simp only [onPtr_some];refine ⟨by decide,jpO fun J hJ=>?_⟩;unfold qqf at hN hY;refine qc5 (x:=F.hasP) (h.blk.cells 7 _ rfl) ?_;refine cO (fun e=>hN (by rw [e];rfl)) fun e1=>?_;refine qc5 (x:=F.hasD) (h.blk.cells 10 _ rfl) ?_;refine cO (fun e=>hN (by rw [e];simp)) fun e2=>?_;refine lI (x:=F.h.Color) (by rw [add_zero];exact h.blk.cells 3 _ rfl) ?_;refine cO (fun e=>hN (by rw [eq_of_beq e];simp)) fun e3=>?_;have e3:F.h.Color≠0:=by simpa using e3
 refine lI (x:=F.h.Color) (by rw [add_zero];exact h.blk.cells 3 _ rfl) ?_;refine cO (fun e=>hN (by rw [eq_of_beq e];simp)) fun e4=>⟨by decide,?_⟩;have e4:F.h.Color≠4:=by simpa using e4
 rw [hx.n,show (3:Int)=((3:Nat):Int) from rfl,<-Int.ofNat_tmod,<-ofNat_tdiv,w64i (x:=((ds.length/3:Nat):Int)) (by omega)];refine cO (fun e=>hN ?_) fun e5=>?_
 ·have e:ds.length%3≠0:=fun h=>by rw [h] at e;cases e
  rw [dTq e];simp
 have e5:ds.length%3=0:=by
  rcases Nat.eq_zero_or_pos (ds.length%3) with h | h
  ·exact h
  ·rw [qf7 (by omega)] at e5;cases e5
 refine cO (fun e=>hN ?_) fun e6=>?_
 ·have e:=oTq e;rw [dTq (show ds.length/3<1 by omega)];simp
 have e6:=oFq e6;refine cO (fun e=>hN ?_) fun e7=>?_
 ·have e:=oTq e;rw [dTq (show ds.length/3>256 by omega)];simp
 have e7:=oFq e7;have hgo:(F.h.Color=3->¬ds.length/3>2^F.h.Depth.toNat)->J () w:=by
  intro e8;have hall:(!(F.hasP || F.hasD || decide (F.h.Color=0) || decide (F.h.Color=4) || decide (ds.length%3≠0) || decide (ds.length/3<1) || decide (ds.length/3>256) || (decide (F.h.Color=3) && decide (ds.length/3>2^F.h.Depth.toNat))))=true:=by
   rw [e1,e2,dFq e3,dFq e4,dFq (show ¬ds.length%3≠0 by omega),dFq (show ¬ds.length/3<1 by omega),dFq (show ¬ds.length/3>256 by omega)];by_cases e:F.h.Color=3
   ·rw [dFq (e8 e)];simp
   ·rw [dFq e];simp
  refine hJ _ _ ?_;rw [qas];refine qaj h.blk (by simp [qjr,qdx.rep]) fun w2 hb2 hg2 hs2=>?_;rw [qas];refine qaj hb2 (by simp [qjr,qdx.rep,putL]) fun w3 hb3 hg3 hs3=>?_;have hc3:Chg (fun k=>k=g) w w3:=(Chg.gg hg2).trans (Chg.gg hg3) fun i _ hi=>hi;refine hY hall w3 ⟨hb3,hx.chg hc3 fun a ha e=>?_,h.tr.chg hc3 fun a ha e=>?_,h.data.chg hc3 fun k hk e=>qa0 h.data h.blk (by decide) k hk e,hxb,h.tb⟩ hc3
  ·have:=hxb a.block (slk.2 ⟨a,ha,rfl⟩);omega
  ·have:=h.tb a.block (slk.2 ⟨a,ha,rfl⟩);omega
 refine lI (x:=F.h.Color) (by rw [add_zero];exact h.blk.cells 3 _ rfl) ?_;refine cO (fun e=>?_) fun e=>?_
 ·have e:F.h.Color=3:=eq_of_beq e;refine lI (x:=F.h.Depth) (by rw [add_zero];exact h.blk.cells 2 _ rfl) ⟨by have:=hc.d;omega,?_⟩;have hsh:i64.wrap ((1:Int)*2^(min F.h.Depth.toNat i64.bits))=((2^F.h.Depth.toNat:Nat):Int):=by
   rcases hc.d with h | h | h | h | h<;>rw [h]<;>decide
  rw [hsh];refine cO (fun e8=>hN ?_) fun e8=>hgo fun _=>?_
  ·have e8:=oTq e8;rw [dTq e,dTq (show ds.length/3>2^F.h.Depth.toNat from by exact_mod_cast e8)];simp
  ·have e8:=oFq e8;intro h9;exact e8 (by exact_mod_cast h9)
 ·have e:F.h.Color≠3:=by simpa using e
  exact hgo fun h=>absurd h e
theorem zdf (h:FilA w g b F p t d) (hc:ColOk F.h) {x:Slc} {ds:List UInt8} (hx:Rd qae w x ds) (hxb:∀k,x.blk=some k->k<b) (hbg:b<=g) (hl:ds.length<=1000000000) (hpl:F.pal.length<=1000000000) {K:Bool->World->Prop}
  (hN:qp1 F ds=false->K false w) (hY:qp1 F ds=true->∀w',FilA w' g b { F with tr:=ds,hasT:=true } p x d->Chg (fun k=>k=g) w w'->K true w'):qma (some ⟨g,0,none⟩) x w K:=by
 refine qzc _ _ ?_;unfold qrr;simp only [onPtr_some];refine jpO fun J1 hJ1=>?_;unfold qp1 at hN hY;have key:∀ok:Bool,ok=(if F.h.Color=0 then decide (ds.length=2) else if F.h.Color=2 then decide (ds.length=6) else if F.h.Color=3 then F.hasP && decide (ds.length<=F.pal.length/3) else false)->J1 (ok,()) w:=by
  intro ok hok;rw [<-hok] at hN hY;refine hJ1 _ _ (jpO fun J2 hJ2=>?_);refine cO (fun e=>hN ?_) fun e1=>?_
  ·have:ok=false:=by simpa using e
   rw [this];simp
  have e1:ok=true:=by simpa using e1
  refine qc5 (x:=F.hasT) (h.blk.cells 8 _ rfl) (cO (fun e=>hN (by rw [e];simp)) fun e2=>?_);refine qc5 (x:=F.hasD) (h.blk.cells 10 _ rfl) (cO (fun e=>hN (by rw [e];simp)) fun e3=>?_);refine hJ2 _ _ ?_;rw [qas];refine qaj h.blk (by simp [qjr,qdx.rep]) fun w2 hb2 hg2 hs2=>?_;rw [qas];refine qaj hb2 (by simp [qjr,qdx.rep,putL]) fun w3 hb3 hg3 hs3=>?_;have hc3:Chg (fun k=>k=g) w w3:=(Chg.gg hg2).trans (Chg.gg hg3) fun i _ hi=>hi;refine hY (by rw [e1,e2,e3];rfl) w3 ⟨hb3,h.pal.chg hc3 fun a ha e=>?_,hx.chg hc3 fun a ha e=>?_,h.data.chg hc3 fun k hk e=>qa0 h.data h.blk (by decide) k hk e,h.pb,hxb⟩ hc3
  ·have:=h.pb a.block (slk.2 ⟨a,ha,rfl⟩);omega
  ·have:=hxb a.block (slk.2 ⟨a,ha,rfl⟩);omega
 have hnn:∀m:Nat,((((ds.length:Nat):Int))==(m:Int))=decide (ds.length=m):=fun m=>by rw [Bool.eq_iff_iff];simp;omega
 refine lI (x:=F.h.Color) (by rw [add_zero];exact h.blk.cells 3 _ rfl) ?_;rw [hx.n];refine cO (fun e=>?_) fun e0=>?_
 ·refine key _ ?_;rw [if_pos (eq_of_beq e)];exact hnn 2
 have e0:F.h.Color≠0:=by simpa using e0
 refine cO (fun e=>?_) fun e2=>?_
 ·refine key _ ?_;rw [if_neg e0,if_pos (eq_of_beq e)];exact hnn 6
 have e2:F.h.Color≠2:=by simpa using e2
 refine cO (fun e=>?_) fun e3=>?_
 ·have e3:F.h.Color=3:=eq_of_beq e;refine qc5 (x:=F.hasP) (h.blk.cells 7 _ rfl) (cO (fun e=>?_) fun e=>?_)
  ·refine lSl (x:=p) (h.blk.cells 5 _ rfl) ⟨by decide,key _ ?_⟩;rw [if_neg e0,if_neg e2,if_pos e3,e,h.pal.n,show (3:Int)=((3:Nat):Int) from rfl,<-ofNat_tdiv,w64i (x:=((F.pal.length/3:Nat):Int)) (by omega),Bool.true_and];rw [decide_eq_decide];omega
  ·refine key _ ?_;rw [if_neg e0,if_neg e2,if_pos e3,e];rfl
 ·have e3:F.h.Color≠3:=by simpa using e3
  refine key _ ?_;rw [if_neg e0,if_neg e2,if_neg e3]
theorem q8f (k l:List UInt8):((strB k).toList==(strB l).toList)=decide (k=l):=by
 rw [qdr,qdr,Bool.eq_iff_iff];simp
theorem FilA.setW (h:FilA w g b F p t d) (v:Bool) {w':World} (hb:Blk w' g qlp (qjr { F with wasD:=v } p t d)) (hc:Chg (fun k=>k=g) w w') (hbg:b<=g):FilA w' g b { F with wasD:=v } p t d :=
 ⟨hb,h.pal.chg hc fun a ha e=>by have:=h.pb a.block (slk.2 ⟨a,ha,rfl⟩);omega,h.tr.chg hc fun a ha e=>by have:=h.tb a.block (slk.2 ⟨a,ha,rfl⟩);omega,h.data.chg hc fun k hk e=>qa0 h.data h.blk (by decide) k hk e,h.pb,h.tb⟩
theorem zc2 (h:FilA w g b F p t d) (hc:ColOk F.h) {x:qam} {c:ChL} (hx:ChA w x c) (hxb:∀k,x.Data.blk=some k->k<b) (hbg:b<=g) (hk4:c.kind.length=4) (hl:c.data.length<=1000000) (hpl:F.pal.length<=1000000) (hdl:F.data.length<=1000000000) {K:Int->World->Prop}
  (hN:∀w',(takeP F c).1≠0->Below b w w'->K ((takeP F c).1:Nat) w') (hY:(takeP F c).1=0->∀p' t' d' w',FilA w' g b (takeP F c).2 p' t' d'->Below b w w'->K 0 w'):qnh (some ⟨g,0,none⟩) x w K:=by
 refine q0v _ _ ?_;unfold qsz;simp only [onPtr_some];have hgl:=h.blk.lt;refine nwb fun w1 h1 hB1 hs1=>?_;have hf1:=h.ext hB1;refine qc5 (x:=F.wasD) (hf1.blk.cells 11 _ rfl) ?_;refine ql0 (x:=x.Kind) (h1.cells 0 _ rfl) ?_;rw [hx.kind,show (⟨#[73,68,65,84]⟩:ByteArray)=strB idatL from rfl,show (⟨#[73,72,68,82]⟩:ByteArray)=strB ihdrL from rfl,show (⟨#[80,76,84,69]⟩:ByteArray)=strB plteL from rfl,show (⟨#[116,82,78,83]⟩:ByteArray)=strB trnsL from rfl,show (⟨#[73,69,78,68]⟩:ByteArray)=strB iendL from rfl,q8f];rw [qas];refine qaj hf1.blk (by simp [qjr,qdx.rep]) fun w2 hb2 hg2 hs2=>?_;have hc2:Chg (fun k=>k=g) w1 w2:=Chg.gg hg2;have hf2:FilA w2 g b { F with wasD:=decide (c.kind=idatL) } p t d:=hf1.setW _ hb2 hc2 hbg;have h12:Blk w2 w.heap.size qct (qam.rep.cells x):=h1.chg hc2 (by omega);have hB2:Below b w w2:=(hB1.mono (by omega)).trans (hc2.below (by have:=hB1.size;omega) fun i hi e=>by omega);have hx2:ChA w2 x c:=⟨hx.kind,(hx.data.ext hB1).chg hc2 fun a ha e=>by have:=hxb a.block (slk.2 ⟨a,ha,rfl⟩);omega⟩;obtain ⟨F2,hF2⟩:∃F2:FilL,F2={ F with wasD:=decide (c.kind=idatL) }:=⟨_,rfl⟩;rw [<-hF2] at hf2;unfold takeP at hN hY;refine jpO fun J hJ=>?_;have hbad:∀w',Below b w w'->(∀w',Below b w w'->K 3 w')->J (false,()) w':=fun w' hB hk=>hJ _ _ (cT rfl (hk w' hB));refine ql0 (x:=x.Kind) (h12.cells 0 _ rfl) ?_;rw [hx.kind];simp only [q8f];refine cO (fun e=>?_) fun e1=>?_
 ·have e:=oTq e;rw [if_pos e] at hN;exact hbad w2 hB2 fun w' hB=>hN w' (show (3:Nat)≠0 by decide) hB
 have e1:=oFq e1;rw [if_neg e1] at hN hY;refine cO (fun e=>?_) fun e2=>?_
 ·have e:=oTq e;rw [if_pos e] at hN hY;refine lSl (x:=x.Data) (h12.cells 1 _ rfl) ?_;have hnd:decide (c.kind=idatL)=false:=dFq (by rw [e];decide);have hpo:qqf F2 c.data=qqf F c.data:=by rw [hF2];rfl
  refine zbb hf2 (by rw [hF2];exact hc) hx2.data hxb hbg (by omega) (fun hp=>?_) (fun hp w3 hf3 hc3=>?_)
  ·rw [hpo] at hp;rw [hp] at hN;exact hbad w2 hB2 fun w' hB=>hN w' (show (3:Nat)≠0 by decide) hB
  ·rw [hpo] at hp;rw [hp] at hY;refine hJ _ _ (cF rfl (hY rfl x.Data t d w3 ?_ (hB2.trans (hc3.below (by have:=hB2.size;have:=h.blk.lt;omega) fun i hi e=>by omega))));rw [hF2,hnd] at hf3;exact hf3
 have e2:=oFq e2;rw [if_neg e2] at hN hY;refine cO (fun e=>?_) fun e3=>?_
 ·have e:=oTq e;rw [if_pos e] at hN hY;refine lSl (x:=x.Data) (h12.cells 1 _ rfl) ?_;have hnd:decide (c.kind=idatL)=false:=dFq (by rw [e];decide);have hpo:qp1 F2 c.data=qp1 F c.data:=by rw [hF2];rfl
  refine zdf hf2 (by rw [hF2];exact hc) hx2.data hxb hbg (by omega) (by rw [hF2];show F.pal.length<=_;omega) (fun hp=>?_) (fun hp w3 hf3 hc3=>?_)
  ·rw [hpo] at hp;rw [hp] at hN;exact hbad w2 hB2 fun w' hB=>hN w' (show (3:Nat)≠0 by decide) hB
  ·rw [hpo] at hp;rw [hp] at hY;refine hJ _ _ (cF rfl (hY rfl p x.Data d w3 ?_ (hB2.trans (hc3.below (by have:=hB2.size;have:=h.blk.lt;omega) fun i hi e=>by omega))));rw [hF2,hnd] at hf3;exact hf3
 have e3:=oFq e3;rw [if_neg e3] at hN hY;refine cO (fun e=>?_) fun e4=>?_
 ·have e:=oTq e;rw [if_pos e] at hN hY;have hnd:decide (c.kind=idatL)=true:=dTq e;refine jpO fun J2 hJ2=>?_;have key:J2 (!F.hasD || F.wasD,()) w2:=by
   refine hJ2 _ _ ?_;rw [qas];refine qaj hf2.blk (by simp [qjr,qdx.rep]) fun w3 hb3 hg3 hs3=>?_;have hc3:Chg (fun k=>k=g) w2 w3:=Chg.gg hg3;have h13:Blk w3 w.heap.size qct (qam.rep.cells x):=h12.chg hc3 (by omega);have hb3:Blk w3 g qlp (qjr { F2 with hasD:=true } p t d):=hb3;have hx3:ChA w3 x c:=⟨hx.kind,hx2.data.chg hc3 fun a ha e=>by have:=hxb a.block (slk.2 ⟨a,ha,rfl⟩);omega⟩;have hd3:Go.Vc.Own qae w3 b d F.data:=by
    have:=hf2.data.chg hc3 fun k hk e=>qa0 hf2.data hf2.blk (by decide) k hk e;rw [hF2] at this;exact this
   have hBd:=bdw w3;refine lSl (x:=d) ((hb3.ext hBd).cells 9 _ rfl) (lSl (x:=x.Data) ((h13.ext hBd).cells 1 _ rfl) ?_);have hsz3:w3.drew.heap.size=w3.heap.size:=rfl;refine apB (hd3.ext hBd) (hx3.data.ext hBd) (by have:=hB2.size;omega) (by omega) fun r w4 hr hg4 hrb=>?_;have hc4:Chg (fun k=>d.blk=some k) w3 w4:=(Chg.of_ext hBd).trans hg4 fun i _ hi=>hi;have hdg:∀k,d.blk=some k->k≠g:=qa0 hd3 hb3 (by decide);have hb4:=hb3.chg hc4 fun e=>hdg _ e rfl;rw [qas];refine qaj hb4 (by simp [qjr,qdx.rep]) fun w5 hb5 hg5 hs5=>?_;have hc5:Chg (fun k=>k=g) w4 w5:=Chg.gg hg5;have hb5:Blk w5 g qlp (qjr { F2 with hasD:=true,data:=F.data++c.data } p t r):=hb5;have hrg:∀k,r.blk=some k->k≠g:=qa0 hr hb4 (by decide);have hlow:∀{s:Slc} {l:List UInt8},Rd qae w2 s l->(∀k,s.blk=some k->k<b)->Rd qae w5 s l:=fun {s l} hs hsb =>
    ((
     hs.chg hc3 fun a ha e=>by have:=hsb a.block (slk.2 ⟨a,ha,rfl⟩);omega).chg hc4 fun a ha e=>by
     have h1:=hsb a.block (slk.2 ⟨a,ha,rfl⟩);have h2:=(hd3.lt _ e).1;omega).chg hc5 fun a ha e=>by have:=hsb a.block (slk.2 ⟨a,ha,rfl⟩);omega
   have hB5:Below b w w5:=by
    have s2:=hB2.size;have s3:=hc3.size;have s4:=hc4.size;exact ((hB2.trans (hc3.below (by omega) fun i hi e=>by omega)).trans (hc4.below (by omega) fun i hi e=>by have:=(hd3.lt i e).1;omega)).trans (hc5.below (by omega) fun i hi e=>by omega)
   refine hJ _ _ ?_;cases hok:(!F.hasD || F.wasD) with
   | false =>
    rw [hok] at hN;exact cT rfl (hN w5 (show (3:Nat)≠0 by decide) hB5)
   | true =>
    rw [hok] at hY;refine cF rfl (hY rfl p t r w5 ?_ hB5);refine ⟨?_,?_,?_,hr.chg hc5 fun k hk e=>hrg k hk e,hf2.pb,hf2.tb⟩
    ·rw [hF2,hnd] at hb5;exact hb5
    ·have:=hlow hf2.pal hf2.pb;rw [hF2] at this;exact this
    ·have:=hlow hf2.tr hf2.tb;rw [hF2] at this;exact this
  refine qc5 (x:=F.hasD) (by have:=hf2.blk.cells 10 _ rfl;rw [hF2] at this;exact this) ?_;refine cO (fun e=>?_) fun e=>?_
  ·have e:F.hasD=false:=by simpa using e
   rw [e] at key;exact key
  ·have e:F.hasD=true:=by simpa using e
   rw [e] at key;exact key
 have e4:=oFq e4;rw [if_neg e4] at hN hY;have hnd:decide (c.kind=idatL)=false:=dFq e4;have hf2':FilA w2 g b { F with wasD:=false } p t d:=by rw [hF2,hnd] at hf2;exact hf2
 refine cO (fun e=>?_) fun e5=>?_
 ·have e:=oTq e;rw [if_pos e] at hN hY;refine lSl (x:=x.Data) (h12.cells 1 _ rfl) ?_;rw [hx.data.n];by_cases he:c.data=[]
  ·rw [if_pos he] at hN hY;rw [he];exact hJ _ _ (cF rfl (hY rfl p t d w2 hf2' hB2))
  ·rw [if_neg he] at hN;rw [qtd (by have:=List.length_pos_iff.2 he;omega)];exact hbad w2 hB2 fun w' hB=>hN w' (show (3:Nat)≠0 by decide) hB
 have e5:=oFq e5;rw [if_neg e5] at hN hY;refine ql0 (x:=x.Kind) (h12.cells 0 _ rfl) ?_;rw [hx.kind];have hsz:(strB c.kind).size=c.kind.length:=by show c.kind.toArray.size=_;simp
 refine ⟨⟨by decide,by rw [hsz,hk4];decide⟩,?_⟩;have hch:((strB c.kind).data.getD (0:Int).toNat 0).toNat=(c.kind[0]?.getD 0).toNat:=by
  show (c.kind.toArray.getD 0 0).toNat=_;rw [Array.getD_eq_getD_getElem?];simp
 rw [hch];by_cases h90:(c.kind[0]?.getD 0).toNat<=90
 ·rw [if_pos h90] at hN;exact cT (dTq (by omega)) (hN w2 (show (8:Nat)≠0 by decide) hB2)
 ·rw [if_neg h90] at hN hY;exact cF (dFq (by omega)) (hJ _ _ (cF rfl (hY rfl p t d w2 hf2' hB2)))
end
theorem q56 (wx samples depth:Int):rowP wx samples depth<=131072:=by
 unfold rowP;split
 ·omega
 ·rename_i h;simp only [not_or] at h;obtain ⟨h1,h2,h3,h4,h5⟩:=h;have hd:qdj depth=true:=by cases e:qdj depth with | true=>rfl | false=>exact absurd e h5
  have hdp:1<=depth/\depth<=16:=by
   unfold qdj at hd;simp at hd;omega
  have a1:0<=wx*samples:=Int.mul_nonneg (by omega) (by omega);have a2:wx*samples<=16384*4:=Int.mul_le_mul (by omega) (by omega) (by omega) (by omega);have a4:wx*samples*depth<=16384*4*16:=Int.mul_le_mul a2 (by omega) (by omega) (by omega);omega
def needL (h:qag) (L:List (PassP×Nat×Nat)):Nat:=(L.map fun r=>1+rowB h r.2.2).sum
theorem q8y (h:qag):∀L:List (PassP×Nat×Nat),needL h L<=L.length*200000
 | []=>by simp [needL]
 | r::l=>by
  have:=q8y h l;have h2:rowB h r.2.2<=131072:=q56 _ _ _;unfold needL at this ⊢;rw [List.map_cons,List.sum_cons,length_cons];omega
theorem zca (h:qag) (L:List (PassP×Nat×Nat)) (r:PassP×Nat×Nat):needL h (L++[r])=needL h L+(1+rowB h r.2.2):=by simp [needL]
theorem q8r (W H:Nat) (hH:H<=16384):∀ps:List PassP,(ps.flatMap (qcb W H)).length<=ps.length*16384
 | []=>by simp
 | p::r=>by
  have:=q8r W H hH r;have h2:=(qtn p W H).2;rw [List.flatMap_cons,length_append,qh6,length_cons];omega
theorem zft {h:qag} {W H:Nat} (ho:HeadOk h W H):(rowsL h).length<=7*16384:=by
 unfold rowsL;rw [ho.wn,ho.hn];have h1:=q8r W H ho.h2 (qfn h.Lace);have h2:=qxm h.Lace;omega
theorem q8g {w w':World} {S:Nat->Prop} (h:Chg S w w') (hS:∀k,S k->∃t cs,Blk w k t cs/\t≠qbt/\t≠qbo):KeepT w w':=fun k t cs ht hb=>hb.chg h fun e=>by
 obtain ⟨t',cs',hb',h1,h2⟩:=hS k e;refine hb.ne_t hb' ?_ rfl;rcases ht with rfl | rfl
 ·exact fun e=>h1 e.symm
 ·exact fun e=>h2 e.symm
section
variable {w:World}
theorem zgb {h:qag} {W H:Nat} (ho:HeadOk h W H) {K:Int->World->Prop} (hK:∀w',Below w.heap.size w w'->K ((needP h:Nat):Int) w'):qm3 h w K:=by
 refine qzt _ ?_;unfold qtc;refine nwb fun w1 h1 hB1 hs1=>nwb fun w2 h2 hB2 hs2=>?_;have hB12:=bT hB1 hB2;refine qbx h2 rfl fun w3 h3 hc3 hs3=>?_;have hB3:=b1o hB12 hc3 (by omega);have h13:Blk w3 w.heap.size qbo _:=(h1.ext hB2).chg hc3 (by omega);refine qal (r:=qag.rep) (x:=h) h13.cells ?_;refine q7h ho (fun L w4=>Blk w4 w1.heap.size qa9 [.int .i64 ((needL h L:Nat):Int)]/\Blk w4 w.heap.size qbo (qag.rep.cells h)/\Below w.heap.size w w4) (fun _=>False) ⟨h3,h13,hB3⟩ ?_ ?_ ?_ (fun _ h=>h.elim)
 ·rintro L w4 w5 ⟨a,b,c⟩ hB;exact ⟨a.ext hB,b.ext hB,bT c hB⟩
 ·rintro L r R w4 hL ⟨a,b,c⟩ hs4 J hJ1 hJ0;refine qgq (by kernel_rfl) ?_;have hcall:qro (passT r.1) (r.2.1:Int) (r.2.2:Int) ⟨w1.heap.size,0,none⟩ ⟨w.heap.size,0,none⟩ w4 J:=by
   refine qx9 _ _ _ _ _ ?_;unfold qqj;refine nwb fun w5 h5 hB5 hs5=>?_;have hBd:=bT hB5 (bdw w5);have ad:=a.ext hBd;have bd:=b.ext hBd;refine lI (x:=((needL h L:Nat):Int)) (ad.cell 0 rfl) (lI (x:=h.Color) (bd.cells 3 _ rfl) (lI (x:=h.Depth) (bd.cells 2 _ rfl) ?_));refine qtm ⟨bd.cells 2 _ rfl,ad.cell 0 rfl,q8x ⟨ad.cell 0 rfl,?_⟩⟩;have hle:=q8y h L;have hll:=zft ho;rw [hL,length_append,length_cons] at hll;have hrl:rowP (r.2.2:Int) (qak h.Color) h.Depth<=131072:=q56 _ _ _;have hrb:rowB h r.2.2=rowP (r.2.2:Int) (qak h.Color) h.Depth:=rfl;rw [w64i (x:=(1:Int)+((rowP (r.2.2:Int) (qak h.Color) h.Depth:Nat):Int)) (by omega),w64i (by omega)];refine qbx ad rfl fun w6 h6 hc6 hs6=>?_;have hne:w.heap.size≠w1.heap.size:=by omega
   refine hJ1 w6 ⟨?_,bd.chg hc6 hne,b1o (bT c hBd) hc6 (by omega)⟩ ?_ (by have:=hBd.size;omega)
   ·rw [zca,hrb];have e:((needL h L:Nat):Int)+((1:Int)+((rowP (r.2.2:Int) (qak h.Color) h.Depth:Nat):Int))=((needL h L+(1+rowP (r.2.2:Int) (qak h.Color) h.Depth):Nat):Int):=by omega
    rw [e] at h6;exact h6
   ·refine q8g (S:=fun k=>k=w1.heap.size) ((Chg.of_ext hBd).trans hc6 fun i _ hi=>hi) fun k hk=>⟨qa9,[.int .i64 ((needL h L:Nat):Int)],by rw [hk];exact a,by decide,by decide⟩
  refine Calls.mono hcall ?_;rintro e w' ⟨r,rfl,hk⟩;exact ⟨r,rfl,hk⟩
 ·rintro w4 ⟨a,b,c⟩;exact lI (x:=((needP h:Nat):Int)) (a.cell 0 rfl) (hK w4 c)
theorem zcw {v n:Nat} {K:Int->World->Prop} (hv:v<=1000000) (hn:1<=n) (hn2:n<=1000000) (hvn:v<=n) (h255:v<=1000) (hK:K ((q8b v n 255:Nat):Int) w):qk4 (v:Int) (n:Int) 255 w K:=by
 refine qxy _ _ _ ?_;unfold qpw;refine jpO fun J hJ=>?_;have hj:J () w:=hJ _ _ ⟨by decide,by omega,by
  unfold q8b at hK;rw [if_neg (by omega)] at hK;have hq:(v*255+n/2)/n<=v*255+n/2:=Nat.div_le_self _ _;rw [w64i (x:=(v:Int)*255) (by omega),show (2:Int)=((2:Nat):Int) from rfl,<-ofNat_tdiv,w64i (x:=((n/2:Nat):Int)) (by omega),show (v:Int)*255+((n/2:Nat):Int)=((v*255+n/2:Nat):Int) by omega,w64i (x:=((v*255+n/2:Nat):Int)) (by omega),<-ofNat_tdiv];generalize (v*255+n/2)/n=q at hK hq ⊢;rw [w64i (by omega)];exact hK⟩
 refine cF (dFq (by omega)) (cF (dFq (by omega)) (cF (dFq (by omega)) (cF (by decide) ?_)));refine cO (fun h=>?_) fun h=>hj;have h:=oTq h;refine ⟨by omega,cF (dFq ?_) hj⟩;rw [show (1073741824:Int)=((1073741824:Nat):Int) from rfl,<-ofNat_tdiv];have h1:1073741824/v<=1073741824:=Nat.div_le_self _ _;have h2:255<=1073741824/v:=(Nat.le_div_iff_mul_le (by omega)).2 (by omega);generalize 1073741824/v=q at h1 h2 ⊢;rw [w64i (by omega)];omega
theorem q54 (n:Nat):IntKind.u8.wrap (n:Int)=(((UInt8.ofNat n).toNat:Nat):Int):=qtq n
theorem qnx {h:qag} {v:Nat} {K:Int->World->Prop} (hc:ColOk h) (hv:v<2^h.Depth.toNat) (hK:∀w',Below w.heap.size w w'->K (((qg2 h.Depth v).toNat:Nat):Int) w'):qdl h (v:Int) w K:=by
 refine qzn _ _ ?_;unfold qrx;refine nwb fun w1 h1 hB1 hs1=>?_;refine lI (x:=h.Depth) (h1.cells 2 _ rfl) ?_;unfold qg2 at hK;refine cO (fun e=>?_) fun e8=>?_
 ·rw [if_pos (eq_of_beq e)] at hK;rw [q54];exact hK w1 hB1
 have e8:h.Depth≠8:=by simpa using e8
 rw [if_neg e8] at hK;refine cO (fun e=>⟨by decide,?_⟩) fun e16=>?_
 ·rw [if_pos (eq_of_beq e)] at hK;rw [show min ((8:Int)).toNat i64.bits=8 by decide,qft,q54];exact hK w1 hB1
 have e16:h.Depth≠16:=by simpa using e16
 rw [if_neg e16] at hK;refine lI (x:=h.Depth) (h1.cells 2 _ rfl) ⟨by have:=hc.d;omega,?_⟩;have hd:h.Depth=1\/h.Depth=2\/h.Depth=4:=by have:=hc.d;omega
 have hsh:i64.wrap ((i64.wrap ((1:Int)*2^(min h.Depth.toNat i64.bits)))-(1:Int))=((2^h.Depth.toNat-1:Nat):Int):=by
  rcases hd with h | h | h<;>rw [h]<;>decide
 have hp:2<=2^h.Depth.toNat/\2^h.Depth.toNat<=16:=by rcases hd with h | h | h<;>rw [h]<;>decide
 rw [hsh];refine zcw (by omega) (by omega) (by omega) (by omega) (by omega) ?_;rw [q54];exact hK w1 hB1
def colT (a b c d:UInt8):qao:=⟨(a.toNat:Nat),(b.toNat:Nat),(c.toNat:Nat),(d.toNat:Nat)⟩
theorem zj8 {f:FilL} {i:Nat} {d:Nat} (hd:d=1\/d=2\/d=4\/d=8\/d=16) (x y:UInt8) :
  bitsR .and .i64 (bitsR .or .i64 (i64.wrap ((i64.wrap ((x.toNat:Nat):Int))*2^(min (8:Int).toNat i64.bits))) (i64.wrap ((y.toNat:Nat):Int))) (i64.wrap ((i64.wrap ((1:Int)*2^(min ((d:Nat):Int).toNat i64.bits)))-(1:Int)))=(((x.toNat*256+y.toNat)%2^d:Nat):Int):=by
 have hx:=x.toNat_lt;have hy:=y.toNat_lt;rw [w8,w8,show min ((8:Int)).toNat i64.bits=8 by decide,qbk,qax .i64 (x:=x.toNat*2^8) (by show _<2^63;omega),qd3 .i64 (by show _<2^63;omega) (by show _<2^63;omega)];have e:x.toNat*2^8 ||| y.toNat=x.toNat*256+y.toNat:=by
  rw [Nat.or_comm,Nat.mul_comm,qg8 (by omega)];omega
 have hsh:i64.wrap ((i64.wrap ((1:Int)*2^(min ((d:Nat):Int).toNat i64.bits)))-(1:Int))=((2^d-1:Nat):Int):=by
  rcases hd with rfl | rfl | rfl | rfl | rfl<;>decide
 have hp:2^d<=65536:=by rcases hd with rfl | rfl | rfl | rfl | rfl<;>decide
 rw [e,hsh,qgr .i64 (by show _<2^63;omega) (by show _<2^63;omega),Nat.and_two_pow_sub_one_eq_mod]
theorem q96 (F:FilL) (ss:List Nat) (i:Nat):qj2 F ss (i+1)=(qj2 F ss i && decide (ss[i]?.getD 0=((F.tr[2*i]?.getD 0).toNat*256+(F.tr[2*i+1]?.getD 0).toNat)%2^F.h.Depth.toNat)):=by
 unfold qj2;rw [List.range_succ,List.all_append];simp
theorem q8z {F:FilL} {ss:List Nat} {i n:Nat} (h:qj2 F ss i=false) (hin:i<=n):qj2 F ss n=false:=by
 unfold qj2 at h ⊢;rw [List.all_eq_false] at h ⊢;obtain ⟨x,hx,hh⟩:=h;exact ⟨x,List.mem_range.2 (by have:=List.mem_range.1 hx;omega),hh⟩
theorem FilA.head {g b:Nat} {F:FilL} {p t d:Slc} (h:FilA w g b F p t d):qaw w ⟨g,0,none⟩ (qag.rep.cells F.h):=by
 have:qaw w ((⟨g,0,none⟩:Addr).add 0) (qag.rep.cells F.h):=h.blk.cells.sub 0 (by rintro j v hj;rw [Nat.zero_add];match j,hj with
     | 0,hj=>exact hj
     | 1,hj=>exact hj
     | 2,hj=>exact hj
     | 3,hj=>exact hj
     | 4,hj=>exact hj
     | j+5,hj=>simp [qag.rep] at hj)
 rwa [add_zero] at this
theorem q4q {g b:Nat} {F:FilL} {p t d:Slc} (h:FilA w g b F p t d) (ho:FilOk F) {s:Slc} {ss:List Nat} (hs:Rd E_int w s (intsN ss)) (hsl:ss.length=qak F.h.Color) (hsv:∀v∈ss,v<2^F.h.Depth.toNat) (hpl:F.pal.length<=1000000) (htl:F.tr.length<=1000000) {K:qao->Bool->World->Prop}
  (hN:∀x w',qic F ss=none->Below w.heap.size w w'->K x false w') (hY:∀a b c d w',qic F ss=some [a,b,c,d]->Below w.heap.size w w'->K (colT a b c d) true w'):qem (some ⟨g,0,none⟩) s w K:=by
 obtain ⟨_,hc⟩:=qpu ho.hd;refine qzd _ _ ?_;unfold qrh;simp only [onPtr_some];refine nwb fun w1 h1 hB1 hs1=>nwb fun w2 h2 hB2 hs2=>?_;have hB12:=bT hB1 hB2;refine qbx h2 rfl fun w3 h3 hc3 hs3=>?_;have hB3:=b1o hB12 hc3 (by omega);have h13:Blk w3 w.heap.size qa4 _:=(h1.ext hB2).chg hc3 (by omega);have h3:Blk w3 w1.heap.size qa4 (qbc [0,0,0,255]):=h3;have hss:∀i,i<ss.length->∃v,ss[i]?=some v/\v<2^F.h.Depth.toNat:=fun i hi=>⟨ss[i],List.getElem?_eq_getElem hi,hsv _ (List.getElem_mem hi)⟩;have hsn:=hs.n;rw [qpm] at hsn;have scell:∀{w':World} {i v:Nat},Below w.heap.size w w'->ss[i]?=some v->w'.cell? (s.at_ 1 i)=some (.int .i64 (v:Int)):=fun {w' i v} hB hv=>by
  have:=(hs.ext hB).at_ i (v:Int) (by rw [q8j,hv];rfl) 0 _ rfl;have h2:w'.cell? (s.at_ E_int.k i)=some (.int .i64 (v:Int)):=by simpa using this
  exact h2
 have six:∀{w':World} {i:Nat} {K:Addr->Prop},i<ss.length->K (s.at_ 1 i)->ixK s (i:Int) 1 K:=fun {w' i K} hi hk=>hs.ix (i:=(i:Int)) rfl (by omega) (by rw [qpm];omega) fun _=>hk;have hsmp1:1<=ss.length:=by
  rw [hsl];unfold qak;rcases hc.c with e | e | e | e | e<;>rw [e]<;>decide
 have hs4:ss.length<=4:=by
  rw [hsl];unfold qak;rcases hc.c with e | e | e | e | e<;>rw [e]<;>decide
 obtain ⟨v0,hv0,hv0l⟩:=hss 0 (by omega);have told:∀(a b' c d':UInt8) w',Blk w' w1.heap.size qa4 (qbc [a,b',c,d'])->Blk w' w.heap.size qa4 (qbc [0,0,0,0])->Below w.heap.size w w'->qic F ss=some [a,b',c,d'] ->
   ldS qao.rep ⟨w1.heap.size,0,none⟩ w' fun t175=>stK ⟨w.heap.size,0,none⟩ (qao.rep.cells t175) w' fun w9=>ldS qao.rep ⟨w.heap.size,0,none⟩ w9 fun r=>K r true w9:=by
  intro a b' c d' w' hb ht hB hcol;refine qal (r:=qao.rep) (x:=colT a b' c d') hb.cells ?_;exact qbm (r:=qao.rep) (x:=colT a b' c d') ht rfl rfl fun w9 hc9 _=>hY a b' c d' w9 hcol (b1o hB hc9 (le_refl _))
 refine jpO fun J1 hJ1=>?_;have base:∀(a b' c:UInt8) w4,F.h.Color≠3->Blk w4 w1.heap.size qa4 (qbc [a,b',c,255])->Blk w4 w.heap.size qa4 (qbc [0,0,0,0])->Below w.heap.size w w4 ->
   (∀al:UInt8,al=(if F.hasT && qj2 F ss ss.length then 0 else if F.h.Color=4\/F.h.Color=6 then qg2 F.h.Depth (ss[ss.length-1]?.getD 0) else 255)->qic F ss=some [a,b',c,al])->J1 () w4:=by
  intro a b' c w4 hn3 hb4 ht4 hB4 hcol;refine hJ1 _ _ (jpO fun J2 hJ2=>?_);have tail:∀(al:UInt8) w5,Blk w5 w1.heap.size qa4 (qbc [a,b',c,al])->Blk w5 w.heap.size qa4 (qbc [0,0,0,0])->Below w.heap.size w w5->al=(if F.h.Color=4\/F.h.Color=6 then qg2 F.h.Depth (ss[ss.length-1]?.getD 0) else 255)->J2 () w5:=by
   intro al w5 hb5 ht5 hB5 hal;refine hJ2 _ _ ?_;have hf5:=h.ext hB5;refine qc5 (x:=F.hasT) (hf5.blk.cells 8 _ rfl) ?_;refine lpR (fun (st:Bool×Int×Unit) w6=>∃i:Nat,st.2.1=i/\i<=ss.length/\st.1=(F.hasT && qj2 F ss i)/\Blk w6 w1.heap.size qa4 (qbc [a,b',c,al])/\Blk w6 w.heap.size qa4 (qbc [0,0,0,0])/\Below w.heap.size w w6) (fun st=>ss.length-st.2.1.toNat)
    ⟨0,rfl,by omega,by rw [show qj2 F ss 0=true from rfl,Bool.and_true],hb5,ht5,hB5⟩ ?_
   rintro ⟨sm,i,u⟩ w6 ⟨i,rfl,hi,hsm,hb6,ht6,hB6⟩ I hI;dsimp only at hsm ⊢;have hend:(F.hasT && qj2 F ss ss.length)=sm->cond sm
       (ixA (⟨w1.heap.size,0,none⟩:Addr) 4 3 1 fun t174=>stK t174 [(.int .u8 0)] w6 fun w8=>ldS qao.rep (⟨w1.heap.size,0,none⟩:Addr) w8 fun t175=>stK (⟨w.heap.size,0,none⟩:Addr) (qao.rep.cells t175) w8 fun w9=>ldS qao.rep (⟨w.heap.size,0,none⟩:Addr) w9 fun r=>K r true w9)
       (ldS qao.rep (⟨w1.heap.size,0,none⟩:Addr) w6 fun t175_1=>stK (⟨w.heap.size,0,none⟩:Addr) (qao.rep.cells t175_1) w6 fun w10=>ldS qao.rep (⟨w.heap.size,0,none⟩:Addr) w10 fun r_1=>K r_1 true w10):=by
    intro hes;cases hsm':sm with
    | true =>
     rw [hsm'] at hes;refine cT rfl ⟨⟨by decide,by decide⟩,?_⟩;rw [qas];refine qaj hb6 (by simp [qbc]) fun w8 hb8 hg8 hs8=>?_;have hb8:Blk w8 w1.heap.size qa4 (qbc [a,b',c,0]):=hb8;have hc8:Chg (fun k=>k=w1.heap.size) w6 w8:=Chg.gg hg8;refine told a b' c 0 w8 hb8 (ht6.chg hc8 (by omega)) (b1o hB6 hc8 (by omega)) (hcol 0 ?_);rw [hes,if_pos rfl]
    | false =>
     rw [hsm'] at hes;refine cF rfl (told a b' c al w6 hb6 ht6 hB6 (hcol al ?_));rw [hes,if_neg (by decide)];exact hal
   refine jpO fun J4 hJ4=>?_;rw [hsn];refine cO (fun hlt=>?_) fun hge=>?_
   ·have hlt:=oTq hlt;have hil:i<ss.length:=by omega
    cases hsm':sm with
    | false =>
     rw [hsm'] at hsm;refine cF rfl ?_;rw [hsm'] at hend;refine hend ?_;cases hT:F.hasT with
     | false=>rfl
     | true =>
      rw [hT,Bool.true_and] at hsm;rw [Bool.true_and];exact q8z hsm.symm (by omega)
    | true =>
     rw [hsm'] at hsm;have hT:F.hasT=true:=by cases e:F.hasT with | true=>rfl | false=>rw [e] at hsm;cases hsm
     have htr:=ho.tr hT;refine cT rfl (hJ4 _ _ ?_);have hBd:=bT hB6 (bdw w6);have hfd:=h.ext hBd;obtain ⟨v,hv,hvl⟩:=hss i hil;have htl2:2*i+1<F.tr.length:=by
      rcases htr with ⟨e,e2⟩ | ⟨e,e2⟩ | e
      ·rw [hsl,e] at hil;have:qak 0=1:=rfl;omega
      ·rw [hsl,e] at hil;have:qak 2=3:=rfl;omega
      ·exact absurd e hn3
     obtain ⟨x,hx,hxs⟩:=qcw (xs:=F.tr) (k:=2*i) (by omega);obtain ⟨y,hy,hys⟩:=qcw (xs:=F.tr) (k:=2*i+1) htl2;refine six (w':=w6) hil (lI (scell hBd hv) ?_);refine lSl (x:=t) (hfd.blk.cells 6 _ rfl) ?_;have ei:i64.wrap ((2:Int)*(i:Int))=((2*i:Nat):Int):=by rw [w64i (by omega)];simp
     have ei1:i64.wrap ((((2*i:Nat)):Int)+(1:Int))=((2*i+1:Nat):Int):=by rw [w64i (by omega)];rfl
     rw [ei,ei1];refine hfd.tr.ix (i:=((2*i:Nat):Int)) rfl (by omega) (by omega) fun _=>?_;refine lI (x:=(x.toNat:Int)) (by rw [toNat_natCast];exact qdo hfd.tr hx) ⟨by decide,?_⟩;refine lSl (x:=t) (hfd.blk.cells 6 _ rfl) ?_;refine hfd.tr.ix (i:=((2*i+1:Nat):Int)) rfl (by omega) (by omega) fun _=>?_;refine lI (x:=(y.toNat:Int)) (by rw [toNat_natCast];exact qdo hfd.tr hy) ?_;refine lI (x:=F.h.Depth) (by rw [add_zero];exact hfd.blk.cells 2 _ rfl) ⟨by have:=hc.d;omega,?_⟩;have hdn:F.h.Depth=((F.h.Depth.toNat:Nat):Int):=by have:=hc.d;omega
     have hv2:=zj8 (f:=F) (i:=i) (d:=F.h.Depth.toNat) (by have:=hc.d;omega) x y;rw [<-hdn] at hv2;rw [hv2,w64i (by omega)];refine hI _ _ ⟨i+1,rfl,by omega,?_,hb6.ext (bdw w6),ht6.ext (bdw w6),hBd⟩ (by simp;omega);dsimp only;rw [hT,Bool.true_and] at hsm ⊢;rw [q96,<-hsm,hv,hx,hy,Bool.true_and,Bool.eq_iff_iff];simp only [beq_iff_eq,decide_eq_true_eq,getD_some];omega
   ·have hge:=oFq hge;obtain rfl:i=ss.length:=by omega
    exact hend hsm.symm
  refine jpO fun J5 hJ5=>?_;have al:∀bb:Bool,(bb=true↔F.h.Color=4\/F.h.Color=6)->J5 (bb,()) w4:=by
   intro bb hbb;refine hJ5 _ _ ?_;refine cO (fun e=>?_) fun e=>?_
   ·have hBd:=bT hB4 (bdw w4);have hfd:=h.ext hBd;refine qal (r:=qag.rep) (x:=F.h) (by rw [add_zero];exact hfd.head) ?_;rw [hsn,w64i (by omega),show ((ss.length:Nat):Int)-1=((ss.length-1:Nat):Int) by omega];obtain ⟨v,hv,hvl⟩:=hss (ss.length-1) (by omega);refine six (w':=w4) (by omega) (lI (scell hBd hv) ?_);refine qnx hc hvl fun w5 hB5=>⟨⟨by decide,by decide⟩,?_⟩;rw [qas];refine qaj ((hb4.ext (bdw w4)).ext hB5) (by simp [qbc]) fun w6 hb6 hg6 hs6=>?_;have hb6:Blk w6 w1.heap.size qa4 (qbc [a,b',c,qg2 F.h.Depth v]):=hb6;have hc6:Chg (fun k=>k=w1.heap.size) w5 w6:=Chg.gg hg6;refine tail (qg2 F.h.Depth v) w6 hb6 (((ht4.ext (bdw w4)).ext hB5).chg hc6 (by omega)) (b1o (bT hBd hB5) hc6 (by omega)) ?_;rw [if_pos (hbb.1 e),hv];rfl
   ·refine tail 255 w4 hb4 ht4 hB4 ?_;rw [if_neg fun h=>by rw [hbb.2 h] at e;cases e]
  have hf4:=h.ext hB4;refine lI (x:=F.h.Color) (by rw [add_zero];exact hf4.blk.cells 3 _ rfl) ?_;refine cO (fun e=>al _ ?_) fun e=>?_
  ·have:=eq_of_beq e;simp [this]
  ·have e:F.h.Color≠4:=by simpa using e
   refine lI (x:=F.h.Color) (by rw [add_zero];exact hf4.blk.cells 3 _ rfl) (al _ ?_);simp [e]
 have hf3:=h.ext hB3;refine lI (x:=F.h.Color) (by rw [add_zero];exact hf3.blk.cells 3 _ rfl) ?_;have hBd:=bT hB3 (bdw w3);have hfd:=h.ext hBd;have h3d:=h3.ext (bdw w3);have h13d:Blk w3.drew w.heap.size qa4 (qbc [0,0,0,0]):=h13.ext (bdw w3);refine cO (fun e=>?_) fun e3=>?_
 ·have e:F.h.Color=3:=eq_of_beq e;have hv16:v0<65536:=lt_of_lt_of_le hv0l (show 2^F.h.Depth.toNat<=2^16 from Nat.pow_le_pow_right (by decide) (by have:=hc.d;omega));refine six (w':=w3) (i:=0) (by omega) (lI (scell hBd hv0) ?_);refine lSl (x:=p) (hfd.blk.cells 5 _ rfl) ?_;have e3v:i64.wrap ((3:Int)*(v0:Int))=((3*v0:Nat):Int):=by rw [w64i (by omega)];simp
  rw [e3v,hfd.pal.n];have hval:qic F ss=(if 3*v0>=F.pal.length then none else some [F.pal[3*v0]?.getD 0,F.pal[3*v0+1]?.getD 0,F.pal[3*v0+2]?.getD 0,if v0<F.tr.length then F.tr[v0]?.getD 0 else 255]):=by
   unfold qic;rw [hv0];dsimp only [getD_some];rw [if_pos e]
  refine cO (fun hge=>?_) fun hlt=>?_
  ·have hge:=oTq hge;rw [if_pos (by omega)] at hval;refine qal (r:=qao.rep) (x:=colT 0 0 0 255) h3d.cells ?_;exact qbm (r:=qao.rep) (x:=colT 0 0 0 255) h13d rfl rfl fun w9 hc9 _=>hN _ w9 hval (b1o hBd hc9 (le_refl _))
  have hlt:=oFq hlt;rw [if_neg (by omega)] at hval;have hp3:=ho.pal;have hBdd:=bT hBd (bdw _);have hfdd:=h.ext hBdd;have h3dd:=h3d.ext (bdw _);have h13dd:=h13d.ext (bdw _);refine ⟨⟨by decide,by decide⟩,?_⟩;refine lSl (x:=p) (hfdd.blk.cells 5 _ rfl) ?_;refine six (w':=w3) (i:=0) (by omega) (lI (scell hBdd hv0) ?_);rw [e3v];refine hfdd.pal.slK (l:=3*v0) (m:=F.pal.length) rfl (.inr rfl) (.inl ⟨rfl,rfl⟩) (by omega) (by omega) fun hpp=>?_;rw [List.take_length] at hpp;have hmin:(3:Nat)=min ((F.pal.drop (3*v0)).length) 3:=by rw [List.length_drop];omega
  refine copyB (o:=0) (dn:=3) (dc:=4) h3dd hpp hmin (by simp [qbc]) fun w18 hb18 hc18 hs18=>?_;obtain ⟨q0,hq0,_⟩:=qcw (xs:=F.pal) (k:=3*v0) (by omega);obtain ⟨q1,hq1,_⟩:=qcw (xs:=F.pal) (k:=3*v0+1) (by omega);obtain ⟨q2,hq2,_⟩:=qcw (xs:=F.pal) (k:=3*v0+2) (by omega);have htk:(F.pal.drop (3*v0)).take 3=[q0,q1,q2]:=by
   have c0:F.pal.drop (3*v0)=q0::F.pal.drop (3*v0+1):=by
    rw [List.getElem?_eq_getElem (by omega)] at hq0;rw [<-Option.some.inj hq0,<-List.drop_eq_getElem_cons]
   have c1:F.pal.drop (3*v0+1)=q1::F.pal.drop (3*v0+2):=by
    rw [List.getElem?_eq_getElem (by omega)] at hq1;rw [<-Option.some.inj hq1,<-List.drop_eq_getElem_cons]
   have c2:F.pal.drop (3*v0+2)=q2::F.pal.drop (3*v0+3):=by
    rw [List.getElem?_eq_getElem (by omega)] at hq2;rw [<-Option.some.inj hq2,<-List.drop_eq_getElem_cons]
   rw [c0,c1,c2];rfl
  rw [htk] at hb18;have hb18:Blk w18 w1.heap.size qa4 (qbc [q0,q1,q2,255]):=hb18;have hB18:=b1o hBdd hc18 (by omega);have h18:=h13dd.chg hc18 (by omega);rw [hq0,hq1,hq2] at hval;have hBd18:=bT hB18 (bdw w18);have hf18:=h.ext hBd18;refine six (w':=w3) (i:=0) (by omega) (lI (scell hBd18 hv0) ?_);refine lSl (x:=t) (hf18.blk.cells 6 _ rfl) ?_;rw [hf18.tr.n];refine cO (fun ht=>?_) fun ht=>?_
  ·have ht:=oTq ht;rw [if_pos (by omega)] at hval;have hBdd18:=bT hBd18 (bdw _);have hff:=h.ext hBdd18;refine lSl (x:=t) (hff.blk.cells 6 _ rfl) ?_;refine six (w':=w3) (i:=0) (by omega) (lI (scell hBdd18 hv0) ?_);obtain ⟨y,hy,_⟩:=qcw (xs:=F.tr) (k:=v0) (by omega);refine hff.tr.ix (i:=(v0:Int)) rfl (by omega) (by omega) fun _=>?_;refine lI (x:=(y.toNat:Int)) (by rw [toNat_natCast];exact qdo hff.tr hy) ⟨⟨by decide,by decide⟩,?_⟩;rw [qas];refine qaj ((hb18.ext (bdw _)).ext (bdw _)) (by simp [qbc]) fun w19 hb19 hg19 hs19=>?_;have hb19:Blk w19 w1.heap.size qa4 (qbc [q0,q1,q2,y]):=hb19;have hc19:Chg (fun k=>k=w1.heap.size) w18.drew.drew w19:=Chg.gg hg19;rw [hy] at hval;exact told q0 q1 q2 y w19 hb19 (((h18.ext (bdw _)).ext (bdw _)).chg hc19 (by omega)) (b1o hBdd18 hc19 (by omega)) hval
  ·have ht:=oFq ht;rw [if_neg (by omega)] at hval;exact told q0 q1 q2 255 w18.drew (hb18.ext (bdw _)) (h18.ext (bdw _)) hBd18 hval
 have e3:F.h.Color≠3:=by simpa using e3
 have hcells:∀{w':World},Below w.heap.size w w'->qaw w' ⟨g,0,none⟩ (qag.rep.cells F.h):=fun hB=>(h.ext hB).head;refine jpO fun J6 hJ6=>?_;have key:∀bb:Bool,(bb=true↔F.h.Color=0\/F.h.Color=4)->J6 (bb,()) w3:=by
  intro bb hbb;refine hJ6 _ _ (cO (fun e=>?_) fun e=>?_)
  ·refine qal (r:=qag.rep) (x:=F.h) (by rw [add_zero];exact hcells hBd) ?_;refine six (w':=w3) (i:=0) (by omega) (lI (scell hBd hv0) ?_);refine qnx hc hv0l fun w23 hB23=>?_;refine qbx (h3d.ext hB23) rfl fun w24 h24 hc24 hs24=>?_;have h24:Blk w24 w1.heap.size qa4 (qbc [qg2 F.h.Depth v0,qg2 F.h.Depth v0,qg2 F.h.Depth v0,255]):=h24;refine base _ _ _ w24 e3 h24 ((h13d.ext hB23).chg hc24 (by omega)) (b1o (bT hBd hB23) hc24 (by omega)) fun al hal=>?_;unfold qic;dsimp only;rw [if_neg e3,if_pos (hbb.1 e),hal,hv0];rfl
  ·have hn:¬(F.h.Color=0\/F.h.Color=4):=fun h=>by rw [hbb.2 h] at e;cases e
   have h3l:3<=ss.length:=by
    rw [hsl];rcases hc.c with e | e | e | e | e
    ·exact absurd (.inl e) hn
    ·rw [e];decide
    ·exact absurd e e3
    ·exact absurd (.inr e) hn
    ·rw [e];decide
   obtain ⟨v1,hv1,hv1l⟩:=hss 1 (by omega);obtain ⟨v2,hv2,hv2l⟩:=hss 2 (by omega);refine qal (r:=qag.rep) (x:=F.h) (by rw [add_zero];exact hcells hBd) ?_;refine six (w':=w3) (i:=0) (by omega) (lI (scell hBd hv0) ?_);refine qal (r:=qag.rep) (x:=F.h) (by rw [add_zero];exact hcells hBd) ?_;refine six (w':=w3) (i:=1) (by omega) (lI (scell hBd hv1) ?_);refine qal (r:=qag.rep) (x:=F.h) (by rw [add_zero];exact hcells hBd) ?_;refine six (w':=w3) (i:=2) (by omega) (lI (scell hBd hv2) ?_);refine qnx hc hv0l fun w25 hB25=>?_;have hB25':=bT hBd hB25;refine ⟨scell hB25' hv2,by rw [add_zero];exact hcells hB25',scell hB25' hv1,by rw [add_zero];exact hcells hB25',?_⟩;refine qnx hc hv1l fun w26 hB26=>?_;have hB26':=bT hB25' hB26;refine ⟨scell hB26' hv2,by rw [add_zero];exact hcells hB26',?_⟩;refine qnx hc hv2l fun w27 hB27=>?_;refine qbx (((h3d.ext hB25).ext hB26).ext hB27) rfl fun w28 h28 hc28 hs28=>?_;have h28:Blk w28 w1.heap.size qa4 (qbc [qg2 F.h.Depth v0,qg2 F.h.Depth v1,qg2 F.h.Depth v2,255]):=h28;refine base _ _ _ w28 e3 h28 ((((h13d.ext hB25).ext hB26).ext hB27).chg hc28 (by omega)) (b1o (bT hB26' hB27) hc28 (by omega)) fun al hal=>?_;unfold qic;dsimp only;rw [if_neg e3,if_neg hn,hal,hv0,hv1,hv2];rfl
 refine cO (fun e=>key _ ?_) fun e=>key _ ?_
 ·have:=eq_of_beq e;simp [this]
 ·have e:F.h.Color≠0:=by simpa using e
  simp [e]
end
end Go.Proofs.YtedcpbkcamckoaaGreatDoor
namespace Go.Proofs.YtedcpbkcamckoaaGreatDoor
open Go.Vc
set_option maxRecDepth 400000
theorem qrb {α β:Type} (f:α->List β):∀(ps:List α) (L R:List β) (r:β),ps.flatMap f=L++r::R->∃(ps1:List α) (p:α) (ps2:List α) (A B:List β),ps=ps1++p::ps2/\f p=A++r::B/\L=ps1.flatMap f++A
 | [],L,R,r,h=>by simp at h
 | p::ps,L,R,r,h=>by
  rw [List.flatMap_cons] at h;rcases List.append_eq_append_iff.1 h with ⟨a',e1,e2⟩ | ⟨c',e1,e2⟩
  ·obtain ⟨ps1,q,ps2,A,B,h1,h2,h3⟩:=qrb f ps a' R r e2;exact ⟨p::ps1,q,ps2,A,B,by rw [h1];rfl,h2,by rw [e1,h3,List.flatMap_cons,List.append_assoc]⟩
  ·cases c' with
   | nil =>
    obtain ⟨ps1,q,ps2,A,B,h1,h2,h3⟩:=qrb f ps [] R r (by simpa using e2.symm);refine ⟨p::ps1,q,ps2,A,B,by rw [h1];rfl,h2,?_⟩;rw [List.append_nil] at e1;rw [<-e1,List.flatMap_cons,List.append_assoc,<-h3,List.append_nil]
   | cons x c' =>
    injection e2 with e2 e3
    subst e2;exact ⟨[],p,ps,L,c',rfl,e1,rfl⟩
structure RowAt (h:qag) (W H:Nat) (L:List (PassP×Nat×Nat)) (r:PassP×Nat×Nat):Prop where
 mem:r.1∈qfn h.Lace
 w:r.2.2=(sizeP r.1 W H).1
 y:r.2.1<(sizeP r.1 W H).2
 last:r.2.1=0\/∃L',L=L'++[(r.1,r.2.1-1,r.2.2)]
theorem q2j {h:qag} {W H:Nat} (ho:HeadOk h W H) {L R:List (PassP×Nat×Nat)} {r:PassP×Nat×Nat} (hL:rowsL h=L++r::R):RowAt h W H L r:=by
 unfold rowsL at hL;rw [ho.wn,ho.hn] at hL;obtain ⟨ps1,p,ps2,A,B,h1,h2,h3⟩:=qrb _ _ _ _ _ hL;have hAl:A.length<(sizeP p W H).2:=by
  rw [<-qh6 W H p,h2,List.length_append,List.length_cons];omega
 have hr:r=(p,A.length,(sizeP p W H).1):=by
  have e:=qz8 W H p hAl;rw [h2] at e;have hl1:A.length=((A++r::B).take A.length).length:=by simp
  have:=(List.append_inj e hl1).2;injection this
 refine ⟨by rw [hr,h1];simp,by rw [hr],by rw [hr];exact hAl,?_⟩;rw [hr];by_cases h0:A.length=0
 ·exact .inl h0
 ·right;have hA:A=(qcb W H p).take A.length:=by rw [h2];simp
  have e:=qss W H p (y:=A.length-1) (by omega);rw [show A.length-1+1=A.length by omega,<-hA] at e;refine ⟨ps1.flatMap (qcb W H)++(qcb W H p).take (A.length-1),?_⟩;rw [h3]
  conv=>lhs;rw [e]
  rw [List.append_assoc]
theorem qkf (F:FilL):∀(a b:List (PassP×Nat×Nat)) (s:PxS),qci F (a++b) s=match qci F a s with | none=>none | some s'=>qci F b s'
 | [],b,s=>rfl
 | r::a,b,s=>by
  rw [List.cons_append,qci,qci];cases qfo F r s with
  | none=>rfl
  | some s'=>exact qkf F a b s'
theorem q9e {F:FilL} {a:List (PassP×Nat×Nat)} {s s' s2:PxS} {r:PassP×Nat×Nat} (h:qci F a s=some s') (h2:qfo F r s'=some s2):qci F (a++[r]) s=some s2:=by
 rw [qkf,h];simp only [qci,h2]
theorem zae {F:FilL} {a b:List (PassP×Nat×Nat)} {s s':PxS} {r:PassP×Nat×Nat} (h:qci F a s=some s') (h2:qfo F r s'=none):qci F (a++r::b) s=none:=by
 rw [qkf,h];simp only [qci,h2]
theorem zad {F:FilL} {p:PassP} {y:Nat} {ss:List Nat} {m:List UInt8} {i n:Nat} (h:qoa F p y ss i m=none) (hin:i<=n):qoa F p y ss n m=none:=by
 induction n with
 | zero =>
      have:i=0:=by omega
      subst this;exact h
 | succ n ih =>
  by_cases e:i=n+1
  ·subst e;exact h
  ·rw [qoa,ih (by omega)]
theorem q64 {F:FilL} {r:PassP×Nat×Nat} {s s':PxS} (h:qfo F r s=some s'):s'.b=s.b.drop (1+rowB F.h r.2.2)/\s'.ahead.length=min (rowB F.h r.2.2) (s.b.length-1):=by
 unfold qfo at h;split at h
 ·cases h
 ·rename_i k b hb;split at h
  ·cases h
  ·obtain ⟨m,hm,e⟩:=Option.map_eq_some_iff.1 h;subst e;rw [hb];refine ⟨?_,?_⟩
   ·rw [Nat.add_comm,List.drop_succ_cons]
   ·rw [qn0,List.length_take,List.length_cons];simp
theorem qur {F:FilL}:∀(L:List (PassP×Nat×Nat)) (s s':PxS),qci F L s=some s'->s'.b=s.b.drop (needL F.h L)
 | [],s,s',h=>by cases h;simp [needL]
 | r::L,s,s',h=>by
  rw [qci] at h;cases h1:qfo F r s with
  | none=>rw [h1] at h;cases h
  | some s1 =>
   rw [h1] at h;have:=qur L s1 s' h;rw [this,(q64 h1).1,List.drop_drop];rfl
theorem qnw (h:qag) (a b:List (PassP×Nat×Nat)):needL h (a++b)=needL h a+needL h b:=by simp [needL]
theorem zeg {F:FilL} {W H:Nat} (ho:HeadOk F.h W H) {L R:List (PassP×Nat×Nat)} {r:PassP×Nat×Nat} (hL:rowsL F.h=L++r::R) {s0 s:PxS} (hs:qci F L s0=some s) (hn:needP F.h<=s0.b.length) :
  qik r.2.1 s.ahead=[]\/(qik r.2.1 s.ahead).length=rowB F.h r.2.2:=by
 unfold qik;by_cases h0:r.2.1=0
 ·rw [if_pos h0];exact .inl rfl
 rw [if_neg h0];right;rcases (q2j ho hL).last with h | ⟨L',hL'⟩
 ·exact absurd h h0
 subst hL';rw [qkf] at hs;cases h1:qci F L' s0 with
 | none=>rw [h1] at hs;cases hs
 | some s1 =>
  rw [h1] at hs;simp only [qci] at hs;cases h2:qfo F (r.1,r.2.1-1,r.2.2) s1 with
  | none=>rw [h2] at hs;cases hs
  | some s2 =>
   rw [h2] at hs;cases hs;have e:s.ahead.length=min (rowB F.h r.2.2) (s1.b.length-1):=(q64 h2).2;have hb:=qur L' s0 s1 h1;have hneed:needP F.h=needL F.h L'+(1+rowB F.h r.2.2)+needL F.h (r::R):=by
    show needL F.h (rowsL F.h)=_;rw [hL,qnw,qnw];simp [needL]
   rw [e,hb,List.length_drop];omega
theorem zeq {F:FilL} {L R:List (PassP×Nat×Nat)} {r:PassP×Nat×Nat} (hL:rowsL F.h=L++r::R) {s0 s:PxS} (hs:qci F L s0=some s) (hn:needP F.h<=s0.b.length):1+rowB F.h r.2.2<=s.b.length:=by
 have hb:=qur L s0 s hs;have hneed:needP F.h=needL F.h L+(1+rowB F.h r.2.2)+needL F.h R:=by
  show needL F.h (rowsL F.h)=_;rw [hL,qnw];simp [needL];omega
 rw [hb,List.length_drop];omega
theorem q9y {W H:Nat} {p:PassP} {y x:Nat} (hx:x<(sizeP p W H).1) (hy:y<(sizeP p W H).2):pixAt W p y x+4<=4*W*H/\p.x+x*p.dx<W/\p.y+y*p.dy<H:=by
 unfold sizeP at hx hy;split at hx
 ·exact absurd hx (by simp)
 ·rename_i hn;rw [if_neg hn] at hy;dsimp only at hx hy;have h1:x*p.dx<=W-p.x-1:=by
   have:x<=(W-p.x-1)/p.dx:=by omega
   exact Nat.le_trans (Nat.mul_le_mul_right _ this) (Nat.div_mul_le_self _ _)
  have h2:y*p.dy<=H-p.y-1:=by
   have:y<=(H-p.y-1)/p.dy:=by omega
   exact Nat.le_trans (Nat.mul_le_mul_right _ this) (Nat.div_mul_le_self _ _)
  have hX:p.x+x*p.dx<W:=by omega
  have hY:p.y+y*p.dy<H:=by omega
  refine ⟨?_,hX,hY⟩;unfold pixAt;have h3:(p.y+y*p.dy+1)*W<=H*W:=Nat.mul_le_mul_right _ hY;rw [Nat.add_mul,Nat.one_mul] at h3;have h4:4*W*H=4*(H*W):=by rw [Nat.mul_assoc,Nat.mul_comm W H]
  rw [h4];generalize (p.y+y*p.dy)*W=Q at h3 ⊢;generalize H*W=T at h3 ⊢;generalize x*p.dx=V at hX ⊢;omega
theorem zdp (row:List UInt8) (d i:Nat):qph row d i<2^d:=by
 unfold qph;split
 ·rename_i h;subst h;have h1:=(row[2*i]?.getD 0).toNat_lt;have h2:=(row[2*i+1]?.getD 0).toNat_lt;omega
 ·exact Nat.mod_lt _ (Nat.pow_pos (by decide))
theorem zar {row:List UInt8} {d n:Nat}:∀v∈qfu row d n,v<2^d:=by
 intro v hv;unfold qfu at hv;obtain ⟨i,_,rfl⟩:=List.mem_map.1 hv;exact zdp _ _ _
theorem q34 (row:List UInt8) (d n:Nat):(qfu row d n).length=n:=by simp [qfu]
theorem qlz {h:qag} (hc:ColOk h):1<=qak h.Color/\qak h.Color<=4:=by
 unfold qak;rcases hc.c with e | e | e | e | e<;>rw [e]<;>decide
theorem ze6 {h:qag} (hc:ColOk h) {w:Nat} (h1:1<=w) (h2:w<=16384):qak h.Color*w*h.Depth.toNat<=8*rowB h w:=by
 have hs:=qlz hc;have hd:qdj h.Depth=true:=by
  unfold qdj;rcases hc.d with e | e | e | e | e<;>rw [e]<;>rfl
 have hdn:h.Depth=(h.Depth.toNat:Int):=by have:=hc.d;omega
 unfold rowB rowP;rw [if_neg (by rw [hd];simp;omega)];have e:(w:Int)*(qak h.Color:Int)*h.Depth=((qak h.Color*w*h.Depth.toNat:Nat):Int):=by
  rw [hdn];simp only [Int.toNat_natCast,Int.natCast_mul];rw [Int.mul_comm (w:Int)]
 rw [e];omega
theorem zij {h:qag} (hc:ColOk h):1<=qj1 h/\qj1 h<=8:=by
 have hs:=qlz hc;have hd:1<=h.Depth.toNat/\h.Depth.toNat<=16:=by have:=hc.d;omega
 unfold qj1;have h1:1*1<=qak h.Color*h.Depth.toNat:=Nat.mul_le_mul hs.1 hd.1;have h2:qak h.Color*h.Depth.toNat<=4*16:=Nat.mul_le_mul hs.2 hd.2;omega
theorem zgh {p:PassP} {W H y:Nat} (hy:y<(sizeP p W H).2):1<=(sizeP p W H).1:=by
 unfold sizeP at hy ⊢;split
 ·rename_i h;rw [if_pos h] at hy;exact absurd hy (by simp)
 ·exact Nat.le_add_left 1 _
end Go.Proofs.YtedcpbkcamckoaaGreatDoor
namespace Go.Proofs.YtedcpbkcamckoaaGreatDoor
open Go.Vc Go.RowKit
set_option maxRecDepth 400000
open Builtin (copy_)
open IntKind (i64)
open _root_.Nat (mul_one)
structure PxI (w0:World) (g:Nat) (F:FilL) (W H:Nat) (bn bf ba bb bs bm gm:Nat) (tm:Slc) (S:PxS) (w1:World):Prop where
 n:Blk w1 bn qa9 [.int .i64 ((qak F.h.Color:Nat):Int)]
 f:Blk w1 bf qrd [.pointer (some ⟨g,0,none⟩)]
 st:Blk w1 bs qa9 [.int .i64 ((qj1 F.h:Nat):Int)]
 m:Blk w1 bm qaq (qac.rep.cells ⟨W,H,tm⟩)
 ah:∃sa:Slc,Blk w1 ba qab [.slice sa.a sa.n sa.c]/\Go.Vc.Own qae w1 w0.heap.size sa S.ahead/\(∀k,sa.blk=some k->k≠gm)
 b:∃sb:Slc,Blk w1 bb qab [.slice sb.a sb.n sb.c]/\Rd qae w0 sb S.b
 row:Go.Vc.Own qae w1 w0.heap.size tm S.m
 B:Below w0.heap.size w0 w1
structure PxC (w0:World) (bn bf ba bb bs bm gm:Nat) (tm:Slc):Prop where
 ab:ba≠bb
 ns:bn≠bs
 al:w0.heap.size<=ba
 bl:w0.heap.size<=bb
 gl:w0.heap.size<=gm
 tm:tm.a=some ⟨gm,0,none⟩
section
variable {w0:World} {g b:Nat} {F:FilL} {p t d:Slc} {W H bn bf ba bb bs bm gm:Nat} {tm:Slc} {S:PxS}
theorem PxI.ext {w1 w2:World} (h:PxI w0 g F W H bn bf ba bb bs bm gm tm S w1) (hB:Below w1.heap.size w1 w2):PxI w0 g F W H bn bf ba bb bs bm gm tm S w2:=by
 obtain ⟨h1,h2,h3,h4,⟨sa,h5,h6,h7⟩,⟨sb,h8,h9⟩,h10,h11⟩:=h;exact ⟨h1.ext hB,h2.ext hB,h3.ext hB,h4.ext hB,⟨sa,h5.ext hB,h6.ext hB,h7⟩,⟨sb,h8.ext hB,h9⟩,h10.ext hB,bT h11 hB⟩
theorem qbe {w:World} {bx t:Nat} {v:Value} (h:Blk w bx t [v]):w.cell? ⟨bx,0,none⟩=some v:=h.cell 0 rfl
theorem q9l (hF:FilA w0 g b F p t d) (ho:FilOk F) (hh:HeadOk F.h W H) (hpl:F.pal.length<=1000000) (htl:F.tr.length<=1000000) (hc:PxC w0 bn bf ba bb bs bm gm tm) {x0:PxS} {L R:List (PassP×Nat×Nat)} {r:PassP×Nat×Nat} (hL:rowsL F.h=L++r::R) (hx0:needP F.h<=x0.b.length) (hx0l:x0.b.length<=1000000000) (hS:qci F L x0=some S)
  (hml:S.m.length=4*W*H) {w1:World} (hI:PxI w0 g F W H bn bf ba bb bs bm gm tm S w1) {J:Bool->World->Prop}
  (hJ1:∀S' w2,qfo F r S=some S'->S'.m.length=4*W*H->PxI w0 g F W H bn bf ba bb bs bm gm tm S' w2->Chg (fun k=>k=ba\/k=bb\/k=gm) w1 w2->J true w2) (hJ0:∀w2,qfo F r S=none->Chg (fun k=>k=ba\/k=bb\/k=gm) w1 w2->J false w2) :
  qix (passT r.1) (r.2.1:Int) (r.2.2:Int) ⟨bn,0,none⟩ ⟨bf,0,none⟩ ⟨ba,0,none⟩ ⟨bb,0,none⟩ ⟨bs,0,none⟩ ⟨bm,0,none⟩ w1 J:=by
 obtain ⟨_,hco⟩:=qpu ho.hd;have hra:=q2j hh hL;have hroom:=zeq hL hS hx0;have hal:=zeg hh hL hS hx0;have hSb:=qur L x0 S hS;have hSbl:S.b.length<=1000000000:=by rw [hSb,List.length_drop];omega
 have hw1:1<=r.2.2:=by rw [hra.w];exact zgh hra.y
 have hw2:r.2.2<=16384:=by rw [hra.w];have:=(qtn r.1 W H).1;have:=hh.w2;omega
 have hdx:=q7i F.h.Lace r.1 hra.mem;have hW2:=hh.w2;have hH2:=hh.h2;have hyH:r.2.1<16384:=by have:=hra.y;have:=(qtn r.1 W H).2;omega
 have hsm:=qlz hco;have hbits:=ze6 hco hw1 hw2;have hstep:=zij hco;have hrowb:rowB F.h r.2.2<=131072:=q56 _ _ _;obtain ⟨cs,hcs⟩:∃cs,cs=qak F.h.Color:=⟨_,rfl⟩;obtain ⟨sz,hsz⟩:∃sz,sz=rowB F.h r.2.2:=⟨_,rfl⟩;have hrP:rowP (r.2.2:Int) ((qak F.h.Color:Nat):Int) F.h.Depth=sz:=hsz.symm;rw [<-hsz] at hroom hal hbits hrowb;obtain ⟨hn,hf,hst,hm,⟨sa,hba,hsa,hsag⟩,⟨sb,hbb,hsb⟩,hrow,hB01⟩:=hI;refine qu8 _ _ _ _ _ _ _ _ _ ?_;unfold qnn;refine nwb fun w2 hp2 hB2 hs2=>?_;have hBd:=bT hB2 (bdw w2);have hF2:=hF.ext (bT hB01 hBd);refine lI (x:=((qak F.h.Color:Nat):Int)) (qbe (hn.ext hBd)) (qa8 (x:=some ⟨g,0,none⟩) (qbe (hf.ext hBd)) ?_);simp only [onPtr_some];refine lI (x:=F.h.Depth) (by rw [add_zero];exact hF2.blk.cells 2 _ rfl) (q8x ?_);rw [hrP];have e1:i64.wrap ((1:Int)+(sz:Int))=((1+sz:Nat):Int):=by rw [w64i (by omega)];simp
 rw [e1];have hgF:g<w0.heap.size:=hF.blk.lt;have hs01:=hB01.size;refine jpO fun J1 hJ1'=>?_;have main:∀(sa':Slc) w3,Blk w3 ba qab [.slice sa'.a sa'.n sa'.c]->Go.Vc.Own qae w3 w0.heap.size sa' (qik r.2.1 S.ahead)->Chg (fun k=>k=ba) w1 w3->Blk w3 w1.heap.size qbt (qa2.rep.cells (passT r.1))->J1 () w3:=by
  intro sa' w3 hba3 hsa3 hc3 hp3;refine hJ1' _ _ ?_;have hn3:Blk w3 bn qa9 _:=hn.chg hc3 fun e=>by subst e;exact hn.ne_t hba (by decide) rfl
  have hf3:Blk w3 bf qrd _:=hf.chg hc3 fun e=>by subst e;exact hf.ne_t hba (by decide) rfl
  have hst3:Blk w3 bs qa9 _:=hst.chg hc3 fun e=>by subst e;exact hst.ne_t hba (by decide) rfl
  have hm3:Blk w3 bm qaq _:=hm.chg hc3 fun e=>by subst e;exact hm.ne_t hba (by decide) rfl
  have hbb3:Blk w3 bb qab _:=hbb.chg hc3 fun e=>hc.ab e.symm;have hrow3:=hrow.chg hc3 fun k hk=>qa0 hrow hba (by decide) k hk;have hB03:Below w0.heap.size w0 w3:=b1o hB01 hc3 hc.al;have hBd3:=bdw w3;have hB03d:=bT hB03 hBd3;have hbb3d:=hbb3.ext hBd3;have hsbd:=hsb.ext hB03d;obtain ⟨k0,bt,hSbe⟩:∃k0 bt,S.b=k0::bt:=by
   match hb:S.b,hroom with
   | [],h=>simp at h
   | k0::bt,_=>exact ⟨k0,bt,rfl⟩
  have hbtl:sz<=bt.length:=by rw [hSbe,List.length_cons] at hroom;omega
  have hSl:S.b.length=bt.length+1:=by rw [hSbe];rfl
  refine lSl (x:=sb) (qbe hbb3d) ?_;refine hsbd.ix (i:=0) rfl (by omega) (by omega) fun _=>?_;refine lI (x:=(k0.toNat:Int)) (qdo (i:=0) hsbd (by rw [hSbe];rfl)) ?_;refine lSl (x:=sb) (qbe hbb3d) ?_;refine hsbd.slK (l:=1) (m:=1+sz) rfl (.inr rfl) (.inr rfl) (by omega) (by omega) fun hpart=>?_;have hpe:(S.b.take (1+sz)).drop 1=bt.take sz:=by rw [hSbe,Nat.add_comm 1 sz,List.take_succ_cons];rfl
  rw [hpe] at hpart;refine lSl (x:=sa') (qbe (hba3.ext hBd3)) (lI (x:=((qj1 F.h:Nat):Int)) (qbe (hst3.ext hBd3)) ?_);rw [w8];have hsa3d:=hsa3.ext hBd3;have hstepE:qfo F r S=if k0.toNat>4 then none else (qoa F r.1 r.2.1 (qfu (undoP k0.toNat (bt.take sz) (qik r.2.1 S.ahead) (qj1 F.h)) F.h.Depth.toNat (qak F.h.Color*r.2.2)) r.2.2 S.m).map fun m=>⟨bt.drop sz,undoP k0.toNat (bt.take sz) (qik r.2.1 S.ahead) (qj1 F.h),m⟩:=by
   unfold qfo;rw [hSbe,hsz]
  have htkl:(bt.take sz).length=sz:=by rw [List.length_take];omega
  refine zfd hpart hsa3d.rd hstep.1 hstep.2 (by rw [htkl];exact hal) (by omega) (fun h4=>?_) (fun h4 rw_ w4 hrw hB4=>?_)
  ·refine cT (by decide) (hJ0 _ ?_ ?_)
   ·rw [hstepE,if_pos h4]
   ·exact (hc3.trans (Chg.of_ext (S:=fun k=>k=ba) hBd3) fun i _ hi=>hi).mono fun i _ hi=>.inl hi
  rw [if_neg (by omega)] at hstepE;refine cF rfl ?_;obtain ⟨rl,hrl⟩:∃rl,rl=undoP k0.toNat (bt.take sz) (qik r.2.1 S.ahead) (qj1 F.h):=⟨_,rfl⟩;rw [<-hrl] at hstepE hrw;have hrll:rl.length=sz:=by rw [hrl,qn0,htkl]
  have hBd4:=bT hBd3 hB4;have hbb4:=hbb3.ext hBd4;have hB04:=bT hB03 hBd4;have hsb4:=hsb.ext hB04;refine lSl (x:=sb) (qbe hbb4) ?_;refine hsb4.slK (l:=1+sz) (m:=S.b.length) rfl (.inr rfl) (.inl ⟨rfl,rfl⟩) (by omega) (by omega) fun _=>?_;have hsb':=hsb.part (l:=1+sz) (m:=S.b.length) (by omega) (by omega);rw [List.take_length] at hsb';have hde:S.b.drop (1+sz)=bt.drop sz:=by rw [hSbe,Nat.add_comm 1 sz,List.drop_succ_cons]
  rw [hde] at hsb';obtain ⟨sb2,hsb2⟩:∃sb2:Slc,sb2=⟨cut sb.a (1+sz) sb.c qae.k,S.b.length-(1+sz),sb.c-(1+sz)⟩:=⟨_,rfl⟩;rw [<-hsb2] at hsb' ⊢;refine qbx hbb4 rfl fun w5 hbb5 hc5 hs5=>?_;have hba5:=(hba3.ext hBd4).chg hc5 hc.ab;refine qbx hba5 rfl fun w6 hba6 hc6 hs6=>?_;have hbb6:=hbb5.chg hc6 fun e=>hc.ab e.symm;have hrwg:∀k,rw_.blk=some k->w3.drew.heap.size<=k:=fun k hk=>(hrw.lt k hk).1;have hsz3:w3.drew.heap.size=w3.heap.size:=rfl;have hbal:=hba3.lt;have hbbl:=hbb3.lt;have hrw6:=(hrw.chg hc5 fun k hk e=>by have:=hrwg k hk;omega).chg hc6 fun k hk e=>by have:=hrwg k hk;omega
  have hc56:Chg (fun k=>k=ba\/k=bb) w3 w6:=((Chg.of_ext (S:=fun k=>k=ba\/k=bb) hBd4).trans (hc5.mono fun i _ hi=>.inr hi) fun i _ hi=>hi).trans (hc6.mono fun i _ hi=>.inl hi) fun i _ hi=>hi;have keep:∀{k tt:Nat} {cs:List Value},tt≠qab->Blk w3 k tt cs->Blk w6 k tt cs:=fun {k tt cs} hne hb=>hb.chg hc56 fun e=>by
   rcases e with e | e
   ·subst e;exact hb.ne_t hba3 hne rfl
   ·subst e;exact hb.ne_t hbb3 hne rfl
  have hn6:=keep (by decide) hn3;have hf6:=keep (by decide) hf3;have hst6:=keep (by decide) hst3;have hm6:=keep (by decide) hm3;have hp6:=keep (by decide) hp3;have hrow6:=hrow3.chg hc56 fun k hk e=>by
   rcases e with e | e
   ·exact qa0 hrow3 hba3 (by decide) k hk e
   ·exact qa0 hrow3 hbb3 (by decide) k hk e
  have hB06:Below w0.heap.size w0 w6:=(hB03).trans (hc56.below (by have:=hB03.size;omega) fun i hi e=>by have:=hc.al;have:=hc.bl;omega);have hBd6:=bdw w6;have hB06d:=bT hB06 hBd6;have hF6:=hF.ext hB06d;refine qa8 (x:=some ⟨g,0,none⟩) (qbe (hf6.ext hBd6)) ?_;simp only [onPtr_some];refine lI (x:=F.h.Depth) (by rw [add_zero];exact hF6.blk.cells 2 _ rfl) (lI (x:=((qak F.h.Color:Nat):Int)) (qbe (hn6.ext hBd6)) ?_);have hnw:qak F.h.Color*r.2.2<=4*16384:=Nat.mul_le_mul hsm.2 hw2;have e2:i64.wrap (((qak F.h.Color:Nat):Int)*(r.2.2:Int))=((qak F.h.Color*r.2.2:Nat):Int):=by
   rw [show ((qak F.h.Color:Nat):Int)*(r.2.2:Int)=((qak F.h.Color*r.2.2:Nat):Int) by simp,w64i (by omega)]
  rw [e2];have hdn:F.h.Depth=((F.h.Depth.toNat:Nat):Int):=by have:=hco.d;omega
  have hrw6d:=hrw6.ext hBd6;have hsam:=q7k (w:=w6.drew) (d:=F.h.Depth.toNat) (n:=qak F.h.Color*r.2.2) hrw6d.rd (by have:=hco.d;omega) (by rw [hrll];exact hbits) (by omega)
   (K:=fun t62 t62_1 w7=>loopP (σ:=Int×Unit) (fun I2 s_1 w8 =>
     cond (decide (s_1.1<(r.2.2:Int)))
      (
      ldP (⟨bf,0,none⟩:Addr) w8.drew fun t70 =>
      ldI .i64 (⟨bn,0,none⟩:Addr) w8.drew fun t72 =>
      ldI .i64 (⟨bn,0,none⟩:Addr) w8.drew fun t75 =>
      ldI .i64 (⟨bn,0,none⟩:Addr) w8.drew fun t78 =>
      slK t62 (some (i64.wrap (t72*s_1.1))) (some (i64.wrap ((i64.wrap (t75*s_1.1))+t78))) 1 fun t80 =>
       (
        qem t70 t80 w8.drew fun t81 t81_1 w9 =>
        nw qa4 [(.int .u8 0),(.int .u8 0),(.int .u8 0),(.int .u8 0)] w9 fun c w10 =>
        World.cell? w10 (⟨bn,0,none⟩:Addr)=some (.int .i64 t78) /\
        World.cell? w10 (⟨bn,0,none⟩:Addr)=some (.int .i64 t75) /\
        World.cell? w10 (⟨bn,0,none⟩:Addr)=some (.int .i64 t72) /\
        World.cell? w10 (⟨bf,0,none⟩:Addr)=some (.pointer t70) /\
        stK c (qao.rep.cells t81) w10 fun w11 =>
        cond (!t81_1)
         (J false w11)
         (
         ldSl ((⟨bm,0,none⟩:Addr).add 2) w11.drew fun t87 =>
         ldI .i64 ((⟨w1.heap.size,0,none⟩:Addr).add 1) w11.drew fun t89 =>
         ldI .i64 ((⟨w1.heap.size,0,none⟩:Addr).add 3) w11.drew fun t92 =>
         ldP (⟨bf,0,none⟩:Addr) w11.drew fun t95 =>
         onPtr t95 fun t96 =>
         ldI .i64 ((t96.add 0).add 0) w11.drew fun t99 =>
         ldI .i64 ((⟨w1.heap.size,0,none⟩:Addr).add 0) w11.drew fun t102 =>
         ldI .i64 ((⟨w1.heap.size,0,none⟩:Addr).add 2) w11.drew fun t106 =>
         slK t87 (some (i64.wrap ((4:Int)*(i64.wrap ((i64.wrap ((i64.wrap ((i64.wrap (t89+(i64.wrap ((r.2.1:Int)*t92))))*t99))+t102))+(i64.wrap (s_1.1*t106))))))) none 1 fun t110 =>
         slA c 4 none none 1 fun t111 =>
         runK1 PG (copy_ #[qab,qab] qa9 #[(.slice t110.a t110.n t110.c),(.slice t111.a t111.n t111.c)]) (Kind.int .i64) w11.drew fun (t112:Int) w12 =>
         I2 ((i64.wrap (s_1.1+(1:Int))),()) w12)) /\
      nw qa4 [(.int .u8 0),(.int .u8 0),(.int .u8 0),(.int .u8 0)] w8.drew fun c_1 w13 =>
      World.cell? w13 (⟨bn,0,none⟩:Addr)=some (.int .i64 t78) /\
      World.cell? w13 (⟨bn,0,none⟩:Addr)=some (.int .i64 t75) /\
      World.cell? w13 (⟨bn,0,none⟩:Addr)=some (.int .i64 t72) /\
      World.cell? w13 (⟨bf,0,none⟩:Addr)=some (.pointer t70) /\
      qem t70 t80 w13 fun t81_2 t81_3 w14 =>
      stK c_1 (qao.rep.cells t81_2) w14 fun w15 =>
      cond (!t81_3)
       (J false w15)
       (
        ldSl ((⟨bm,0,none⟩:Addr).add 2) w15.drew fun t87_1 =>
        ldI .i64 ((⟨w1.heap.size,0,none⟩:Addr).add 1) w15.drew fun t89_1 =>
        ldI .i64 ((⟨w1.heap.size,0,none⟩:Addr).add 3) w15.drew fun t92_1 =>
        ldP (⟨bf,0,none⟩:Addr) w15.drew fun t95_1 =>
        onPtr t95_1 fun t96_1 =>
        ldI .i64 ((t96_1.add 0).add 0) w15.drew fun t99_1 =>
        ldI .i64 ((⟨w1.heap.size,0,none⟩:Addr).add 0) w15.drew fun t102_1 =>
        ldI .i64 ((⟨w1.heap.size,0,none⟩:Addr).add 2) w15.drew fun t106_1 =>
        slK t87_1 (some (i64.wrap ((4:Int)*(i64.wrap ((i64.wrap ((i64.wrap ((i64.wrap (t89_1+(i64.wrap ((r.2.1:Int)*t92_1))))*t99_1))+t102_1))+(i64.wrap (s_1.1*t106_1))))))) none 1 fun t110_1 =>
        slA c_1 4 none none 1 fun t111_1 =>
        runK1 PG (copy_ #[qab,qab] qa9 #[(.slice t110_1.a t110_1.n t110_1.c),(.slice t111_1.a t111_1.n t111_1.c)]) (Kind.int .i64) w15.drew fun (t112_1:Int) w16 =>
        I2 ((i64.wrap (s_1.1+(1:Int))),()) w16))
      (J true w8)) (0,()) w7)
  rw [<-hdn] at hsam;refine hsam fun sp w7 hsp hB7=>?_;clear hsam;obtain ⟨ss,hss⟩:∃ss,ss=qfu rl F.h.Depth.toNat (qak F.h.Color*r.2.2):=⟨_,rfl⟩;rw [<-hss] at hsp hstepE;have hssl:ss.length=qak F.h.Color*r.2.2:=by rw [hss,q34]
  have hssv:∀v∈ss,v<2^F.h.Depth.toNat:=by rw [hss];exact zar
  have hB67:=bT hBd6 hB7;have hs67:=hB67.size;have hrow7:=hrow6.ext hB67;have hWn:=hh.wn;have hrooms:∀x,x<r.2.2->pixAt W r.1 r.2.1 x+4<=4*W*H:=fun x hx=>(q9y (by rw [hra.w] at hx;exact hx) hra.y).1;have hWH:4*W*H<=4*16384*16384:=Nat.mul_le_mul (Nat.mul_le_mul_left 4 hW2) hH2;refine lpR (fun (st:Int×Unit) w8=>∃(x:Nat) (m:List UInt8),st.1=x/\x<=r.2.2/\qoa F r.1 r.2.1 ss x S.m=some m/\m.length=4*W*H/\Go.Vc.Own qae w8 w0.heap.size tm m/\Chg (fun k=>k=gm) w7 w8) (fun st=>r.2.2-st.1.toNat)
   ⟨0,S.m,rfl,by omega,rfl,hml,hrow7,Chg.refl _ _⟩ ?_
  rintro ⟨x,u⟩ w8 ⟨x,m,rfl,hx,hput,hmlen,hrow8,hc8⟩ I hIl;dsimp only;have hgm6:gm<w6.heap.size:=(hrow6.lt gm (by unfold Slc.blk;rw [hc.tm];rfl)).2;have keep8:∀{k tt:Nat} {cs:List Value},tt≠qan->Blk w6 k tt cs->Blk w8 k tt cs:=fun {k tt cs} hne hb=>(hb.ext hB67).chg hc8 fun e=>by
   subst e;obtain ⟨cs',hcs'⟩:=hrow7.blk_t (g:=k) (by unfold Slc.blk;rw [hc.tm];rfl);exact (hb.ext hB67).ne_t hcs' hne rfl
  have hn8:=keep8 (by decide) hn6;have hf8:=keep8 (by decide) hf6;have hm8:=keep8 (by decide) hm6;have hp8:=keep8 (by decide) hp6;have hB08:Below w0.heap.size w0 w8:=b1o (bT hB06 hB67) hc8 hc.gl;have hC38:Chg (fun k=>k=ba\/k=bb\/k=gm) w1 w8:=by
   refine (((hc3.mono fun i _ hi=>(.inl hi:i=ba\/i=bb\/i=gm)).trans (hc56.mono fun i _ hi=>(by rcases hi with h | h;exact .inl h;exact .inr (.inl h):i=ba\/i=bb\/i=gm)) fun i _ hi=>hi).trans (Chg.of_ext (S:=fun k=>k=ba\/k=bb\/k=gm) hB67) fun i _ hi=>hi).trans (hc8.mono fun i _ hi=>.inr (.inr hi)) fun i _ hi=>hi
  refine cO (fun hlt=>?_) fun hge=>?_
  ·have hlt:=oTq hlt;have hxl:x<r.2.2:=by omega
   have hBd8:=bdw w8;have hcx:qak F.h.Color*x+qak F.h.Color<=qak F.h.Color*r.2.2:=by
    have:=Nat.mul_le_mul_left (qak F.h.Color) (show x+1<=r.2.2 from hxl);rw [Nat.mul_add,mul_one] at this;exact this
   have ex:i64.wrap (((qak F.h.Color:Nat):Int)*(x:Int))=((qak F.h.Color*x:Nat):Int):=by
    rw [show ((qak F.h.Color:Nat):Int)*(x:Int)=((qak F.h.Color*x:Nat):Int) by simp,w64i (by omega)]
   have ex2:i64.wrap (((qak F.h.Color*x:Nat):Int)+((qak F.h.Color:Nat):Int))=((qak F.h.Color*x+qak F.h.Color:Nat):Int):=by
    rw [w64i (by omega)];simp
   refine qa8 (x:=some ⟨g,0,none⟩) (qbe (hf8.ext hBd8)) (lI (x:=((qak F.h.Color:Nat):Int)) (qbe (hn8.ext hBd8)) (lI (x:=((qak F.h.Color:Nat):Int)) (qbe (hn8.ext hBd8)) (lI (x:=((qak F.h.Color:Nat):Int)) (qbe (hn8.ext hBd8)) ?_)));rw [ex,ex2];have hsp8:Go.Vc.Own E_int w8 w6.drew.heap.size sp (intsN ss):=hsp.chg hc8 fun k hk e=>by have:=(hsp.lt k hk).1;have h6:w6.drew.heap.size=w6.heap.size:=rfl;omega
   refine hsp8.rd.slK (l:=qak F.h.Color*x) (m:=qak F.h.Color*x+qak F.h.Color) rfl (.inr rfl) (.inr rfl) (by omega) (by rw [qpm,hssl];exact hcx) fun hpt=>?_;obtain ⟨s4,hs4⟩:∃s4,s4=(ss.drop (qak F.h.Color*x)).take (qak F.h.Color):=⟨_,rfl⟩;have hpe4:((intsN ss).take (qak F.h.Color*x+qak F.h.Color)).drop (qak F.h.Color*x)=intsN s4:=by
    rw [hs4,List.drop_take,Nat.add_sub_cancel_left];unfold intsN;rw [List.map_take,List.map_drop]
   rw [hpe4] at hpt;have hs4l:s4.length=qak F.h.Color:=by rw [hs4,List.length_take,List.length_drop,hssl];omega
   have hs4v:∀v∈s4,v<2^F.h.Depth.toNat:=fun v hv=>hssv v (by rw [hs4] at hv;exact List.mem_of_mem_drop (List.mem_of_mem_take hv));have hputn:qoa F r.1 r.2.1 ss (x+1) S.m=(qic F s4).map (set4 m (pixAt W r.1 r.2.1 x)):=by
    rw [qoa,hput,hs4,hWn]
   have hbadp:qic F s4=none->qfo F r S=none:=fun hcn=>by
    rw [hcn] at hputn;rw [hstepE,zad hputn (show x+1<=r.2.2 from hxl)];rfl
   have hF8:∀{w'},Below w8.heap.size w8 w'->FilA w' g b F p t d:=fun hB=>hF.ext (bT hB08 hB);have fin:∀(a b' c' d':UInt8) (bc:Nat) w11,qic F s4=some [a,b',c',d']->Blk w11 bc qa4 (qbc [a,b',c',d'])->Below w8.heap.size w8 w11 ->
     (ldSl ((
         ⟨bm,0,none⟩:Addr).add 2) w11.drew fun t87 =>
         ldI .i64 ((⟨w1.heap.size,0,none⟩:Addr).add 1) w11.drew fun t89 =>
         ldI .i64 ((⟨w1.heap.size,0,none⟩:Addr).add 3) w11.drew fun t92 =>
         ldP (⟨bf,0,none⟩:Addr) w11.drew fun t95 =>
         onPtr t95 fun t96 =>
         ldI .i64 ((t96.add 0).add 0) w11.drew fun t99 =>
         ldI .i64 ((⟨w1.heap.size,0,none⟩:Addr).add 0) w11.drew fun t102 =>
         ldI .i64 ((⟨w1.heap.size,0,none⟩:Addr).add 2) w11.drew fun t106 =>
         slK t87 (some (i64.wrap ((4:Int)*(i64.wrap ((i64.wrap ((i64.wrap ((i64.wrap (t89+(i64.wrap ((r.2.1:Int)*t92))))*t99))+t102))+(i64.wrap ((x:Int)*t106))))))) none 1 fun t110 =>
         slA (⟨bc,0,none⟩:Addr) 4 none none 1 fun t111 =>
         runK1 PG (copy_ #[qab,qab] qa9 #[(.slice t110.a t110.n t110.c),(.slice t111.a t111.n t111.c)]) (Kind.int .i64) w11.drew fun (t112:Int) w12 =>
         I ((i64.wrap ((x:Int)+(1:Int))),()) w12):=by
    intro a b' c' d' bc w11 hcol hbc hB11;have hB11d:=bT hB11 (bdw w11);have hm11:=hm8.ext hB11d;have hp11:=hp8.ext hB11d;have hF11:=hF8 hB11d;have hrow11:=hrow8.ext hB11d;refine lSl (x:=tm) (hm11.cells 2 _ rfl) ?_;refine lI (x:=(r.1.y:Int)) (hp11.cells 1 _ rfl) (lI (x:=(r.1.dy:Int)) (hp11.cells 3 _ rfl) ?_);refine qa8 (x:=some ⟨g,0,none⟩) (qbe (hf8.ext hB11d)) ?_;simp only [onPtr_some];refine lI (x:=(W:Int)) (by rw [add_zero,<-hh.w];exact hF11.blk.cells 0 _ rfl) ?_;refine lI (x:=(r.1.x:Int)) (hp11.cells 0 _ rfl) (lI (x:=(r.1.dx:Int)) (hp11.cells 2 _ rfl) ?_);have hroom:=hrooms x hxl;obtain ⟨hr1,hr2,hr3⟩:=q9y (W:=W) (H:=H) (p:=r.1) (y:=r.2.1) (x:=x) (by rw [<-hra.w];exact hxl) hra.y;have eidx:i64.wrap ((4:Int)*(i64.wrap ((i64.wrap ((i64.wrap ((i64.wrap ((r.1.y:Int)+(i64.wrap ((r.2.1:Int)*(r.1.dy:Int)))))*(W:Int)))+(r.1.x:Int)))+(i64.wrap ((x:Int)*(r.1.dx:Int))))))=((pixAt W r.1 r.2.1 x:Nat):Int):=by
     unfold pixAt at hr1 ⊢;have h1:r.2.1*r.1.dy<=16384:=by omega
     have h2:x*r.1.dx<=16384:=by omega
     rw [show (r.2.1:Int)*(r.1.dy:Int)=((r.2.1*r.1.dy:Nat):Int) by simp,w64i (x:=((r.2.1*r.1.dy:Nat):Int)) (by omega),show (x:Int)*(r.1.dx:Int)=((x*r.1.dx:Nat):Int) by simp,w64i (x:=((x*r.1.dx:Nat):Int)) (by omega),
      show (r.1.y:Int)+((r.2.1*r.1.dy:Nat):Int)=((r.1.y+r.2.1*r.1.dy:Nat):Int) by simp,w64i (x:=((r.1.y+r.2.1*r.1.dy:Nat):Int)) (by omega),show ((r.1.y+r.2.1*r.1.dy:Nat):Int)*(W:Int)=(((r.1.y+r.2.1*r.1.dy)*W:Nat):Int) by simp]
     generalize (r.1.y+r.2.1*r.1.dy)*W=q at hr1 ⊢;generalize x*r.1.dx=v at hr1 h2 ⊢;generalize 4*W*H=T at hr1 hWH;rw [w64i (x:=((q:Nat):Int)) (by omega),w64i (x:=((q:Nat):Int)+(r.1.x:Int)) (by omega),w64i (x:=((q:Nat):Int)+(r.1.x:Int)+((v:Nat):Int)) (by omega),w64i (by omega)];omega
    rw [eidx];obtain ⟨k,hk⟩:∃k,k=pixAt W r.1 r.2.1 x:=⟨_,rfl⟩;rw [<-hk] at hroom ⊢;obtain ⟨cur,hcur,hcl,hct,hc1,hc2,hc3',hc4⟩:=q5l (c:=0) hrow11 hc.tm;refine hrow11.rd.slK (l:=k) (m:=m.length) rfl (.inr rfl) (.inl ⟨rfl,rfl⟩) (by omega) (by omega) fun _=>?_;have hcut:cut tm.a k tm.c qae.k=some ⟨gm,k,none⟩:=by
     unfold cut;rw [if_neg (by omega),hc.tm];show some ((⟨gm,0,none⟩:Addr).add (k*1))=_;rw [qas,mul_one,Nat.zero_add]
    rw [hcut];have hrc:Rd qae w11.drew ⟨some ⟨bc,0,none⟩,4,4⟩ [a,b',c',d']:=by
     refine ⟨rfl,Nat.le_refl _,by simp [maxLen],fun _=>rfl,fun i y hy=>?_⟩;have hbc':=(hbc.ext (bdw w11)).cells i (.int .u8 (y.toNat:Int)) (by unfold qbc;rw [List.getElem?_map,hy];rfl);intro j v hj
     match j,hj with
     | 0,hj =>
      cases hj;show w11.drew.cell? (((⟨bc,0,none⟩:Addr).add (i*1)).add 0)=_;rw [add_zero,mul_one];exact hbc'
     | j+1,hj=>simp [qae] at hj
    show runK1 PG (copy_ #[qab,qab] qa9 #[(.slice (some ⟨gm,k,none⟩) (m.length-k) (tm.c-k)),(.slice (some ((⟨bc,0,none⟩:Addr).add (0*1))) 4 4)]) (Kind.int .i64) w11.drew _;rw [Nat.zero_mul,add_zero];refine copyB (x:=⟨some ⟨bc,0,none⟩,4,4⟩) (n:=4) hcur hrc (by show 4=min 4 (m.length-k);omega) (by omega) fun w12 hb12 hc12 hs12=>?_;have hrow12:=zbv (ys:=[a,b',c',d']) (k:=k) hrow11 hc.tm hcur (by show k+4<=m.length;omega) hb12;rw [w64i (by omega)];refine hIl _ _ ⟨x+1,set4 m k [a,b',c',d'],rfl,by omega,?_,?_,hrow12,?_⟩ (by simp;omega)
    ·rw [hputn,hcol,<-hk];rfl
    ·unfold set4;simp only [List.length_append,List.length_take,List.length_drop,List.length_cons,List.length_nil];omega
    ·exact (hc8.trans (Chg.of_ext (S:=fun k=>k=gm) hB11d) fun i _ hi=>hi).trans hc12 fun i _ hi=>hi
   refine ⟨?_,?_⟩
   ·refine q4q (hF8 hBd8) ho (hpt.ext hBd8) hs4l hs4v hpl htl (fun cx w9 hcn hB9=>?_) (fun a b' c' d' w9 hcol hB9=>?_)
    ·refine nwb fun w10 h10 hB10 hs10=>?_;have hB810:=bT (bT hBd8 hB9) hB10;refine ⟨qbe (hn8.ext hB810),qbe (hn8.ext hB810),qbe (hn8.ext hB810),qbe (hf8.ext hB810),?_⟩;refine qbx h10 rfl fun w11 h11 hc11 hs11=>?_;refine cT rfl (hJ0 _ (hbadp hcn) ?_);exact hC38.trans (Chg.of_ext (S:=fun k=>k=ba\/k=bb\/k=gm) (b1o hB810 hc11 (bT hBd8 hB9).size)) fun i _ hi=>hi
    ·refine nwb fun w10 h10 hB10 hs10=>?_;have hB810:=bT (bT hBd8 hB9) hB10;refine ⟨qbe (hn8.ext hB810),qbe (hn8.ext hB810),qbe (hn8.ext hB810),qbe (hf8.ext hB810),?_⟩;refine qbx h10 rfl fun w11 h11 hc11 hs11=>?_;exact cF rfl (fin a b' c' d' _ w11 hcol h11 (b1o hB810 hc11 (bT hBd8 hB9).size))
   ·refine nwb fun w13 h13 hB13 hs13=>?_;have hB813:=bT hBd8 hB13;refine ⟨qbe (hn8.ext hB813),qbe (hn8.ext hB813),qbe (hn8.ext hB813),qbe (hf8.ext hB813),?_⟩;refine q4q (hF8 hB813) ho (hpt.ext hB813) hs4l hs4v hpl htl (fun cx w14 hcn hB14=>?_) (fun a b' c' d' w14 hcol hB14=>?_)
    ·refine qbx (h13.ext hB14) rfl fun w15 h15 hc15 hs15=>?_;refine cT rfl (hJ0 _ (hbadp hcn) ?_);exact hC38.trans (Chg.of_ext (S:=fun k=>k=ba\/k=bb\/k=gm) (b1o (bT hB813 hB14) hc15 hBd8.size)) fun i _ hi=>hi
    ·refine qbx (h13.ext hB14) rfl fun w15 h15 hc15 hs15=>?_;exact cF rfl (fin a b' c' d' _ w15 hcol h15 (b1o (bT hB813 hB14) hc15 hBd8.size))
  ·have hge:=oFq hge;obtain rfl:x=r.2.2:=by omega
   have hba8:=keep8 (by decide) hba6;have hbb8:=keep8 (by decide) hbb6;have hst8:=keep8 (by decide) hst6;rw [hput] at hstepE;refine hJ1 ⟨bt.drop sz,rl,m⟩ w8 hstepE hmlen ⟨hn8,hf8,hst8,hm8,⟨rw_,hba8,?_,?_⟩,⟨sb2,hbb8,hsb'⟩,hrow8,hB08⟩ hC38
   ·refine ((hrw6.ext hB67).chg hc8 fun k hk e=>?_).base (by have:=hB03.size;omega);have:=hrwg k hk;have h3g:gm<w3.heap.size:=(hrow3.lt gm (by unfold Slc.blk;rw [hc.tm];rfl)).2;omega
   ·intro k hk e;have:=hrwg k hk;have h3g:gm<w3.heap.size:=(hrow3.lt gm (by unfold Slc.blk;rw [hc.tm];rfl)).2;omega
 refine cO (fun e=>?_) fun e=>?_
 ·have e0:r.2.1=0:=by have:=eq_of_beq e;omega
  refine qbx (hba.ext hBd) rfl fun w3 h3 hc3 hs3=>?_;have hsz2:w2.drew.heap.size=w2.heap.size:=rfl;refine main ⟨none,0,0⟩ w3 h3 ?_ ((Chg.of_ext (S:=fun k=>k=ba) hBd).trans hc3 fun i _ hi=>hi) ((hp2.ext (bdw w2)).chg hc3 (by have:=hba.lt;omega));unfold qik;rw [if_pos e0];exact Go.Vc.Own.nil _ _ _
 ·have e0:r.2.1≠0:=fun h=>by rw [h] at e;cases e
  refine main sa w2.drew (hba.ext hBd) ?_ (Chg.of_ext hBd) (hp2.ext (bdw w2));unfold qik;rw [if_neg e0];exact hsa.ext hBd
end
section
variable {w w':World} {g:Nat} {s:Slc} {bs:List UInt8} {at_:Nat}
end
section
variable {w:World} {base tg:Nat} {lo co:Slc} {ls:List UInt8}
end
section
variable {w w':World} {base g rg:Nat} {s out:Slc} {bs hist:List UInt8} {most at_:Nat}
end
section
variable {w:World} {base g rg:Nat} {s out:Slc} {bs:List UInt8} {most at_:Nat}
end
section
variable {w w':World} {base g rg:Nat} {s out out':Slc} {bs hist ls:List UInt8} {most at_:Nat} {t:Nat×Slc×Slc}
end
section
variable {w w':World} {base g rg:Nat} {s out:Slc} {bs hist ls:List UInt8} {most at_ B:Nat}
end
section
variable {w w':World} {base g rg:Nat} {s out:Slc} {bs:List UInt8} {most at_:Nat}
end
section
variable {w w':World} {base g rg:Nat} {s out:Slc} {bs:List UInt8} {most at_:Nat}
end
section
variable {w:World}
end
theorem q7j (most:Nat) (B:List UInt8):∀(n:Nat) (c:Cfg) (a:Nat),mu B c a<=n->a<=8*B.length->∃c1 a1 r,Ch most B c a c1 a1/\step1 most B a1 c1=r/\∀c a,r≠.next c a
 | n,c,a,hn,ha=>by
  cases h:step1 most B a c with
  | short=>exact ⟨c,a,_,.refl _ _,h,by intro _ _ e;cases e⟩
  | err m=>exact ⟨c,a,_,.refl _ _,h,by intro _ _ e;cases e⟩
  | next c2 a2 =>
   obtain ⟨h1,h2,h3⟩:=qya h ha;cases n with
   | zero=>omega
   | succ n =>
    obtain ⟨c1,a1,r,hc,hs,hr⟩:=q7j most B n c2 a2 (by omega) h1;exact ⟨c1,a1,r,.step h hc,hs,hr⟩
section
variable {w:World}
end
end Go.Proofs.YtedcpbkcamckoaaGreatDoor
namespace Go.Proofs.YtedcpbkcamckoaaGreatDoor
open Go.Vc
set_option maxRecDepth 400000
open _root_.Nat (le_refl)
theorem q6c (most:Nat) (bs:List UInt8):∃r:Cfg×Nat×SR,Ch most (bs.drop 2) cfg0 0 r.1 r.2.1/\step1 most (bs.drop 2) r.2.1 r.1=r.2.2/\∀c a,r.2.2≠.next c a:=by
 obtain ⟨c1,a1,r0,h1,h2,h3⟩:=q7j most (bs.drop 2) _ cfg0 0 (le_refl _) (Nat.zero_le _);exact ⟨(c1,a1,r0),h1,h2,h3⟩
noncomputable def unRun (most:Nat) (bs:List UInt8):Cfg×Nat×SR:=Classical.choose (q6c most bs)
theorem q4m (most:Nat) (bs:List UInt8):Ch most (bs.drop 2) cfg0 0 (unRun most bs).1 (unRun most bs).2.1/\step1 most (bs.drop 2) (unRun most bs).2.1 (unRun most bs).1=(unRun most bs).2.2/\∀c a,(unRun most bs).2.2≠.next c a:=Classical.choose_spec (q6c most bs)
noncomputable def unErr (most:Nat) (bs:List UInt8):Nat:=zerr bs (unRun most bs).1 (unRun most bs).2.1 (unRun most bs).2.2
noncomputable def unOut (most:Nat) (bs:List UInt8):List UInt8:=(unRun most bs).1.hist
noncomputable def qnu (most:Nat) (bs:List UInt8):Nat:=6+((unRun most bs).2.1+7)/8
noncomputable def decF (F:FilL):Nat×Nat×Nat×List UInt8 :=
 if unErr (needP F.h) F.data≠0 then (unErr (needP F.h) F.data,0,0,[])
 else if (unOut (needP F.h) F.data).length<needP F.h\/qnu (needP F.h) F.data<F.data.length then (3,0,0,[])
 else match qsl F (unOut (needP F.h) F.data) with
  | none=>(3,0,0,[])
  | some m=>(0,F.h.W.toNat,F.h.H.toNat,m)
noncomputable def qmd (b:List UInt8) (pixels:Int):Nat×Nat×Nat×List UInt8 :=
 if (qek b pixels).1≠0 then ((qek b pixels).1,0,0,[]) else decF (qek b pixels).2
def dsum (l:List ChL):Nat:=(l.map fun c=>c.data.length).sum
theorem zge {b:List UInt8} {c:ChL} {n:Nat} (h:qeq b=.ok c n):c.kind.length=4/\n=12+c.data.length/\n<=b.length/\c.kind.all qe0=true:=by
 unfold qeq at h;split at h
 ·cases h
 rename_i h1;split at h
 ·cases h
 rename_i h2;split at h
 ·cases h
 rename_i h3;split at h
 ·cases h
 rename_i h4;split at h
 ·cases h
 rename_i h5;split at h
 ·cases h
 rename_i h6;cases h;refine ⟨by simp;omega,?_,by omega,?_⟩
 ·rw [List.length_drop,List.length_take];omega
 ·cases e:((b.take 8).drop 4).all qe0 with
  | true=>rfl
  | false=>exact absurd e h4
theorem qy4 (one:Bool):∀(f:Nat) (b:List UInt8),dsum (qca one f b).2<=b.length/\(∀c∈(qca one f b).2,c.kind.length=4)/\(qca one f b).2.length<=b.length/\((qca one f b).1=0->∃c l,(qca one f b).2=c::l)
 | 0,b=>⟨by simp [qca,dsum],by simp [qca],by simp [qca],fun h=>by cases h⟩
 | f+1,b=>by
  rw [qca];cases hc:qeq b with
  | err n=>exact ⟨by simp [dsum],by simp,by simp,fun h=>absurd h (zef hc)⟩
  | ok c n =>
   obtain ⟨h1,h2,h3,_⟩:=zge hc;dsimp only;split
   ·exact ⟨by simp [dsum];omega,by simp [h1],by simp;omega,fun _=>⟨c,[],rfl⟩⟩
   ·obtain ⟨i1,i2,i3,i4⟩:=qy4 one f (b.drop n);rw [List.length_drop] at i1 i3;refine ⟨?_,?_,?_,fun _=>⟨_,_,rfl⟩⟩
    ·unfold dsum at i1 ⊢;rw [List.map_cons,List.sum_cons];omega
    ·intro d hd;rcases List.mem_cons.1 hd with rfl | hd
     ·exact h1
     ·exact i2 d hd
    ·rw [List.length_cons];omega
theorem qyo (one:Bool) (b:List UInt8):dsum (qcm one b).2<=b.length/\(∀c∈(qcm one b).2,c.kind.length=4)/\(qcm one b).2.length<=b.length/\((qcm one b).1=0->∃c l,(qcm one b).2=c::l):=by
 obtain ⟨i1,i2,i3,i4⟩:=qy4 one b.length (b.drop 8);rw [List.length_drop] at i1 i3;unfold qcm;split
 ·rename_i h;exact ⟨by simp [dsum],by simp,by simp,fun e=>absurd e h⟩
 ·split
  ·rename_i h;exact ⟨by simp [dsum],by simp,by simp,fun e=>absurd e h⟩
  ·rename_i h;exact ⟨by dsimp only;omega,i2,by dsimp only;omega,fun _=>i4 (by omega)⟩
theorem q6f {F:FilL} {c:ChL} {n:Nat} (h:F.data.length<=n/\F.pal.length<=n/\F.tr.length<=n):(takeP F c).2.data.length<=n+c.data.length/\(takeP F c).2.pal.length<=n+c.data.length/\(takeP F c).2.tr.length<=n+c.data.length:=by
 obtain ⟨h1,h2,h3⟩:=h;unfold takeP
 repeat' split
 all_goals (refine ⟨?_,?_,?_⟩<;>simp<;>omega)
theorem q2c:∀(l:List ChL) (F:FilL) (n:Nat),F.data.length<=n/\F.pal.length<=n/\F.tr.length<=n->(qcq F l).2.data.length<=n+dsum l/\(qcq F l).2.pal.length<=n+dsum l/\(qcq F l).2.tr.length<=n+dsum l
 | [],F,n,h=>by simp only [qcq,dsum,List.map_nil,List.sum_nil];exact ⟨by omega,by omega,by omega⟩
 | c::l,F,n,h=>by
  have e:dsum (c::l)=c.data.length+dsum l:=by simp [dsum]
  rw [qcq];split
  ·rw [e];exact ⟨by dsimp only;omega,by dsimp only;omega,by dsimp only;omega⟩
  ·obtain ⟨a,b,d⟩:=q2c l (takeP F c).2 (n+c.data.length) (q6f h);rw [e];exact ⟨by omega,by omega,by omega⟩
theorem q4c:∀(l:List ChL) {F:FilL},FilOk F->(qcq F l).1=0->FilOk (qcq F l).2/\(qcq F l).2.h=F.h
 | [],F,h,_=>⟨h,rfl⟩
 | c::l,F,h,h0=>by
  rw [qcq] at h0 ⊢;split at h0
  ·rename_i hn;exact absurd h0 hn
  ·rename_i hn;obtain ⟨a,b⟩:=q86 (c:=c) h (by omega);rw [if_neg hn];obtain ⟨a2,b2⟩:=q4c l a h0;exact ⟨a2,b2.trans b⟩
theorem q91 {c:ChL} (h:(headP c).1=0):qgw (headP c).2=0:=by
 unfold headP at h ⊢;split at h
 ·cases h
 ·rename_i h1;split at h
  ·rename_i h2;exact absurd h h2
  ·rename_i h2;rw [if_neg h1,if_neg h2];show qgw (qgy c.data)=0;omega
theorem zbi {h:qag} (hc:qgw h=0):FilOk (fil0 h):=⟨hc,(fun h=>by cases h),rfl⟩
structure ReadOk (b:List UInt8) (pixels:Int) (F:FilL):Prop where
 ok:FilOk F
 area:F.h.W*F.h.H<=pixels/\F.h.W*F.h.H<=67108864
 data:F.data.length<=b.length
 pal:F.pal.length<=b.length
 tr:F.tr.length<=b.length
theorem zc5 {b:List UInt8} {pixels:Int} (h:(qek b pixels).1=0):ReadOk b pixels (qek b pixels).2:=by
 obtain ⟨f1,f2,f3,f4⟩:=qyo false b;unfold qek at h ⊢;cases hcp:qcm false b with
 | mk e l =>
  rw [hcp] at h f1 f2 f3 f4
  match e,l with
  | 0,c::l =>
   replace h:(qwu c l pixels).1=0:=h
   show ReadOk b pixels (qwu c l pixels).2;unfold qwu at h ⊢;by_cases h1:(headP c).1≠0
   ·rw [if_pos h1] at h;exact absurd h h1
   rw [if_neg h1] at h ⊢;by_cases h2:(headP c).2.W*(headP c).2.H>pixels\/(headP c).2.W*(headP c).2.H>67108864
   ·rw [if_pos h2] at h;cases h
   rw [if_neg h2] at h ⊢;by_cases h3:(qcq (fil0 (headP c).2) l).1≠0
   ·rw [if_pos h3] at h;exact absurd h h3
   rw [if_neg h3] at h ⊢;split
   ·rename_i h4;rw [if_pos h4] at h;cases h
   ·obtain ⟨a,bb⟩:=q4c l (zbi (q91 (c:=c) (by omega))) (by omega);obtain ⟨d1,d2,d3⟩:=q2c l (fil0 (headP c).2) 0 ⟨le_refl _,le_refl _,le_refl _⟩;have e:dsum (c::l)=c.data.length+dsum l:=by simp [dsum]
    replace f1:dsum (c::l)<=b.length:=f1
    rw [e] at f1;refine ⟨a,?_,Nat.le_trans d1 (by omega),Nat.le_trans d2 (by omega),Nat.le_trans d3 (by omega)⟩;rw [bb];show (headP c).2.W*(headP c).2.H<=pixels/\(headP c).2.W*(headP c).2.H<=67108864;omega
  | 0,[]=>obtain ⟨c,l,hcl⟩:=f4 rfl;cases hcl
  | e+1,l=>cases h
theorem zh6 {h:qag} {W H:Nat} (ho:HeadOk h W H) {M:Nat} (hM:W*H<=M):needP h<=140*M:=by
 have hrow:∀w:Nat,1+rowB h w<=2+8*w:=by
  intro w;unfold rowB rowP;split
  ·omega
  ·rename_i hn;simp only [not_or] at hn;obtain ⟨h1,h2,h3,h4,h5⟩:=hn;have hd:qdj h.Depth=true:=by cases e:qdj h.Depth with | true=>rfl | false=>exact absurd e h5
   have hdp:1<=h.Depth/\h.Depth<=16:=by
    unfold qdj at hd;simp at hd;omega
   have a1:0<=(w:Int)*(qak h.Color:Int):=Int.mul_nonneg (by omega) (by omega);have a2:(w:Int)*(qak h.Color:Int)<=(w:Int)*4:=Int.mul_le_mul_of_nonneg_left (by omega) (by omega);have a4:(w:Int)*(qak h.Color:Int)*h.Depth<=(w:Int)*4*16:=Int.mul_le_mul a2 (by omega) (by omega) (by omega);omega
 have one:∀p:PassP,needL h (qcb W H p)<=20*M:=by
  intro p;have hs:=qtn p W H;have key:∀(l:List Nat),((l.map fun y=>(p,y,(sizeP p W H).1)).map fun r=>1+rowB h r.2.2).sum<=l.length*(2+8*W):=by
   intro l
   induction l with
   | nil=>simp
   | cons y l ih =>
    rw [List.map_cons,List.map_cons,List.sum_cons,List.length_cons,Nat.add_mul];have:=hrow (sizeP p W H).1;dsimp only;have h8:8*(sizeP p W H).1<=8*W:=by omega
    omega
  have h1:=key (List.range (sizeP p W H).2);rw [List.length_range] at h1;have h2:(sizeP p W H).2*(2+8*W)<=H*(2+8*W):=Nat.mul_le_mul_right _ hs.2;have h3:H*(2+8*W)=2*H+8*(W*H):=by rw [Nat.mul_add,Nat.mul_comm H 2,Nat.mul_left_comm,Nat.mul_comm H W]
  have h4:H<=W*H:=Nat.le_mul_of_pos_left H ho.w1;unfold needL qcb;omega
 have all:∀ps:List PassP,needL h (ps.flatMap (qcb W H))<=ps.length*(20*M):=by
  intro ps
  induction ps with
  | nil=>simp [needL]
  | cons p ps ih =>
   rw [List.flatMap_cons,qnw,List.length_cons,Nat.add_mul];have:=one p;omega
 have h1:=all (qfn h.Lace);have h2:=qxm h.Lace;have h3:(qfn h.Lace).length*(20*M)<=7*(20*M):=Nat.mul_le_mul_right _ h2;have e:needP h=needL h ((qfn h.Lace).flatMap (qcb W H)):=by
  show needL h (rowsL h)=_;unfold rowsL;rw [ho.wn,ho.hn]
 rw [e];omega
end Go.Proofs.YtedcpbkcamckoaaGreatDoor
namespace Go.Proofs.YtedcpbkcamckoaaGreatDoor
open Go.Vc Go.RowKit
set_option maxRecDepth 400000
open IntKind (i64)
open _root_.Nat (le_refl mul_le_mul mul_one)
section
variable {w:World}
theorem zg7 {W H:Nat} {K:Bool->World->Prop} (hW1:1<=W) (hW2:W<=16384) (hH1:1<=H) (hH2:H<=16384) (hA:W*H<=67108864) (hK:K true w):qi9 (W:Int) (H:Int) w K:=by
 refine quf _ _ ?_;unfold qq8;refine cF (qtd (by omega)) (cT (dTq (by omega)) (cT (dTq (by omega)) (cT (dTq (by omega)) (cT (dTq (by omega)) ?_))));rw [show (W:Int)*(H:Int)=((W*H:Nat):Int) by simp,w64i (by omega),dTq (by omega)];exact hK
theorem q0r {W H:Nat} {K:qac->Int->World->Prop} (hW1:1<=W) (hW2:W<=16384) (hH1:1<=H) (hH2:H<=16384) (hA:W*H<=67108864)
  (hK:∀(t:Slc) (gm:Nat) w',Go.Vc.Own qae w' w.heap.size t (List.replicate (4*W*H) 0)->t.a=some ⟨gm,0,none⟩->w.heap.size<=gm->Below w.heap.size w w'->K ⟨W,H,t⟩ 0 w'):qln (W:Int) (H:Int) w K:=by
 refine q5d _ _ ?_;unfold q0y;refine nwb fun w1 h1 hB1 hs1=>zg7 hW1 hW2 hH1 hH2 hA (cF rfl ?_);have e:i64.wrap ((i64.wrap ((4:Int)*(W:Int)))*(H:Int))=((4*W*H:Nat):Int):=by
  have h4:4*W*H=4*(W*H):=Nat.mul_assoc _ _ _;rw [w64i (x:=(4:Int)*(W:Int)) (by omega),show (4:Int)*(W:Int)*(H:Int)=((4*W*H:Nat):Int) by simp,w64i (by omega)]
 rw [e];have h4:4*W*H=4*(W*H):=Nat.mul_assoc _ _ _;refine qpl qau (x0:=(0:UInt8)) rfl (n:=4*W*H) rfl rfl (by rw [qc0];omega) (by unfold maxLen;omega) fun w4 ho hB4=>?_;refine qbm (r:=qac.rep) (x:=⟨W,H,⟨some ⟨w1.heap.size,0,none⟩,4*W*H,4*W*H⟩⟩) (h1.ext hB4) rfl rfl fun w5 hc5 hs5=>?_;refine hK _ w1.heap.size w5 ((ho.chg hc5 fun k hk e=>?_).base (by omega)) rfl (by omega) (b1o (bT hB1 hB4) hc5 (le_refl _));have:=(ho.lt k hk).1;omega
theorem zag {g b:Nat} {F:FilL} {p t d:Slc} (hF:FilA w g b F p t d) (ho:FilOk F) {W H:Nat} (hh:HeadOk F.h W H) (hA:W*H<=67108864) (hpl:F.pal.length<=1000000) (htl:F.tr.length<=1000000) {bS:Slc} {xs:List UInt8} (hx:Rd qae w bS xs) (hxn:needP F.h<=xs.length) (hxl:xs.length<=1000000000) {K:qac->Int->World->Prop}
  (hN:qsl F xs=none->∀w',Below w.heap.size w w'->K ⟨0,0,⟨none,0,0⟩⟩ 3 w') (hY:∀m,qsl F xs=some m->∀s w',Go.Vc.Own qae w' w.heap.size s m->m.length=4*W*H->Below w.heap.size w w'->K ⟨W,H,s⟩ 0 w'):qky (some ⟨g,0,none⟩) bS w K:=by
 obtain ⟨_,hco⟩:=qpu ho.hd;refine qxe _ _ ?_;unfold qps;refine nwb fun w1 h1 hB1 hs1=>nwb fun w2 h2 hB2 hs2=>nwb fun w3 h3 hB3 hs3=>?_;have hB13:=bT (bT hB1 hB2) hB3;have hf:=(h1.ext hB2).ext hB3;have hb:=h2.ext hB3;have hBd:=bdw w3;have hB3d:=bT hB13 hBd;have hFd:=hF.ext hB3d;refine qa8 (x:=some ⟨g,0,none⟩) (qbe (hf.ext hBd)) ?_;simp only [onPtr_some];refine lI (x:=(W:Int)) (by rw [add_zero,<-hh.w];exact hFd.blk.cells 0 _ rfl) ?_;refine qa8 (x:=some ⟨g,0,none⟩) (qbe (hf.ext hBd)) ?_;simp only [onPtr_some];refine lI (x:=(H:Int)) (by rw [add_zero,<-hh.h];exact hFd.blk.cells 1 _ rfl) ?_;have hs3d:w3.drew.heap.size=w3.heap.size:=rfl;have cw:∀{w'},Below w3.heap.size w3 w'->w'.cell? ((⟨g,0,none⟩:Addr).add 0)=some (.int .i64 (W:Int)):=fun hB=>by
  have:=(hF.ext (bT hB13 hB)).blk.cells 0 _ rfl;rw [hh.w] at this;exact this
 have chh:∀{w'},Below w3.heap.size w3 w'->w'.cell? ((⟨g,0,none⟩:Addr).add 1)=some (.int .i64 (H:Int)):=fun hB=>by
  have:=(hF.ext (bT hB13 hB)).blk.cells 1 _ rfl;rw [hh.h] at this;exact this
 have tail:∀(bmx gm:Nat) (vs:List Value) (tm:Slc) w5,vs.length=3->Blk w5 bmx qaq vs->w3.heap.size<=bmx->Go.Vc.Own qae w5 (w3.heap.size) tm (List.replicate (4*W*H) 0)->tm.a=some ⟨gm,0,none⟩->w3.heap.size<=gm->Below w3.heap.size w3 w5 ->
   stK ⟨bmx,0,none⟩ (qac.rep.cells ⟨W,H,tm⟩) w5 fun w6 =>
   ldP (⟨w.heap.size,0,none⟩:Addr) w6 fun t26 =>
   onPtr t26 fun t27 =>
   ldI .i64 ((t27.add 0).add 3) w6 fun t30 =>
   qe5 t30 w6 fun t31 w7 =>
   nw qa9 [(.int .i64 0)] w7 fun n w8 =>
   stK n [(.int .i64 t31)] w8 fun w9 =>
   ldI .i64 n w9.drew fun t32 =>
   ldP (⟨w.heap.size,0,none⟩:Addr) w9.drew fun t33 =>
   onPtr t33 fun t34 =>
   ldI .i64 ((t34.add 0).add 2) w9.drew fun t37 =>
   (8:Int)≠0 /\
   nw qa9 [(.int .i64 0)] w9.drew fun step w10 =>
   World.cell? w10 ((t34.add 0).add 2)=some (.int .i64 t37) /\
   World.cell? w10 (⟨w.heap.size,0,none⟩:Addr)=some (.pointer t33) /\
   World.cell? w10 n=some (.int .i64 t32) /\
   stK step [(.int .i64 (i64.wrap ((i64.wrap ((i64.wrap (t32*t37))+(7:Int))).tdiv (8:Int))))] w10 fun w11 =>
   nw qab [(.slice none 0 0)] w11 fun ahead w12 =>
   ldP (⟨w.heap.size,0,none⟩:Addr) w12 fun t41 =>
   onPtr t41 fun t42 =>
   ldS qag.rep (t42.add 0) w12 fun t44 =>
   qe3 t44 ((.func (.func qhj) #[] #[(.pointer (some n)),(.pointer (some ⟨w.heap.size,0,none⟩)),(.pointer (some ahead)),(.pointer (some ⟨w1.heap.size,0,none⟩)),(.pointer (some step)),(.pointer (some ⟨bmx,0,none⟩))]):Value) w12 fun t46 w13 =>
   cond (!t46)
    (
    stK ⟨w2.heap.size,0,none⟩ [(.int .i64 0),(.int .i64 0),(.slice none 0 0)] w13 fun w14 =>
    ldS qac.rep ⟨w2.heap.size,0,none⟩ w14 fun r =>
    K r 3 w14)
    (
    ldS qac.rep ⟨bmx,0,none⟩ w13 fun t50 =>
    stK ⟨w2.heap.size,0,none⟩ (qac.rep.cells t50) w13 fun w15 =>
    ldS qac.rep ⟨w2.heap.size,0,none⟩ w15 fun r_1 =>
    K r_1 0 w15):=by
  intro bmx gm vs tm w5 hvl hbm hbmn htm hta hgm hB5;refine qbx hbm hvl.symm fun w6 hm6 hc6 hs6=>?_;have tl:=htm.lt;have hB36:Below w3.heap.size w3 w6:=b1o hB5 hc6 (by omega);have hm5:bmx<w5.heap.size:=hbm.lt;have htm6:=htm.chg hc6 fun k hk=>qa0 htm hbm (by decide) k hk;have hB16:Below w.heap.size w w6:=bT hB13 hB36;have hF6:=hF.ext hB16;have hf6:=hf.ext hB36;refine qa8 (x:=some ⟨g,0,none⟩) (qbe hf6) ?_;simp only [onPtr_some];refine lI (x:=F.h.Color) (by rw [add_zero];exact hF6.blk.cells 3 _ rfl) (qtm ?_);refine nwb fun w8 h8 hB8 hs8=>?_;refine qbx h8 rfl fun w9 h9 hc9 hs9=>?_;have hB69:Below w6.heap.size w6 w9:=b1o hB8 hc9 (le_refl _);have hBd9:=bdw w9;have hB69d:=bT hB69 hBd9;have hF9:=hF6.ext hB69d;refine lI (x:=((qak F.h.Color:Nat):Int)) (qbe (h9.ext hBd9)) (qa8 (x:=some ⟨g,0,none⟩) (qbe (hf6.ext hB69d)) ?_);simp only [onPtr_some];refine lI (x:=F.h.Depth) (by rw [add_zero];exact hF9.blk.cells 2 _ rfl) ⟨by decide,?_⟩;refine nwb fun w10 h10 hB10 hs10=>?_;have hB910:=bT hB69d hB10;have hF10:=hF6.ext hB910;have h910:=(h9.ext hBd9).ext hB10;refine ⟨by rw [add_zero];exact hF10.blk.cells 2 _ rfl,qbe (hf6.ext hB910),qbe h910,?_⟩;have hst:i64.wrap ((i64.wrap ((i64.wrap (((qak F.h.Color:Nat):Int)*F.h.Depth))+(7:Int))).tdiv (8:Int))=((qj1 F.h:Nat):Int):=by
   have hs:=qlz hco;have hd:1<=F.h.Depth.toNat/\F.h.Depth.toNat<=16:=by have:=hco.d;omega
   have hdn:F.h.Depth=((F.h.Depth.toNat:Nat):Int):=by have:=hco.d;omega
   have h2:qak F.h.Color*F.h.Depth.toNat<=4*16:=mul_le_mul hs.2 hd.2;unfold qj1;rw [hdn,show ((qak F.h.Color:Nat):Int)*((F.h.Depth.toNat:Nat):Int)=((qak F.h.Color*F.h.Depth.toNat:Nat):Int) by simp,Int.toNat_natCast];generalize qak F.h.Color*F.h.Depth.toNat=q at h2 ⊢;rw [w64i (x:=((q:Nat):Int)) (by omega),w64i (x:=((q:Nat):Int)+7) (by omega),show ((q:Nat):Int)+7=((q+7:Nat):Int) by simp,show (8:Int)=((8:Nat):Int) from rfl,<-Int.ofNat_tdiv,w64i (by omega)]
  rw [hst];refine qbx h10 rfl fun w11 h11 hc11 hs11=>?_;have hsz9:w9.drew.heap.size=w9.heap.size:=rfl;refine nwb fun w12 h12 hB12 hs12=>?_;have hB611:Below w6.heap.size w6 w11:=b1o hB910 hc11 (by have:=hB69.size;omega);have hB612:=bT hB611 hB12;have hF12:=hF6.ext hB612;refine qa8 (x:=some ⟨g,0,none⟩) (qbe (hf6.ext hB612)) ?_;simp only [onPtr_some];refine qal (r:=qag.rep) (x:=F.h) (by rw [add_zero];exact hF12.head) ?_;have hs6':w6.heap.size=w5.heap.size:=hs6;have hb12:=((hb.ext hB5).chg hc6 (show w1.heap.size≠bmx by omega)).ext hB612;have h3_12:=((h3.ext hB5).chg hc6 (show w2.heap.size≠bmx by omega)).ext hB612;have hB3_12:=bT hB36 hB612;have hBw12:Below w.heap.size w w12:=bT hB16 hB612;have hn12:Blk w12 w6.heap.size qa9 _:=(h910.chg hc11 (by omega)).ext hB12;have hst12:Blk w12 w9.drew.heap.size qa9 _:=h11.ext hB12;have hc:PxC w w6.heap.size w.heap.size w11.heap.size (w1.heap.size) w9.drew.heap.size bmx gm tm:=⟨by omega,by omega,by omega,by omega,by omega,hta⟩;have hI0:PxI w g F W H w6.heap.size w.heap.size w11.heap.size (w1.heap.size) w9.drew.heap.size bmx gm tm ⟨xs,[],List.replicate (4*W*H) 0⟩ w12:=by
   refine ⟨hn12,hf6.ext hB612,hst12,hm6.ext hB612,⟨⟨none,0,0⟩,h12,Go.Vc.Own.nil _ _ _,fun k hk=>by cases hk⟩,⟨bS,hb12,hx⟩,(htm6.ext hB612).base (by omega),hBw12⟩
  have hval:qsl F xs=(qci F (rowsL F.h) ⟨xs,[],List.replicate (4*W*H) 0⟩).map (·.m):=by
   unfold qsl;rw [hh.wn,hh.hn]
  refine q7h hh (fun L w13=>∃S,qci F L ⟨xs,[],List.replicate (4*W*H) 0⟩=some S/\S.m.length=4*W*H/\PxI w g F W H w6.heap.size w.heap.size w11.heap.size (w1.heap.size) w9.drew.heap.size bmx gm tm S w13/\Blk w13 (w2.heap.size) qaq [(.int .i64 0),(.int .i64 0),(.slice none 0 0)]/\w12.heap.size<=w13.heap.size)
   (fun w13=>qsl F xs=none/\Blk w13 (w2.heap.size) qaq [(.int .i64 0),(.int .i64 0),(.slice none 0 0)]/\Below w.heap.size w w13) ⟨_,rfl,by simp,hI0,h3_12,le_refl _⟩ ?_ ?_ ?_ ?_
  ·rintro L wa wb ⟨S,a,b,c,d',e⟩ hB;exact ⟨S,a,b,c.ext hB,d'.ext hB,by have:=hB.size;omega⟩
  ·rintro L r R wa hL ⟨S,a,bb,c,d',e⟩ hsa J hJ1 hJ0;refine qgq (by kernel_rfl) ?_;have hcall:qix (passT r.1) (r.2.1:Int) (r.2.2:Int) ⟨w6.heap.size,0,none⟩ ⟨w.heap.size,0,none⟩ ⟨w11.heap.size,0,none⟩ ⟨w1.heap.size,0,none⟩ ⟨w9.drew.heap.size,0,none⟩ ⟨bmx,0,none⟩ wa J:=by
    obtain ⟨sa,q1,q2,q3⟩:=c.ah;obtain ⟨sb,q4,q5⟩:=c.b;refine q9l hF ho hh hpl htl hc hL hxn hxl a bb c (fun S' wb hS' hm' hI' hch=>?_) (fun wb hS' hch=>?_)
    ·refine hJ1 wb ⟨S',q9e a hS',hm',hI',d'.chg hch (by omega),by have:=hch.size;omega⟩ ?_ hch.size;refine q8g hch fun k hk=>?_;rcases hk with rfl | rfl | rfl
     ·exact ⟨_,_,q1,by decide,by decide⟩
     ·exact ⟨_,_,q4,by decide,by decide⟩
     ·obtain ⟨cs,hcs⟩:=c.row.blk_t (g:=k) (by unfold Slc.blk;rw [hta];rfl);exact ⟨_,_,hcs,by decide,by decide⟩
    ·refine hJ0 wb ⟨?_,d'.chg hch (by omega),c.B.trans (hch.below (by have:=c.B.size;omega) fun i hi e=>by omega)⟩;rw [hval,hL,zae a hS'];rfl
   refine Calls.mono hcall ?_;rintro e w' ⟨r,rfl,hk⟩;exact ⟨r,rfl,hk⟩
  ·rintro wa ⟨S,a,bb,c,d',e⟩;refine cF rfl (qal (r:=qac.rep) (x:=⟨W,H,tm⟩) c.m.cells ?_);refine qbm (r:=qac.rep) (x:=⟨W,H,tm⟩) d' rfl rfl fun wb hcb hsb=>?_;rw [a] at hval;exact hY S.m hval tm wb ((c.row.chg hcb fun k hk=>qa0 c.row d' (by decide) k hk).base (by omega)) bb (b1o c.B hcb (by omega))
  ·rintro wa ⟨a,d',e⟩;refine cT rfl ?_;exact qbm (r:=qac.rep) (x:=⟨0,0,⟨none,0,0⟩⟩) d' rfl rfl fun wb hcb hsb=>hN a wb (b1o e hcb (by omega))
 refine ⟨?_,?_⟩
 ·refine q0r hh.w1 hh.w2 hh.h1 hh.h2 hA fun tm gm w4 htm hta hgm hB4=>?_;have hBd4:Below w3.heap.size w3 w4:=bT hBd hB4;refine nwb fun w5 h5 hB5 hs5=>?_;have hB35:=bT hBd4 hB5;refine ⟨by rw [add_zero];exact chh hB35,qbe (hf.ext hB35),by rw [add_zero];have:=cw hB35;rwa [add_zero] at this ⊢,qbe (hf.ext hB35),?_⟩;exact tail _ gm _ tm w5 rfl h5 (by have:=hB4.size;omega) (htm.ext hB5) hta (by omega) hB35
 ·refine nwb fun w5 h5 hB5 hs5=>?_;have hB35:=bT hBd hB5;refine ⟨by rw [add_zero];exact chh hB35,qbe (hf.ext hB35),by rw [add_zero];have:=cw hB35;rwa [add_zero] at this ⊢,qbe (hf.ext hB35),?_⟩;refine q0r hh.w1 hh.w2 hh.h1 hh.h2 hA fun tm gm w4 htm hta hgm hB4=>?_;exact tail _ gm _ tm w4 rfl (h5.ext hB4) (by omega) (htm.base (by omega)) hta (by omega) (bT hB35 hB4)
end
theorem q94 {b:List UInt8} {pixels:Int} (h:(qcm false b).1≠0):(qek b pixels).1=(qcm false b).1:=by
 unfold qek;cases hc:qcm false b with
 | mk e l =>
  rw [hc] at h
  match e,l with
  | 0,_=>exact absurd rfl h
  | e+1,_=>rfl
theorem zdw {b:List UInt8} {pixels:Int} {c:ChL} {l:List ChL} (h:qcm false b=(0,c::l)):qek b pixels=qwu c l pixels:=by
 unfold qek;rw [h];rfl
theorem Below.rdT {T:Type} {E:El T} {B:Nat} {w w':World} {s:Slc} {xs:List T} (h:Rd E w s xs) (hB:Below B w w') (hs:∀k,s.blk=some k->k<B):Rd E w' s xs:=h.chg (Chg.of_below hB) fun a ha e=>by have:=hs a.block (slk.2 ⟨a,ha,rfl⟩);omega
section
variable {w:World}
theorem zcj {b:Slc} {bs:List UInt8} {pixels:Int} {K:Option Addr->Int->World->Prop} (hb:Rd qae w b bs) (hbl:∀k,b.blk=some k->k<w.heap.size) (hl:bs.length<=1000000)
  (hE:(qek bs pixels).1≠0->∀w',Below w.heap.size w w'->K none ((qek bs pixels).1:Nat) w') (hO:(qek bs pixels).1=0->∀g b p t d w',FilA w' g b (qek bs pixels).2 p t d->w.heap.size<=g->Below w.heap.size w w'->K (some ⟨g,0,none⟩) 0 w'):qw7 b pixels w K:=by
 refine q71 _ _ ?_;unfold q2e;refine zaz hb hbl hl fun s w1 hcs hB1=>?_;obtain ⟨f1,f2,f3,f4⟩:=qyo false bs;refine cO (fun e=>?_) fun e=>?_
 ·have e:(qcm false bs).1≠0:=fun h=>by rw [h] at e;cases e
  rw [q94 e] at hE;exact hE e w1 hB1
 have e0:(qcm false bs).1=0:=by
  rcases Nat.eq_zero_or_pos (qcm false bs).1 with h | h
  ·exact h
  ·rw [qf7 (by omega)] at e;cases e
 obtain ⟨c,l,hcl⟩:=f4 e0;have hcp:qcm false bs=(0,c::l):=by rw [<-e0,<-hcl]
 rw [hcl] at f1 f2 f3 hcs;rw [zdw hcp] at hE hO;obtain ⟨xs,hxs,hxl,hxc⟩:=hcs;have hxl:xs.length=l.length+1:=hxl;have hds:dsum (c::l)=c.data.length+dsum l:=by simp [dsum]
 rw [hds] at f1;rw [List.length_cons] at f3;have hrd:=hxs.rd;obtain ⟨x0,hx0⟩:∃x0,xs[0]?=some x0:=⟨_,List.getElem?_eq_getElem (by omega)⟩;have hc0:=hxc 0 x0 c hx0 rfl;refine hrd.ix (i:=0) (k:=2) rfl (by omega) (by omega) fun _=>?_;refine qal (r:=qam.rep) (x:=x0) (hrd.at_ 0 x0 hx0) ?_;refine zdy hc0.a fun w2 hB2=>?_;refine nwb fun w3 h3 hB3 hs3=>qbx h3 rfl fun w4 h4 hc4 hs4=>?_;have hB14:Below w1.heap.size w1 w4:=b1o (bT hB2 hB3) hc4 hB2.size;have hB4:=bT hB1 hB14;unfold qwu at hE hO;refine cO (fun e=>?_) fun e=>?_
 ·have e:(headP c).1≠0:=fun h=>by rw [h] at e;cases e
  rw [if_pos e] at hE;exact hE e w4 hB4
 have e1:(headP c).1=0:=by
  rcases Nat.eq_zero_or_pos (headP c).1 with h | h
  ·exact h
  ·rw [qf7 (by omega)] at e;cases e
 rw [if_neg (by omega)] at hE hO;obtain ⟨h,hh⟩:∃h,h=(headP c).2:=⟨_,rfl⟩;rw [<-hh] at hE hO h4;have hck:qgw h=0:=by rw [hh];exact q91 e1
 obtain ⟨⟨W,H,ho⟩,hco⟩:=qpu hck;have hWH:W*H<=16384*16384:=mul_le_mul ho.w2 ho.h2;refine lI (x:=h.W) (h4.cells 0 _ rfl) (lI (x:=h.H) (h4.cells 1 _ rfl) ?_);have hmul:h.W*h.H=((W*H:Nat):Int):=by rw [ho.w,ho.h];simp
 rw [hmul] at hE hO ⊢;rw [w64i (x:=((W*H:Nat):Int)) (by omega)];have hmin:((W*H:Nat):Int)>(if (67108864:Int)<pixels then (67108864:Int) else pixels)↔((W*H:Nat):Int)>pixels\/((W*H:Nat):Int)>67108864:=by
  split<;>omega
 refine cO (fun e=>?_) fun e=>?_
 ·have e:=hmin.1 (oTq e);rw [if_pos e] at hE;exact hE (show (5:Nat)≠0 by decide) w4 hB4
 have e2:=fun h=>oFq e (hmin.2 h);rw [if_neg e2] at hE hO;refine qal (r:=qag.rep) (x:=h) h4.cells ?_;refine nwb fun w5 h5 hB5 hs5=>?_;have hB15:=bT hB14 hB5;obtain ⟨g,hg⟩:∃g,g=w4.heap.size:=⟨_,rfl⟩;rw [<-hg] at h5 ⊢;have hf0:FilA w5 g g (fil0 h) ⟨none,0,0⟩ ⟨none,0,0⟩ ⟨none,0,0⟩:=⟨h5,Rd.nil _ _,Rd.nil _ _,Go.Vc.Own.nil _ _ _,(fun k hk=>by cases hk),(fun k hk=>by cases hk)⟩;have hxs5:=hxs.ext hB15;refine hxs5.rd.slK (l:=1) (m:=xs.length) rfl (.inr rfl) (.inl ⟨rfl,rfl⟩) (by omega) (by omega) fun hp=>?_;rw [List.take_length] at hp;have hs15:=hB15.size;have hs1g:w1.heap.size<=g:=by rw [hg];exact hB14.size
 have hblk:∀k,(⟨cut s.a 1 s.c qpq.k,xs.length-1,s.c-1⟩:Slc).blk=some k->k<g:=fun k hk=>by
  obtain ⟨a,ha,rfl⟩:=slk.1 hk;obtain ⟨a',ha',e⟩:=qgd ha;have:=(hxs.lt a'.block (slk.2 ⟨a',ha',rfl⟩)).2;rw [e];omega
 have hn:xs.length-1=l.length:=by omega
 rw [hn] at hp hblk ⊢;have h45:Blk w5 w2.heap.size qbo (qag.rep.cells h):=h4.ext hB5;have hs2g:w2.heap.size<g:=by rw [hg];have:=h4.lt;omega
 refine lpR (fun (st:Int×Unit) w6=>∃(i:Nat) (F:FilL) (p t d:Slc) (m:Nat),st.1=i/\i<=l.length/\FilA w6 g g F p t d/\FilOk F/\F.h=h/\qcq (fil0 h) l=qcq F (l.drop i)/\Below g w5 w6/\(F.data.length<=m/\F.pal.length<=m/\F.tr.length<=m)/\m+dsum (l.drop i)<=bs.length) (fun st=>l.length-st.1.toNat)
  ⟨0,fil0 h,_,_,_,0,rfl,by omega,hf0,zbi hck,rfl,rfl,Below.refl _ _,⟨le_refl _,le_refl _,le_refl _⟩,by rw [List.drop_zero];omega⟩ ?_
 rintro ⟨i,u⟩ w6 ⟨i,F,p,t,d,m,rfl,hi,hF,hFo,hFh,htk,hB56,hlen,hsum⟩ I hI;dsimp only;have hBw6:Below w.heap.size w w6:=(bT hB1 hB15).trans (hB56.mono (by have:=hB1.size;omega));refine cO (fun hlt=>?_) fun hge=>?_
 ·have hlt:=oTq hlt;have hil:i<l.length:=by omega
  obtain ⟨ci,hci⟩:∃ci,l[i]?=some ci:=⟨_,List.getElem?_eq_getElem hil⟩;obtain ⟨xi,hxi⟩:∃xi,xs[i+1]?=some xi:=⟨_,List.getElem?_eq_getElem (by omega)⟩;have hoi:=hxc (i+1) xi ci hxi (by simpa using hci);have hdrop:l.drop i=ci::l.drop (i+1):=by
   rw [List.getElem?_eq_getElem hil] at hci;rw [<-Option.some.inj hci,<-List.drop_eq_getElem_cons]
  have hmem:ci∈c::l:=List.mem_cons_of_mem _ (List.mem_of_getElem? hci);have hdsum:dsum (l.drop i)=ci.data.length+dsum (l.drop (i+1)):=by rw [hdrop];simp [dsum]
  rw [hdsum] at hsum;have hp6:=Below.rdT hp hB56 hblk;have hxi':(xs.drop 1)[i]?=some xi:=by rw [List.getElem?_drop,Nat.add_comm];exact hxi
  refine hp6.ix (i:=(i:Int)) (k:=2) rfl (by omega) (by rw [List.length_drop];omega) fun _=>?_;refine qal (r:=qam.rep) (x:=xi) (hp6.at_ i xi hxi') ?_;refine nwb fun w7 h7 hB7 hs7=>qbx h7 rfl fun w8 h8 hc8 hs8=>?_;have hB68:Below w6.heap.size w6 w8:=b1o hB7 hc8 (le_refl _);refine qal (r:=qam.rep) (x:=xi) h8.cells ?_;have hg6:g<=w6.heap.size:=by have:=hF.blk.lt;omega
  have hB58:Below g w5 w8:=hB56.trans (hB68.mono hg6);have hxblk:∀k,xi.Data.blk=some k->k<g:=fun k hk=>by have:=(hoi.data.lt k hk).2;omega
  have hxa:ChA w8 xi ci:=⟨hoi.kind,Below.rdT (hoi.data.rd.ext hB15) hB58 hxblk⟩;rw [hdrop,qcq] at htk;refine zc2 (hF.ext hB68) (by rw [hFh];exact hco) hxa hxblk (le_refl _) (f2 ci hmem) (by omega) (by omega) (by omega) (fun w9 hne hB9=>?_) (fun h0 p' t' d' w9 hF9 hB9=>?_)
  ·rw [if_pos hne] at htk;have hBw9:Below w.heap.size w w9:=(hBw6.trans (hB68.mono (by have:=hBw6.size;omega))).trans (hB9.mono (by have:=hB1.size;omega));refine cT (qf7 (by omega)) ?_;rw [htk] at hE;rw [if_pos hne] at hE;exact hE hne w9 hBw9
  ·rw [if_neg (by omega)] at htk;refine cF rfl ?_;rw [w64i (by omega)];obtain ⟨ho9,hh9⟩:=q86 hFo h0;obtain ⟨l1,l2,l3⟩:=q6f (c:=ci) hlen;exact hI _ _ ⟨i+1,(takeP F ci).2,p',t',d',m+ci.data.length,rfl,by omega,hF9,ho9,hh9.trans hFh,htk,hB58.trans hB9,⟨l1,l2,l3⟩,by omega⟩ (by simp;omega)
 ·have hge:=oFq hge;obtain rfl:i=l.length:=by omega
  rw [List.drop_length,qcq] at htk;rw [htk] at hE hO;rw [if_neg (by simp)] at hE hO;refine qc5 (x:=F.hasD) (hF.blk.cells 10 _ rfl) ?_;refine cO (fun e=>?_) fun e=>?_
  ·have e:F.hasD=false:=by simpa using e
   rw [if_pos (.inl e)] at hE;exact hE (show (3:Nat)≠0 by decide) w6 hBw6
  have e3:F.hasD=true:=by simpa using e
  have h46:Blk w6 w2.heap.size qbo (qag.rep.cells h):=h45.below hB56 hs2g;refine lI (x:=h.Color) (h46.cells 3 _ rfl) ?_;refine cO (fun e=>?_) fun e=>?_
  ·have e:h.Color=3:=eq_of_beq e;refine qc5 (x:=F.hasP) (hF.blk.cells 7 _ rfl) ?_;refine cO (fun e4=>?_) fun e4=>?_
   ·have e4:F.hasP=false:=by simpa using e4
    rw [if_pos (.inr ⟨e,e4⟩)] at hE;exact hE (show (3:Nat)≠0 by decide) w6 hBw6
   ·have e4:F.hasP=true:=by simpa using e4
    rw [if_neg (by rw [e3,e4];simp)] at hO;exact hO rfl g g p t d w6 hF (by have:=hB1.size;omega) hBw6
  ·have e:h.Color≠3:=by simpa using e
   rw [if_neg (by rw [e3];simp [e])] at hO;exact hO rfl g g p t d w6 hF (by have:=hB1.size;omega) hBw6
theorem zab {b:Slc} {bs:List UInt8} {pixels:Int} {K:qac->Int->World->Prop} (hb:Rd qae w b bs) (hbl:∀k,b.blk=some k->k<w.heap.size) (hl:bs.length<=1000000) (hpx:pixels<=4000000)
  (hE:(qmd bs pixels).1≠0->∀w',Below w.heap.size w w'->K ⟨0,0,⟨none,0,0⟩⟩ ((qmd bs pixels).1:Nat) w')
  (hO:∀W H m,qmd bs pixels=(0,W,H,m)->∀s w',Go.Vc.Own qae w' w.heap.size s m->m.length=4*W*H->Below w.heap.size w w'->K ⟨W,H,s⟩ 0 w'):qto b pixels w K:=by
 refine q30 _ _ ?_;unfold qyx;refine nwb fun w1 h1 hB1 hs1=>?_;unfold qmd at hE hO;have bad:∀(n:Nat) w2,Below w1.heap.size w1 w2->(∀w',Below w.heap.size w w'->K ⟨0,0,⟨none,0,0⟩⟩ (n:Int) w')->stK ⟨w.heap.size,0,none⟩ [(.int .i64 0),(.int .i64 0),(.slice none 0 0)] w2 fun w3=>ldS qac.rep ⟨w.heap.size,0,none⟩ w3 fun r=>K r (n:Int) w3:=fun n w2 hB hk =>
  qbm (r:=qac.rep) (x:=⟨0,0,⟨none,0,0⟩⟩) (h1.ext hB) rfl rfl fun w3 hc3 hs3=>hk w3 (b1o (bT hB1 hB) hc3 (le_refl _))
 refine zcj (hb.ext hB1) (fun k hk=>by have:=hbl k hk;omega) hl (fun hne w2 hB2=>?_) (fun h0 g bb p t d w2 hF hgl hB2=>?_)
 ·rw [if_pos hne] at hE;exact cT (qf7 (by omega)) (bad _ w2 hB2 (hE hne))
 obtain ⟨hok,harea,hd,hp,ht⟩:=zc5 h0;rw [if_neg (by omega)] at hE hO;obtain ⟨F,hFe⟩:∃F,F=(qek bs pixels).2:=⟨_,rfl⟩;rw [<-hFe] at hE hO hF hok harea hd hp ht;obtain ⟨⟨W,H,hh⟩,hco⟩:=qpu hok.hd;have hmul:F.h.W*F.h.H=((W*H:Nat):Int):=by rw [hh.w,hh.h];simp
 rw [hmul] at harea;have hneed:=zh6 hh (M:=W*H) (le_refl _);refine cF rfl (qb0 ?_);refine qal (r:=qag.rep) (x:=F.h) (by rw [add_zero];exact hF.head) ?_;refine zgb hh fun w4 hB4=>qb0 ?_;have hF4:=hF.ext hB4;have hB24:=bT hB2 hB4;refine lSl (x:=d) (hF4.blk.cells 9 _ rfl) ?_;obtain ⟨u1,u2,u3⟩:=q4m (needP F.h) F.data;unfold decF at hE hO;refine q16 (by omega) hF4.data.rd (fun k hk=>(hF4.data.lt k hk).2) (by omega) u1 u2 u3 (fun hz o w5 ho hB5=>?_) (fun n hz hn w5 hB5=>?_)
 ·have hz:unErr (needP F.h) F.data=0:=hz;rw [hz,if_neg (by decide)] at hE hO;have hB15:=bT hB24 hB5;have hF5:=hF4.ext hB5;have hu:((6+((unRun (needP F.h) F.data).2.1+7)/8:Nat):Int)=((qnu (needP F.h) F.data:Nat):Int):=rfl;rw [hu,ho.rd.n];have hoo:(unRun (needP F.h) F.data).1.hist=unOut (needP F.h) F.data:=rfl;rw [hoo] at ho ⊢;obtain ⟨xs,hxs⟩:∃xs,xs=unOut (needP F.h) F.data:=⟨_,rfl⟩;rw [<-hxs] at ho hE hO ⊢;have hxm:xs.length<=needP F.h:=by rw [hxs];exact u1.most (Nat.zero_le _)
  refine jpO fun J1 hJ1=>?_;refine cF rfl (jpO fun J2 hJ2=>?_);have key:∀bb':Bool,(bb'=true↔xs.length<needP F.h\/qnu (needP F.h) F.data<F.data.length)->J2 (bb',()) w5:=by
   intro bb' hbb;refine hJ2 _ _ (cO (fun e=>?_) fun e=>?_)
   ·rw [if_pos (hbb.1 e)] at hE;exact bad 3 w5 hB15 (hE (show (3:Nat)≠0 by decide))
   ·have hn:¬(xs.length<needP F.h\/qnu (needP F.h) F.data<F.data.length):=fun h=>by rw [hbb.2 h] at e;cases e
    rw [if_neg hn] at hE hO;refine hJ1 _ _ ?_;refine zag hF5 hok hh (by omega) (by omega) (by omega) ho.rd (by omega) (by omega) (fun hpn w7 hB7=>?_) (fun m hpm s w7 hs hml hB7=>?_)
    ·rw [hpn] at hE;exact bad 3 w7 (bT hB15 hB7) (hE (show (3:Nat)≠0 by decide))
    ·rw [hpm] at hO;have hB17:=bT hB15 hB7;refine qbm (r:=qac.rep) (x:=⟨W,H,s⟩) (h1.ext hB17) rfl rfl fun w8 hc8 hs8=>?_;have e1:(0,F.h.W.toNat,F.h.H.toNat,m)=(0,W,H,m):=by rw [hh.wn,hh.hn]
     exact hO W H m e1 s w8 ((hs.chg hc8 fun k hk=>qa0 hs (h1.ext hB17) (by decide) k hk).base (by have:=hB1.size;have:=hB15.size;omega)) hml (b1o (bT hB1 hB17) hc8 (le_refl _))
  refine cO (fun e=>key _ ?_) fun e=>?_
  ·have e:=oTq e;simp;exact .inl (by omega)
  ·have e:=oFq e;refine qb0 (lSl (x:=d) (hF5.blk.cells 9 _ rfl) (key _ ?_));rw [hF5.data.rd.n,decide_eq_true_iff];omega
 ·have hz:unErr (needP F.h) F.data=n:=hz;rw [hz,if_pos hn] at hE;refine jpO fun J1 hJ1=>?_;exact cT (qf7 (by omega)) (bad n w5 (bT hB24 hB5) (hE hn))
end
theorem q3j (n:Nat):qbc (List.replicate n 0)=List.replicate n (.int .u8 0):=by
 unfold qbc;rw [List.map_replicate];rfl
theorem mkB {n m:Nat} {l c:Int} (hl:l=n) (hc:c=m) (hnm:n<=m) (hm:m<=100000000000) {w:World} {K:Slc->World->Prop}
  (hK:∀w',Go.Vc.Own qae w' w.heap.size ⟨some ⟨w.heap.size,0,none⟩,n,m⟩ (List.replicate n 0)->Below w.heap.size w w'->K ⟨some ⟨w.heap.size,0,none⟩,n,m⟩ w'):mkSl PG qab (.int .i64 l) (.int .i64 c) w K:=by
 subst hl hc;have hr:=run_make (P:=PG) w qab qae.t qau.i qau.z qau.ht qau.hi qau.hz .i64 .i64 (n:Int) (m:Int) (by omega) (by omega) (by rw [qc0];omega) (by omega);refine ⟨⟨some ⟨w.heap.size,0,none⟩,n,m⟩,_,by simpa using hr,hK _ ?_ ((Below.refl _ w).alloc (le_refl _) _)⟩;have hcur:(madeCells qau.z.cells ((m:Int).toNat*qau.i.size)).toList=List.replicate m (.int .u8 0):=by
  have hs:qau.i.size=1:=qau.hs;rw [hs,Int.toNat_natCast,mul_one];refine List.ext_getElem? fun j=>?_;have hz:qau.z.cells=#[.int .u8 0]:=rfl;rw [hz];by_cases hj:j<m
  ·rw [Array.getElem?_toList,List.getElem?_replicate,if_pos hj];simp [madeCells,hj];rw [Nat.mod_one];rfl
  ·rw [List.getElem?_eq_none (by simp [madeCells];omega),List.getElem?_eq_none (by simp;omega)]
 have hb:Blk (w.alloc (.cells (madeCells qau.z.cells ((m:Int).toNat*qau.i.size)) qae.t)) w.heap.size qae.t (List.replicate m (.int .u8 0)):=by
  have:=Blk.new w qae.t (madeCells qau.z.cells ((m:Int).toNat*qau.i.size)).toList;rw [hcur,<-hcur,Array.toArray_toList] at this;rw [hcur] at this;exact this
 have:=Go.Vc.Own.of_blk (E:=qae) (xs:=List.replicate n (0:UInt8)) (c:=m) (base:=w.heap.size) (le_refl _) hb (by simpa using hnm) (by unfold maxLen;omega) (by rw [List.length_replicate];exact (mul_one _).symm) (by
  rw [qu3,q3j,List.length_replicate];show (List.replicate m _).take (n*1)=_;rw [mul_one,List.take_replicate,Nat.min_eq_left hnm])
 simpa using this
section
variable {w:World}
end
section
variable {w:World} {B g gd:Nat} {C:LdK} {s:LdS} {S:Nat->Prop}
theorem zec (h:LdA w B g gd C s S) (hBw:B<=w.heap.size) {t:Slc} {xs:List UInt8} (ht:Rd qae w t xs) (htS:∀k,t.blk=some k->¬S k) (hsm:s.b.length+xs.length<=32768) {K:Int->World->Prop}
  (hK:∀S' w',LdA w' B g gd C { s with b:=s.b++xs } S'->(∀k,S' k->S k\/w.heap.size<=k)->Chg S w w'->K ((takeE C (s.b++xs).length:Nat):Int) w'):qer (some ⟨g,0,none⟩) t w K:=by
 obtain ⟨⟨p0,hb0,hp0⟩,hd0,hok,hsg,hsd,hlt⟩:=h;refine qv6 _ _ ?_;unfold qok;simp only [onPtr_some];rw [ht.n];refine lpR (fun (st:Int×Unit) w1=>∃(i:Nat) (p:Slc) (S1:Nat->Prop),st.1=i/\i<=xs.length/\Blk w1 g qcd (qdp gd C p s.b.length s.err s.over)/\PcS w1 B S1 p (s.b++xs.take i)/\DecB w1 gd s.d/\(∀k,S k->S1 k)/\(∀k,S1 k->S k\/w.heap.size<=k)/\(∀k,S1 k->B<=k/\k<w1.heap.size)/\Chg S w w1) (fun st=>xs.length-st.1.toNat)
  ⟨0,p0,S,rfl,by omega,hb0,by rw [List.take_zero,List.append_nil];exact hp0,hd0,fun k hk=>hk,fun k hk=>.inl hk,hlt,Chg.refl _ _⟩ ?_
 rintro ⟨i,u⟩ w1 ⟨i,p,S1,rfl,hi,hb1,hp1,hd1,hS1,hS1',hlt1,hc1⟩ I hI;dsimp only;have hw1:=hc1.size;refine cO (fun hl=>?_) fun hl=>?_
 ·have hl:=oTq hl;have hil:i<xs.length:=by omega
  obtain ⟨c,hc,_⟩:=qcw (xs:=xs) (k:=i) hil;have ht1:=ht.chg hc1 fun a ha=>htS a.block (slk.2 ⟨a,ha,rfl⟩);refine ht1.ix (i:=(i:Int)) rfl (by omega) (by omega) fun _=>?_;rw [Int.toNat_natCast];refine lI (x:=(c.toNat:Int)) (qdo ht1 hc) ?_;refine jpO fun J2 hJ2=>?_;have app:∀(x q:Slc) (S2:Nat->Prop) w2,Blk w2 g qcd (qdp gd C q s.b.length s.err s.over)->Go.Vc.Own qfe w2 B q [x]->Go.Vc.Own qae w2 B x (s.b++xs.take i)->(∀k,q.blk=some k->S2 k)->(∀k,x.blk=some k->S2 k)->DecB w2 gd s.d->(∀k,S k->S2 k)->(∀k,S2 k->S k\/w.heap.size<=k)->(∀k,S2 k->B<=k/\k<w2.heap.size)->Chg S w w2->J2 () w2:=by
   intro x q S2 w2 hb2 hq hx hqS hxS hd2 hS2 hS2' hlt2 hc2;refine hJ2 _ _ ?_;have hw2:=hc2.size;have hBd:=bdw w2;have hb2d:=hb2.ext hBd;have hqd:=hq.ext hBd;have hxd:=hx.ext hBd;refine lSl (x:=q) (hb2d.cells 25 _ rfl) (lSl (x:=q) (hb2d.cells 25 _ rfl) ?_);have hqn:q.n=1:=hq.rd.n;have e0:i64.wrap (((q.n:Nat):Int)-1)=0:=by rw [hqn];decide
   rw [e0];refine hqd.rd.ix (i:=0) (k:=1) rfl (by omega) (by simp) fun hcell=>?_;refine lSl (x:=x) (by
    have:=hqd.rd.at_ 0 x rfl 0 _ rfl;have h2:w2.drew.cell? (q.at_ qfe.k 0)=some (.slice x.a x.n x.c):=by simpa using this
    exact h2) ?_
   have hsz:w2.drew.heap.size=w2.heap.size:=rfl;refine apB1 (c:=c) rfl hxd (by omega) (by rw [List.length_append,List.length_take];omega) fun r w4 hr hc4 hrb=>?_;have hq4:=hqd.chg hc4 fun k hk e=>qx4 hqd hxd (by decide) k hk e;have hb4:=hb2d.chg hc4 fun e=>qa0 hxd hb2d (by decide) g e rfl;have hd4:DecB w4 gd s.d:=Blk.chg (hd2.ext hBd) hc4 fun e=>qa0 hxd (hd2.ext hBd) (by decide) gd e rfl;refine hq4.st0 (i:=0) (x:=x) (y:=r) rfl rfl fun w5 hq5 hg5 hs5=>?_;have hc5:Chg (fun k=>q.blk=some k) w4 w5:=Chg.of_grown hg5 fun k hk=>hk;have hr5:=hr.chg hc5 fun k hk e=>qx4 hq4 hr (by decide) k e hk;have hb5:=hb4.chg hc5 fun e=>qa0 hq4 hb4 (by decide) g e rfl;have hd5:DecB w5 gd s.d:=Blk.chg hd4 hc5 fun e=>qa0 hq4 hd4 (by decide) gd e rfl;have hs4:=hc4.size;have hs5':=hc5.size;have hc25:Chg S2 w2 w5:=((Chg.of_ext (S:=S2) hBd).trans hc4 fun k hk e=>hxS k e).trans hc5 fun k hk e=>hqS k e;rw [w64i (by omega)];refine hI _ _ ⟨i+1,q,fun k=>S2 k\/r.blk=some k,rfl,by omega,hb5,.inr ⟨r,hq5,?_,?_,fun k hk=>.inl (hqS k hk),fun k hk=>.inr hk⟩,hd5,fun k hk=>.inl (hS2 k hk),fun k hk=>?_,fun k hk=>?_,?_⟩ (by simp;omega)
   ·have:xs.take (i+1)=xs.take i++[c]:=by rw [List.take_add_one,hc];rfl
    rw [this,<-List.append_assoc];exact hr5
   ·rw [List.take_add_one,hc];simp
   ·rcases hk with hk | hk
    ·exact hS2' k hk
    ·rcases hrb with e | ⟨k',e,hge⟩
     ·rw [e] at hk;exact hS2' k (hxS k hk)
     ·rw [e] at hk;cases hk;right;omega
   ·rcases hk with hk | hk
    ·exact ⟨(hlt2 k hk).1,by have:=(hlt2 k hk).2;omega⟩
    ·have:=hr5.lt k hk;exact ⟨this.1,this.2⟩
   ·exact hc2.trans hc25 fun k hk hS=>by
     rcases hS2' k hS with h | h
     ·exact h
     ·omega
  refine lSl (x:=p) (hb1.cells 25 _ rfl) (jpO fun J3 hJ3=>?_);rcases hp1 with ⟨hnil,rfl⟩ | ⟨x,hq,hx,hne,hqS,hxS⟩
  ·refine cT rfl (hJ3 _ _ (cT rfl ?_));have hBd:=bdw w1;have hb1d:=hb1.ext hBd;refine lSl (x:=⟨none,0,0⟩) (hb1d.cells 25 _ rfl) ?_;refine mkB (n:=0) (m:=32768) rfl rfl (by omega) (by omega) fun w7 hx7 hB7=>?_;have hB17:=bT hBd hB7;have hb7:=hb1.ext hB17;refine ⟨hb7.cells 25 _ rfl,nwb fun w8 h8 hB8 hs8=>⟨(hb7.ext hB8).cells 25 _ rfl,?_⟩⟩;have hB18:=bT hB17 hB8;have hw8:=hB18.size;refine qkd qv5 (E:=qfe) (base:=B) (Go.Vc.Own.nil qfe w8 B) (qwx (E:=qfe) (y:=⟨some ⟨w1.drew.heap.size,0,none⟩,0,32768⟩) h8 rfl) (by omega) (by rw [q5n];simp) (by simp [maxLen]) fun q w9 hq9 hg9 hqb=>?_;have hc9:Chg (fun k=>False) w8 w9:=Chg.of_grown hg9 fun k hk=>by cases hk
   have hB9:Below w8.heap.size w8 w9:=hc9.ext fun _ _ hf=>hf;have hb9:=(hb7.ext hB8).ext hB9;have hq9:Go.Vc.Own qfe w9 B q [⟨some ⟨w1.drew.heap.size,0,none⟩,0,32768⟩]:=hq9;have hx9:=(hx7.ext hB8).ext hB9;rw [qas];refine qaj hb9 (by simp [qdp,qaa.rep]) fun w10 hb10 hg10 hs10=>?_;have hc10:Chg (fun k=>k=g) w9 w10:=Chg.gg hg10;have hb10:Blk w10 g qcd (qdp gd C q s.b.length s.err s.over):=hb10;have hB19:=bT hB18 hB9;have hw9:=hB19.size;have hw10:=hc10.size;refine app _ q (fun k=>S1 k\/q.blk=some k\/k=w1.drew.heap.size) w10 hb10 (hq9.chg hc10 fun k hk=>qa0 hq9 hb9 (by decide) k hk) ?_ (fun k hk=>.inr (.inl hk)) (fun k hk=>.inr (.inr (by cases hk;rfl))) (Blk.chg (hd1.ext hB19) hc10 fun e=>by subst e;exact (hd1.ext hB19).ne_t hb9 (by decide) rfl) (fun k hk=>.inl (hS1 k hk)) (fun k hk=>?_) (fun k hk=>?_) ?_
   ·rw [hnil];refine (hx9.chg hc10 fun k hk=>qa0 hx9 hb9 (by decide) k hk).base ?_;show B<=w1.heap.size;omega
   ·rcases hk with hk | hk | hk
    ·exact hS1' k hk
    ·right;rcases hqb with e | e
     ·rw [e] at hk;cases hk
     ·rw [e] at hk;cases hk;omega
    ·right;have:w1.drew.heap.size=w1.heap.size:=rfl;omega
   ·rcases hk with hk | hk | hk
    ·exact ⟨(hlt1 k hk).1,by have:=(hlt1 k hk).2;omega⟩
    ·have:=(hq9.lt k hk);exact ⟨this.1,by omega⟩
    ·have h1:w1.drew.heap.size=w1.heap.size:=rfl;have:=(hx9.lt k (by rw [hk];rfl)).2;exact ⟨by omega,by omega⟩
   ·refine (hc1.trans (Chg.of_ext (S:=S) hB19) fun k _ hk=>hk).trans hc10 fun k _ hk=>?_;subst hk;exact hsg
  ·have hqn:p.n=1:=hq.rd.n;have hxn:x.n=(s.b++xs.take i).length:=hx.rd.n;rw [List.length_append,List.length_take] at hxn;refine cF (by rw [hqn];rfl) ?_;have e0:i64.wrap (((p.n:Nat):Int)-1)=0:=by rw [hqn];decide
   refine lSl (x:=p) (hb1.cells 25 _ rfl) ?_;rw [e0];refine hq.rd.ix (i:=0) (k:=1) rfl (by omega) (by simp) fun hcell=>?_;refine lSl (x:=x) (by
    have:=hq.rd.at_ 0 x rfl 0 _ rfl;have h2:w1.cell? (p.at_ qfe.k 0)=some (.slice x.a x.n x.c):=by simpa using this
    exact h2) (hJ3 _ _ (cF ?_ (app x p S1 w1 hb1 hq hx hqS hxS hd1 hS1 hS1' hlt1 hc1)))
   dsimp only;exact qtd (by omega)
 ·have hl:=oFq hl;obtain rfl:i=xs.length:=by omega
  rw [List.take_length] at hp1;refine lI (x:=(s.b.length:Int)) (hb1.cells 26 _ rfl) ?_;rw [qas,w64i (by omega),show ((s.b.length:Nat):Int)+((xs.length:Nat):Int)=(((s.b++xs).length:Nat):Int) by simp];refine qaj hb1 (by simp [qdp,qaa.rep]) fun w2 hb2 hg2 hs2=>?_;have hb2:Blk w2 g qcd (qdp gd C p (s.b++xs).length s.err s.over):=hb2;have hc2:Chg (fun k=>k=g) w1 w2:=Chg.gg hg2;have hp2:PcS w2 B S1 p (s.b++xs):=by
   rcases hp1 with h | ⟨x,h1,h2,h3,h4,h5⟩
   ·exact .inl h
   ·exact .inr ⟨x,h1.chg hc2 fun k hk=>qa0 h1 hb1 (by decide) k hk,h2.chg hc2 fun k hk=>qa0 h2 hb1 (by decide) k hk,h3,h4,h5⟩
  have hd2:DecB w2 gd s.d:=Blk.chg hd1 hc2 fun e=>by subst e;exact hd1.ne_t hb1 (by decide) rfl
  have hA2:LdA w2 B g gd C { s with b:=s.b++xs } S1:=⟨⟨p,hb2,hp2⟩,hd2,hok,hS1 g hsg,hS1 gd hsd,fun k hk=>⟨(hlt1 k hk).1,Nat.lt_of_lt_of_le (hlt1 k hk).2 hc2.size⟩⟩;have hC2:Chg S w w2:=hc1.trans hc2 fun k _ hk=>by subst hk;exact hsg
  have hBd:=bdw w2;have hBdd:=bT hBd (bdw w2.drew);have hb2d:=hb2.ext hBd;have hb2dd:=hb2.ext hBdd;have hKd:=hK S1 w2.drew (hA2.ext hBd) hS1' (hC2.trans (Chg.of_ext (S:=S) hBd) fun k _ hk=>hk);have hKdd:=hK S1 w2.drew.drew (hA2.ext hBdd) hS1' (hC2.trans (Chg.of_ext (S:=S) hBdd) fun k _ hk=>hk);unfold takeE at hKd hKdd;refine lI (x:=(((s.b++xs).length:Nat):Int)) (hb2d.cells 26 _ rfl) (lI (x:=(C.most:Int)) (hb2d.cells 23 _ rfl) ?_);refine cO (fun e=>?_) fun e=>?_
  ·have e:=oTq e;rw [if_pos (by omega)] at hKd;exact hKd
  have e:=oFq e;rw [if_neg (by omega)] at hKdd;refine lI (x:=C.k.Zip) (hb2dd.cells 3 _ rfl) (cO (fun ez=>?_) fun ez=>?_)
  ·have ez:C.k.Zip=0:=eq_of_beq ez;refine lI (x:=C.k.Format) (hb2dd.cells 6 _ rfl) (cO (fun ef=>?_) fun ef=>?_)
   ·have ef:C.k.Format≠100:=by simpa using ef
    refine lI (x:=(((s.b++xs).length:Nat):Int)) (hb2dd.cells 26 _ rfl) (lI (x:=(C.need:Int)) (hb2dd.cells 24 _ rfl) (cO (fun en=>?_) fun en=>?_))
    ·have en:=oTq en;rw [if_pos ⟨ez,ef,by omega⟩] at hKdd;exact hKdd
    ·have en:=oFq en;rw [if_neg fun h=>en (by have:=h.2.2;omega)] at hKdd;exact hKdd
   ·have ef:C.k.Format=100:=by simpa using ef
    rw [if_neg fun h=>h.2.1 ef] at hKdd;exact hKdd
  ·have ez:C.k.Zip≠0:=by simpa using ez
   rw [if_neg fun h=>ez h.1] at hKdd;exact hKdd
theorem q3y (h:LdA w B g gd C s S) {e:Nat} {K:World->Prop} (hK:∀w',LdA w' B g gd C (failL s e) S->Chg S w w'->K w'):qch (some ⟨g,0,none⟩) (e:Int) w K:=by
 obtain ⟨⟨p,hb,hp⟩,hd,hok,hsg,hsd,hlt⟩:=h;refine qv0 _ _ ?_;unfold qom;simp only [onPtr_some];refine jpO fun J1 hJ1=>?_;unfold failL at hK;have no:¬(s.err=0/\e≠0)->K w:=fun hn=>by
  rw [if_neg hn] at hK;exact hK w ⟨⟨p,hb,hp⟩,hd,hok,hsg,hsd,hlt⟩ (Chg.refl _ _)
 refine lI (x:=(s.err:Int)) (hb.cells 27 _ rfl) (cO (fun e1=>hJ1 _ _ ?_) fun e1=>hJ1 _ _ (cF rfl (no fun h=>?_)))
 ·have e1:s.err=0:=by have:=eq_of_beq e1;omega
  refine cO (fun e2=>?_) fun e2=>no fun h=>?_
  ·have e2:e≠0:=fun h=>by rw [h] at e2;cases e2
   rw [if_pos ⟨e1,e2⟩] at hK;rw [qas];refine qaj hb (by simp [qdp,qaa.rep]) fun w2 hb2 hg2 hs2=>?_;refine qml _ ?_;unfold qiq;simp only [onPtr_some];rw [qas];refine qaj hb2 (by simp [qdp,qaa.rep,putL]) fun w3 hb3 hg3 hs3=>?_;rw [qas];refine qaj hb3 (by simp [qdp,qaa.rep,putL]) fun w4 hb4 hg4 hs4=>?_;have hc:Chg (fun k=>k=g) w w4:=((Chg.gg hg2).trans (Chg.gg hg3) fun i _ hi=>hi).trans (Chg.gg hg4) fun i _ hi=>hi;have hb4:Blk w4 g qcd (qdp gd C ⟨none,0,0⟩ 0 e s.over):=hb4;have hd4:DecB w4 gd s.d:=Blk.chg hd hc fun e=>by subst e;exact hd.ne_t hb (by decide) rfl
   exact hK w4 ⟨⟨⟨none,0,0⟩,hb4,.inl ⟨rfl,rfl⟩⟩,hd4,hok,hsg,hsd,fun k hk=>⟨(hlt k hk).1,Nat.lt_of_lt_of_le (hlt k hk).2 hc.size⟩⟩ (hc.mono fun k _ hk=>by subst hk;exact hsg)
  ·rw [qf7 (by have:=h.2;omega)] at e2;cases e2
 ·rw [h.1] at e1;cases e1
end
section
variable {w:World} {B g gd:Nat} {C:LdK} {s:LdS} {S:Nat->Prop}
theorem LdA.setD {w':World} {d':B64} (h:LdA w B g gd C s S) (hd':DecB w' gd d') (hok:B64Ok d') (hc:Chg (fun k=>k=gd) w w'):LdA w' B g gd C { s with d:=d' } S:=by
 obtain ⟨⟨p,h1,h2⟩,h3,h4,h5,h6,h7⟩:=h;refine ⟨⟨p,h1.chg hc fun e=>by subst e;exact h1.ne_t h3 (by decide) rfl,?_⟩,hd',hok,h5,h6,fun k hk=>⟨(h7 k hk).1,Nat.lt_of_lt_of_le (h7 k hk).2 hc.size⟩⟩;rcases h2 with h | ⟨x,a1,a2,a3,a4,a5⟩
 ·exact .inl h
 ·exact .inr ⟨x,a1.chg hc fun k hk=>qa0 a1 h3 (by decide) k hk,a2.chg hc fun k hk=>qa0 a2 h3 (by decide) k hk,a3,a4,a5⟩
theorem q7f (h:LdA w B g gd C s S) (hBw:B<=w.heap.size) {r:Nat×List UInt8×B64} {t:Slc} {w2:World} (ht:Rd qae w2 t r.2.1) (htb:∀k,t.blk=some k->w.heap.size<=k) (hd:DecB w2 gd r.2.2) (hok:B64Ok r.2.2) (hc:Chg (fun k=>k=gd) w w2) (hsm:s.b.length+r.2.1.length<=32768) {K:World->Prop}
  (hK:∀S' w',LdA w' B g gd C (gotL C s r) S'->(∀k,S' k->S k\/w.heap.size<=k)->Chg S w w'->K w') :
  cond ((r.1:Int)==(0:Int)) (qer (some ⟨g,0,none⟩) t w2 fun t37 w4=>qch (some ⟨g,0,none⟩) t37 w4 fun w5=>K w5) (qch (some ⟨g,0,none⟩) (r.1:Int) w2 fun w6=>K w6):=by
 have h2:=h.setD hd hok hc;have hs:=hc.size;have hC:Chg S w w2:=hc.mono fun k _ hk=>by subst hk;exact h.sd
 unfold gotL at hK;refine cO (fun e=>?_) fun e=>?_
 ·have e:r.1=0:=by have:=eq_of_beq e;omega
  rw [if_neg (by omega)] at hK;refine zec h2 (by omega) ht (fun k hk hS=>by have:=htb k hk;have:=(h.lt k hS).2;omega) hsm fun S' w4 h4 hS' hc4=>?_;refine q3y h4 fun w5 h5 hc5=>?_;refine hK S' w5 h5 (fun k hk=>?_) ((hC.trans hc4 fun k _ hk=>hk).trans hc5 fun k hk hS=>?_)
  ·rcases hS' k hk with h | h
   ·exact .inl h
   ·right;omega
  ·rcases hS' k hS with h | h
   ·exact h
   ·omega
 ·have e:r.1≠0:=fun h=>by rw [h] at e;cases e
  rw [if_pos e] at hK;refine q3y h2 fun w5 h5 hc5=>?_;exact hK S w5 h5 (fun k hk=>.inl hk) (hC.trans hc5 fun k _ hk=>hk)
def potL (s:LdS):Nat:=4*s.b.length+3*(s.d.w.length+s.d.f)
theorem zdh (s:B64):4*(qey s).1.length+3*((qey s).2.w.length+(qey s).2.f)<=3*(s.w.length+s.f):=by
 unfold qey;split
 ·show 4*0+3*(s.w.length+s.f)<=_;omega
 ·have h:(outB s.w).length<=3:=by
   unfold outB;rw [List.length_take];exact Nat.min_le_right _ 3
  show 4*(outB s.w).length+3*(0+0)<=_;omega
theorem zdl (s:B64) (c:UInt8):4*(qd1 s c).2.1.length+3*((qd1 s c).2.2.w.length+(qd1 s c).2.2.f)<=3*(s.w.length+s.f)+3:=by
 unfold qd1;split
 ·show 4*0+3*(0+0)<=_;omega
 ·cases hp:qj5 s c with
  | none =>
   show 4*0+3*(0+0)<=_;omega
  | some r =>
   obtain ⟨o,s'⟩:=r;show 4*o.length+3*(s'.w.length+s'.f)<=_;have fin:∀s1:B64,some (qey s1)=some (o,s')->s1.w.length+s1.f=s.w.length+s.f+1->4*o.length+3*(s'.w.length+s'.f)<=3*(s.w.length+s.f)+3:=by
    intro s1 h h1;have e:=Option.some.inj h;have h2:=zdh s1;rw [e] at h2;dsimp only at h2;omega
   unfold qj5 at hp;split at hp
   ·cases hp
   ·split at hp
    ·split at hp
     ·cases hp
     ·exact fin _ hp (by show s.w.length+(s.f+1)=_;omega)
    ·split at hp
     ·cases hp
     ·split at hp
      ·cases hp
      ·exact fin _ hp (by show (s.w++[_]).length+s.f=_;simp;omega)
theorem q8i (C:LdK) (s:LdS) (c:UInt8):potL (addC C s c)<=potL s+3:=by
 unfold addC;split
 ·omega
 ·have h:=zdl s.d c;unfold gotL failL potL;generalize qd1 s.d c=r at h
  repeat' split
  all_goals (simp only [List.length_append,List.length_nil];omega)
theorem zg8 (h:LdA w B g gd C s S) (hBw:B<=w.heap.size) (hov:s.over=false) {t:Slc} {ts:List UInt8} (ht:Rd qae w t ts) (htS:∀k,t.blk=some k->ts≠[]->¬S k) (hsm:potL s+3*ts.length<=120000) {K:Int->World->Prop}
  (hK:∀S' w',LdA w' B g gd C (addL C s ts) S'->(addL C s ts).over=false->potL (addL C s ts)<=potL s+3*ts.length->(∀k,S' k->S k\/w.heap.size<=k)->Chg S w w'->K (((addL C s ts).err:Nat):Int) w'):qk8 (some ⟨g,0,none⟩) t w K:=by
 refine qyl _ _ ?_;unfold qqs;simp only [onPtr_some];obtain ⟨p0,hb0,_⟩:=h.ex;refine qc5 (x:=s.over) (hb0.cells 28 _ rfl) (cF hov (jpO fun J1 hJ1=>?_));have tell:∀S1 w1 i,i<=ts.length->LdA w1 B g gd C (addL C s (ts.take i)) S1->(addL C s (ts.take i)).over=false->potL (addL C s (ts.take i))<=potL s+3*i->(∀k,S1 k->S k\/w.heap.size<=k)->Chg S w w1->(i=ts.length\/(addL C s (ts.take i)).err≠0)->J1 () w1:=by
  intro S1 w1 i hi h1 ho hl hS1 hc1 hor;refine hJ1 _ _ ?_;have e:addL C s ts=addL C s (ts.take i):=by
   rcases hor with rfl | he
   ·rw [List.take_length]
   ·conv=>lhs;rw [<-List.take_append_drop i ts,qva,q73 he]
  rw [e] at hK;obtain ⟨p1,hb1,_⟩:=h1.ex;exact lI (x:=(((addL C s (ts.take i)).err:Nat):Int)) (hb1.cells 27 _ rfl) (hK S1 w1 h1 ho (by omega) hS1 hc1)
 rw [ht.n];refine lpR (fun (st:Int×Unit) w1=>∃(i:Nat) (S1:Nat->Prop),st.1=i/\i<=ts.length/\LdA w1 B g gd C (addL C s (ts.take i)) S1/\(addL C s (ts.take i)).over=false/\potL (addL C s (ts.take i))<=potL s+3*i/\(∀k,S1 k->S k\/w.heap.size<=k)/\Chg S w w1) (fun st=>ts.length-st.1.toNat)
  ⟨0,S,rfl,by omega,h,hov,le_refl _,fun k hk=>.inl hk,Chg.refl _ _⟩ ?_
 rintro ⟨i,u⟩ w1 ⟨i,S1,rfl,hi,h1,ho1,hl1,hS1,hc1⟩ I hI;dsimp only;have hw1:=hc1.size;refine cO (fun hlt=>?_) fun hge=>?_
 ·have hlt:=oTq hlt;have hil:i<ts.length:=by omega
  obtain ⟨c,hc,_⟩:=qcw (xs:=ts) (k:=i) hil;have htn:ts≠[]:=fun h=>by rw [h] at hil;simp at hil
  have ht1:=ht.chg hc1 fun a ha=>htS a.block (slk.2 ⟨a,ha,rfl⟩) htn;refine ht1.ix (i:=(i:Int)) rfl (by omega) (by omega) fun _=>?_;rw [Int.toNat_natCast];refine lI (x:=(c.toNat:Int)) (qdo ht1 hc) ?_;obtain ⟨s1,hs1⟩:∃s1,s1=addL C s (ts.take i):=⟨_,rfl⟩;have hsucc:addL C s (ts.take (i+1))=addC C s1 c:=by
   rw [List.take_add_one,hc,qva,<-hs1];rfl
  rw [<-hs1] at h1 ho1 hl1;obtain ⟨p1,hb1,_⟩:=h1.ex;refine lI (x:=(s1.err:Int)) (hb1.cells 27 _ rfl) (cO (fun e=>?_) fun e=>?_)
  ·have e:s1.err≠0:=fun h=>by rw [h] at e;cases e
   rw [hs1] at h1 ho1 hl1 e;exact tell S1 w1 i hi h1 ho1 hl1 hS1 hc1 (.inr e)
  ·have e:s1.err=0:=by
    rcases Nat.eq_zero_or_pos s1.err with h | h
    ·exact h
    ·rw [qf7 (by omega)] at e;cases e
   refine qa8 (x:=some ⟨gd,0,none⟩) (hb1.cells 0 _ rfl) ?_;refine zfm h1.d h1.ok fun t3 w3 ht3 htb3 hd3 hc3=>?_;have hpl:=zc4 s1.d h1.ok c;have hpb:4*s1.b.length<=potL s1:=by unfold potL;omega
   have hac:addC C s1 c=gotL C s1 (qd1 s1.d c):=by unfold addC;rw [if_neg (by omega)]
   have:=q7f h1 (by omega) ht3 htb3 hd3 (zez h1.ok c) hc3 (by omega) (K:=fun w5=>I ((i64.wrap ((i:Int)+(1:Int))),()) w5) fun S' w5 h5 hS' hc5=>by
    rw [w64i (by omega)];rw [<-hac] at h5;refine hI _ _ ⟨i+1,S',rfl,by omega,by rw [hsucc];exact h5,by rw [hsucc,q7b];exact ho1,?_,fun k hk=>?_,hc1.trans hc5 fun k hk hS=>?_⟩ (by simp;omega)
    ·rw [hsucc];have:=q8i C s1 c;omega
    ·rcases hS' k hk with h | h
     ·exact hS1 k h
     ·right;omega
    ·rcases hS1 k hS with h | h
     ·exact h
     ·omega
   exact this
 ·have hge:=oFq hge;obtain rfl:i=ts.length:=by omega
  exact tell S1 w1 ts.length (le_refl _) h1 ho1 hl1 hS1 hc1 (.inl rfl)
theorem zdz (h:LdA w B g gd C s S) {K:Int->World->Prop} (hK:K ((s.b.length:Nat):Int) w):qjp (some ⟨g,0,none⟩) w K:=by
 refine qvt _ ?_;unfold qod;simp only [onPtr_some];obtain ⟨p,hb,_⟩:=h.ex;exact lI (x:=(s.b.length:Int)) (hb.cells 26 _ rfl) hK
def qeg (k:qaa):Nat×Nat :=
 if k.Medium≠100\/(k.Zip≠0/\k.Zip≠122) then (8,0)
 else if k.Format=100 then (0,0)
 else if k.Format≠24/\k.Format≠32 then (8,0)
 else if k.W<1\/k.W>16384\/k.H<1\/k.H>16384 then (1,0)
 else (0,k.Format.toNat/8*k.W.toNat*k.H.toNat)
theorem q4i {n:Int} {K:Bool->World->Prop} (hK:K (decide (1<=n/\n<=16384)) w):qlx n w K:=by
 refine q3h _ ?_;unfold qvv;refine cO (fun e=>?_) fun e=>?_
 ·have e:=oTq e;have:decide (1<=n/\n<=16384)=decide (n<=16384):=by rw [decide_eq_decide];omega
  rw [this] at hK;exact hK
 ·have e:=oFq e;rw [dFq (by omega)] at hK;exact hK
theorem zdx {k:qaa} {K:Int->Int->World->Prop} (hK:∀w',Below w.heap.size w w'->K ((qeg k).2:Nat) ((qeg k).1:Nat) w'):qtg k w K:=by
 refine q3s _ ?_;unfold qy3;refine nwb fun w1 h1 hB1 hs1=>jpO fun J1 hJ1=>jpO fun J2 hJ2=>?_;have hk:=hK w1 hB1;unfold qeg at hk;have key:∀bb:Bool,(bb=true↔k.Medium≠100\/(k.Zip≠0/\k.Zip≠122))->J2 (bb,()) w1:=by
  intro bb hbb;refine hJ2 _ _ (cO (fun e=>?_) fun e=>?_)
  ·rw [if_pos (hbb.1 e)] at hk;exact hk
  rw [if_neg fun h=>by rw [hbb.2 h] at e;cases e] at hk;refine lI (x:=k.Format) (h1.cells 5 _ rfl) (cO (fun e=>?_) fun e5=>?_)
  ·rw [if_pos (eq_of_beq e)] at hk;exact hk
  have e5:k.Format≠100:=by simpa using e5
  rw [if_neg e5] at hk;refine jpO fun J3 hJ3=>?_;have key2:∀bb:Bool,(bb=true↔k.Format≠24/\k.Format≠32)->J3 (bb,()) w1:=by
   intro bb hbb;refine hJ3 _ _ (cO (fun e=>?_) fun e=>?_)
   ·rw [if_pos (hbb.1 e)] at hk;exact hk
   have hf:¬(k.Format≠24/\k.Format≠32):=fun h=>by rw [hbb.2 h] at e;cases e
   rw [if_neg hf] at hk;refine lI (x:=k.W) (h1.cells 6 _ rfl) (q4i (cO (fun e=>?_) fun e=>?_))
   ·have e:¬(1<=k.W/\k.W<=16384):=fun h=>by rw [dTq h] at e;cases e
    rw [if_pos (by omega)] at hk;exact hk
   have e1:1<=k.W/\k.W<=16384:=by simpa using e
   refine lI (x:=k.H) (h1.cells 7 _ rfl) (q4i (cO (fun e=>?_) fun e=>?_))
   ·have e:¬(1<=k.H/\k.H<=16384):=fun h=>by rw [dTq h] at e;cases e
    rw [if_pos (by omega)] at hk;exact hk
   have e2:1<=k.H/\k.H<=16384:=by simpa using e
   rw [if_neg (by omega)] at hk;refine hJ1 _ _ (lI (x:=k.Format) (h1.cells 5 _ rfl) ⟨by decide,lI (x:=k.W) (h1.cells 6 _ rfl) (lI (x:=k.H) (h1.cells 7 _ rfl) ?_)⟩);obtain ⟨W,hW⟩:∃W:Nat,k.W=W:=⟨k.W.toNat,by omega⟩;obtain ⟨H,hH⟩:∃H:Nat,k.H=H:=⟨k.H.toNat,by omega⟩;obtain ⟨f,hF⟩:∃f:Nat,k.Format=f:=⟨k.Format.toNat,by omega⟩;have hf8:f/8<=4:=by omega
   rw [hW,hH,hF] at hk ⊢;have h3:f/8*W<=4*16384:=mul_le_mul hf8 (by omega);have h4:f/8*W*H<=4*16384*16384:=mul_le_mul h3 (by omega);have ev:i64.wrap ((i64.wrap ((i64.wrap ((f:Int).tdiv (8:Int)))*(W:Int)))*(H:Int))=((f/8*W*H:Nat):Int):=by
    rw [show (8:Int)=((8:Nat):Int) from rfl,<-Int.ofNat_tdiv,w64i (x:=((f/8:Nat):Int)) (by omega),show ((f/8:Nat):Int)*(W:Int)=((f/8*W:Nat):Int) by simp,w64i (x:=((f/8*W:Nat):Int)) (by omega),show ((f/8*W:Nat):Int)*(H:Int)=((f/8*W*H:Nat):Int) by simp,w64i (by omega)]
   rw [ev];exact hk
  refine lI (x:=k.Format) (h1.cells 5 _ rfl) (cO (fun e=>?_) fun e=>?_)
  ·have e:k.Format≠24:=by simpa using e
   refine lI (x:=k.Format) (h1.cells 5 _ rfl) (key2 _ ?_);simp [e]
  ·have e:k.Format=24:=by simpa using e
   exact key2 _ (by simp [e])
 refine lI (x:=k.Medium) (h1.cells 1 _ rfl) (cO (fun e=>?_) fun e=>?_)
 ·have e:k.Medium≠100:=by simpa using e
  exact key _ (by simp [e])
 have e:k.Medium=100:=by simpa using e
 refine lI (x:=k.Zip) (h1.cells 2 _ rfl) (cO (fun e2=>?_) fun e2=>?_)
 ·have e2:k.Zip≠0:=by simpa using e2
  refine lI (x:=k.Zip) (h1.cells 2 _ rfl) (key _ ?_);simp [e,e2]
 ·have e2:k.Zip=0:=by simpa using e2
  exact key _ (by simp [e,e2])
end
end Go.Proofs.YtedcpbkcamckoaaGreatDoor
