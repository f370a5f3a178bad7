import Derived.Test.YtjhgepnpnapnoaaGreatDoorP4
import Derived.Lib.AppendStr
import Derived.Test.YtjhgepnpnapnoaaGreatDoorP3
import Derived.Test.YtjhgepnpnapnoaaGreatDoorP1
import Derived.Test.YtjhgepnpnapnoaaGreatDoorP2
set_option linter.unusedVariables false
open Go.IntKind (u8)
namespace Go.Proofs.YtjhgepnpnapnoaaGreatDoor
open Go.Vc Go.RowKit
set_option maxRecDepth 400000
open Builtin (copy_)
open _root_.List (length_append length_map length_set length_take set_append_right)
open _root_.Nat (add_mul le_refl mul_assoc mul_one zero_add zero_le)
theorem q43 (bs:List UInt8):Qg qo bs=bs.map λb=>Value.int .u8 (b.toNat:Int):=by
 induction bs with
 | nil=>rfl
 | cons b l a =>
  have e:Qg qo (b::l)=Value.int .u8 (b.toNat:Int)::Qg qo l:=rfl;rw [e,a];rfl
section
variable {w w':World} {base g n:Nat} {F F':KF} {E E':KE}
def xY (b:UInt8):Value:=.int .u8 (b.toNat:Int)
def q65 (w:World) (g:Nat) (bs:List UInt8):Prop:=w.heap[g]?=some (.cells (bs.map xY).toArray qF (bs.length,bs.length+1))
theorem q65.lt {bs:List UInt8} (h:q65 w g bs):g<w.heap.size:=(Array.getElem?_eq_some_iff.1 h).1
theorem q65.cell {bs:List UInt8} (h:q65 w g bs) {j:Nat} {b:UInt8} (hb:bs[j]?=some b):w.cell? ⟨g,j,none⟩=some (xY b):=by
 unfold q65 at h;simp [World.cell?,h,hb]
theorem q65.rd {bs:List UInt8} (h:q65 w g bs) (hl:bs.length<=1000000):Rd qo w ⟨some ⟨g,0,none⟩,bs.length,bs.length⟩ bs:=by
 refine ⟨rfl,le_refl _,by show bs.length<=maxLen;simp only [maxLen];omega,λ_=>rfl,λi x b j v a=>?_⟩;have c:j=0:=by
  have:=(List.getElem?_eq_some_iff.1 a).1;simp [qo] at this;exact this
 subst c;have e:v=xY x:=by simpa [qo,xY] using a.symm
 rw [e];show w.cell? (((⟨g,0,none⟩:Addr).add (i*qo.k)).add 0)=_;rw [qC,zero_add,show i*qo.k=i from mul_one i];exact h.cell b
theorem q2m (w:World) (xs ys:List UInt8) (old:Nat) (hl:xs.length+ys.length<=1000000) :
  Go.Vc.Own qo (w.drew.alloc (.cells ((xs.map xY).toArray++(ys.map xY).toArray++Builtin.zeroCells (Value.int .u8 0).cells (grownCap w (xs.length+ys.length) old qF-(xs.length+ys.length))) qF)) w.heap.size ⟨some ⟨w.heap.size,0,none⟩,xs.length+ys.length,grownCap w (xs.length+ys.length) old qF⟩ (xs++ys):=by
 have a:=grownCap_ge w (xs.length+ys.length) old qF;have b:grownCap w (xs.length+ys.length) old qF<=maxLen:=grownCap_le_maxLen w _ old _ (by simp only [maxLen];omega);have d:(Value.int u8 0).cells.size=1:=rfl;have e:Qg qo (xs++ys)=xs.map xY++ys.map xY:=by rw [q43,List.map_append];rfl
 have:=Own.of_blk (E:=qo)
  (cur:=((xs.map xY).toArray++(ys.map xY).toArray++Builtin.zeroCells (Value.int .u8 0).cells (grownCap w (xs.length+ys.length) old qF-(xs.length+ys.length))).toList) (le_refl _)
  (by unfold Blk;rw [Array.toArray_toList];exact heap_alloc_new w.drew _) (by rw [length_append];exact a) b
  (by
   have:qo.k=1:=rfl;simp only [Array.length_toList,Array.size_append,List.size_toArray,length_map,size_zeroCells,d,this];omega)
  (by
   have f:qo.k=1:=rfl;rw [e,f,mul_one,Array.toList_append,Array.toList_append];have:(xs++ys).length=(xs.map xY++ys.map xY).length:=by simp
   rw [this];exact List.take_left)
 rw [length_append] at this;exact this
def Cmd (w:World) (base:Nat) (c:Slc) (bs:List UInt8):Prop:=Go.Vc.Own qo w base c bs\/∃g,base<=g/\c=⟨some ⟨g,0,none⟩,bs.length,bs.length⟩/\q65 w g bs
theorem Cmd.rd {c:Slc} {bs:List UInt8} (h:Cmd w base c bs) (hl:bs.length<=1000000):Rd qo w c bs:=by
 rcases h with h | ⟨g,_,rfl,h⟩
 ·exact h.rd
 ·exact h.rd hl
theorem zgl {vs:List Value} {m:Nat} {bs:List UInt8} {K:Slc->Ub} (hv:vs=bs.map xY) (hn:m=bs.length)
  (hK:∀s w',Cmd w' w.heap.size s bs->Uc w w'->K s w') :
  nw qF vs w λt w1=>zO PG (convert qj qj (.slice (some t) m m)) Kind.slice w1 K:=by
 subst hn hv;refine ⟨⟨some ⟨w.heap.size,0,none⟩,bs.length,bs.length⟩,_,Lib.run_convert_bytes_const w qj qF _ _ _ (by kernel_rfl) (by kernel_rfl),hK _ _ (.inr ⟨_,le_refl _,rfl,?_⟩) ((Below.refl _ w).alloc (le_refl _) _)⟩;show (w.alloc _).heap[w.heap.size]?=_;rw [heap_alloc_new];simp
theorem zk4 {s:Slc} {xs bs:List UInt8} {K:Slc->Ub} (hown:Go.Vc.Own qo w base s xs) (hb:base<=w.heap.size) (hl:xs.length+bs.length<=1000000)
  (hK:∀r w',Go.Vc.Own qo w' base r (xs++bs)->w.grownBy w' s.blk->K r w'):apS PG #[qj,zk] qj s (qX bs) w K:=by
 have b:=qT bs;obtain ⟨f,w',a,c,h,_⟩:=Lib.run_append_own_string w base qj zk qj qF qN.i (by kernel_rfl) (by kernel_rfl) qN.hi qN.hz (by kernel_rfl) (by kernel_rfl) s.v xs.length (Qg qo xs) hown (qX bs)
  (by rw [b];simp only [maxLen];omega) (by rw [b];omega) hb
 have d:∃r:Slc,f=r.v:=by
  rcases c.2 with ⟨e,_⟩ | ⟨g,j,cur,e,_⟩
  ·exact ⟨⟨none,0,0⟩,e⟩
  ·exact ⟨⟨_,_,_⟩,e⟩
 obtain ⟨r,rfl⟩:=d;refine ⟨r,w',a,hK r w' ?_ (by rw [<-V5];exact h)⟩;have e:Lib.strCells (qX bs)=Qg qo bs:=by
  rw [q43];unfold Lib.strCells;have:(qX bs).data.toList=bs:=by simp [qX]
  rw [this]
 rw [e,b] at c;unfold Go.Vc.Own;rw [length_append,qxa];exact c
theorem EngM.chgS {S:Nat->Prop} (h:EngM w base g F E n) (hc:Chg S w w') (hS:∀k,vC g F k->¬S k) (hi:∀k,ka E.S k->¬S k):EngM w' base g F E n :=
 ⟨h.blk.chg hc (hS _ (.inl rfl)),h.hg,h.st.keep hc (hS _ (.inr (.inl (.inl rfl)))) (hS _ (.inr (.inl (.inr rfl)))) (λp c k a=>hi k ⟨p,c,a⟩),h.ok,h.hs,h.tb.chg hc λk a=>hS k (.inr (.inr (.inl a))),h.tl,
  λC s b=>⟨(h.lo C s b).1.chg hc λk a=>hS k (.inr (.inr (.inr a))),(h.lo C s b).2⟩,h.nl,h.dg,h.ds,h.dt,h.di⟩
end
def typd (w:World) (k:Nat):Prop:=∃t cs,Blk w k t cs/\t≠zi
section
variable {w w':World} {base g n:Nat} {F F':KF} {E E':KE} {k:Nat}
theorem typd.chg {X:Nat->Prop} (h:typd w k) (hc:Chg X w w') (hX:¬X k):typd w' k:=by
 obtain ⟨t,a,b,c⟩:=h;exact ⟨t,a,b.chg hc hX,c⟩
theorem typd.not (h:typd w k) (cs:List Value):¬Blk w k zi cs:=λb=>by
 obtain ⟨t,c,a,d⟩:=h;exact a.ne_t b d rfl
theorem qgn {T:Type} {El':El T} {b:Nat} {s:Slc} {xs:List T} (h:Go.Vc.Own El' w b s xs) (hE:El'.t≠zi) (k:Nat) (hk:s.blk=some k):typd w k:=by
 obtain ⟨c,a⟩:=h.blk_t hk;exact ⟨_,c,a,hE⟩
def q2y (w:World) (F:KF):KF:={ F with LS:=λk=>F.LS k/\typd w k }
theorem EngM.trim (h:EngM w base g F E n):EngM w base g (q2y w F) E n:=by
 refine ⟨h.blk,h.hg,h.st,h.ok,h.hs,h.tb,h.tl,λC s e=>?_,λe k a=>h.nl e k a.1,λa=>h.dg a.1,⟨λa=>h.ds.1 a.1,λa=>h.ds.2 a.1⟩,λk a b=>h.dt k a b.1,λk a b=>h.di k a b.1⟩;obtain ⟨⟨⟨p,i,c⟩,hd,hok,hsg,hsd,hlt⟩,hc⟩:=h.lo C s e;have d:∃j,Blk w F.gd Q6 j:=⟨_,hd⟩;obtain ⟨j,f⟩:=d;refine ⟨⟨⟨p,i,?_⟩,hd,hok,⟨hsg,_,_,i,by decide⟩,⟨hsd,_,_,f,by decide⟩,λk a=>hlt k a.1⟩,hc⟩;rcases c with c | ⟨x,l,m,o,q,r⟩
 ·exact .inl c
 ·exact .inr ⟨x,l,m,o,λk a=>⟨q k a,qgn l (by decide) k a⟩,λk a=>⟨r k a,qgn m (by decide) k a⟩⟩
theorem EngT.trim {n':Nat} (h:EngT base g w F F' E' n' w'):EngT base g w F (q2y w' F') E' n' w' :=
 ⟨h.m.trim,λk b=>h.old k (b.elim .inl λb=>b.elim (λa=>.inr (.inl a)) λb=>b.elim (λa=>.inr (.inr (.inl a))) λa=>.inr (.inr (.inr a.1))),h.chg,λk b=>h.ls k b.1⟩
end
def qum (P:List UInt8) (W py:Nat) (c:List UInt8) (x0:Nat):Nat->List UInt8
 | 0=>P
 | k+1=>qlv (qum P W py c x0 k) (4*(py*W+(x0+k))) c
def qky (P:List UInt8) (W:Nat) (c:List UInt8) (x0 nx y0:Nat):Nat->List UInt8
 | 0=>P
 | k+1=>qum (qky P W c x0 nx y0 k) W (y0+k) c x0 nx
def lo0 (x:Int):Nat:=(if 0>x then 0 else x).toNat
def hiN (x wx:Int) (W:Nat):Nat:=(if (W:Int)<x+wx then (W:Int) else x+wx).toNat
def q33 (P:List UInt8) (W H:Nat) (x y wx hx:Int) (c:List UInt8):List UInt8:=qky P W c (lo0 x) (hiN x wx W-lo0 x) (lo0 y) (hiN y hx H-lo0 y)
theorem Ye {m c:List UInt8} {k:Nat} (hk:k+4<=m.length) (hc:c.length=4):(qlv m k c).length=m.length:=by
 unfold qlv;simp only [length_append,length_take,List.length_drop];omega
theorem qrc {W H x y:Nat} (hx:x<W) (hy:y<H):4*(y*W+x)+4<=4*W*H:=by
 have a:(y+1)*W<=H*W:=Nat.mul_le_mul_right W hy;rw [add_mul] at a;have b:4*W*H=4*(H*W):=by rw [mul_assoc,Nat.mul_comm W H]
 omega
theorem qkr {W H py:Nat} {c:List UInt8} {x0:Nat} {P:List UInt8} (hP:P.length=4*W*H) (hc:c.length=4) (hy:py<H):∀n,x0+n<=W->(qum P W py c x0 n).length=4*W*H
 | 0,_=>hP
 | n+1,h=>by
  have a:=qkr (x0:=x0) hP hc hy n (by omega);show (qlv _ _ _).length=_;rw [Ye (by rw [a];exact qrc (by omega) hy) hc,a]
theorem qi2 {W H:Nat} {c:List UInt8} {x0 nx y0:Nat} {P:List UInt8} (hP:P.length=4*W*H) (hc:c.length=4) (hx:x0+nx<=W\/nx=0):∀n,(y0+n<=H\/n=0)->(qky P W c x0 nx y0 n).length=4*W*H
 | 0,_=>hP
 | n+1,h=>by
  have a:=qi2 (y0:=y0) hP hc hx n (by omega);rcases hx with hx | rfl
  ·exact qkr a hc (by omega) nx hx
  ·exact a
theorem zmq (x wx:Int) (W:Nat):lo0 x+(hiN x wx W-lo0 x)<=W\/hiN x wx W-lo0 x=0:=by
 unfold hiN lo0;split<;>omega
def zla (c:List UInt8) (r:qt):Prop:=c.length=4/\qt.rep.cells r=jT c
structure MatM (w:World) (base:Nat) (m:qf) (W H:Nat) (P:List UInt8):Prop where
 hw:m.W=W
 hh:m.H=H
 own:Go.Vc.Own qo w base m.P P
 len:P.length=4*W*H
 lim:1<=W/\W<=16384/\1<=H/\H<=16384/\4*W*H<=268435456
section
variable {w w':World} {base W H:Nat} {m:qf} {P:List UInt8}
theorem MatM.ext (h:MatM w base m W H P) (hB:Uc w w'):MatM w' base m W H P:=⟨h.hw,h.hh,h.own.ext hB,h.len,h.lim⟩
theorem MatM.some_ (h:MatM w base m W H P):∃g,m.P.a=some ⟨g,0,none⟩/\m.P.blk=some g:=by
 rcases h.own.form with ⟨_,e⟩ | ⟨g,cur,c,_⟩
 ·have b:=h.len;rw [e] at b;have:=h.lim;have d:=Nat.mul_le_mul this.1 this.2.2.1;rw [mul_assoc] at b;simp at b;omega
 ·exact ⟨g,by rw [c],by rw [c];rfl⟩
theorem qwm (h:MatM w base m W H P) {x y wx hx:Int} (bx:-100000000<=x/\x<=100000000) (by_:-100000000<=y/\y<=100000000) (bw:-100000000<=wx/\wx<=100000000) (bh:-100000000<=hx/\hx<=100000000) {c:qt} {cb:List UInt8} (hc:zla cb c) {K:Ub}
  (hK:∀w',MatM w' base m W H (q33 P W H x y wx hx cb)->Chg (λk=>m.P.blk=some k) w w'->K w'):qbw m x y wx hx c w K:=by
 refine qxr _ _ _ _ _ _ ?_;obtain ⟨gm,ha,hbm⟩:=h.some_;have hlim:=h.lim;refine nwb λw1 hm1 hB1 hs1=>nwb λw2 hc2 hB2 hs2=>?_;have hB12:=bT hB1 hB2;have gl:=(h.own.lt gm hbm).2;have hm2:=hm1.ext hB2;have hm2l:=hm2.lt;have hc2l:=hc2.lt;have el:qt.rep.cells c=jT cb:=hc.2;have ewx:IntKind.i64.wrap (x+wx)=x+wx:=qM (by omega);have ehx:IntKind.i64.wrap (y+hx)=y+hx:=qM (by omega);obtain ⟨x0,hx0⟩:∃x0,x0=lo0 x:=⟨_,rfl⟩;obtain ⟨nx,hnx⟩:∃nx,nx=hiN x wx W-lo0 x:=⟨_,rfl⟩;obtain ⟨y0,hy0⟩:∃y0,y0=lo0 y:=⟨_,rfl⟩;obtain ⟨ny,hny⟩:∃ny,ny=hiN y hx H-lo0 y:=⟨_,rfl⟩;have lx:(x0:Int)=(if 0>x then 0 else x):=by rw [hx0];unfold lo0;split<;>omega
 have ly:(y0:Int)=(if 0>y then 0 else y):=by rw [hy0];unfold lo0;split<;>omega
 have cx:∀k:Nat,((x0:Int)+k<(if (W:Int)<x+wx then (W:Int) else x+wx))↔k<nx:=by
  intro k;rw [hnx];unfold hiN;rw [<-hx0];split<;>omega
 have cy:∀k:Nat,((y0:Int)+k<(if (H:Int)<y+hx then (H:Int) else y+hx))↔k<ny:=by
  intro k;rw [hny];unfold hiN;rw [<-hy0];split<;>omega
 have wx':=zmq x wx W;have hx':=zmq y hx H;rw [<-hnx,<-hx0] at wx';rw [<-hny,<-hy0] at hx';have hfin:q33 P W H x y wx hx cb=qky P W cb x0 nx y0 ny:=by unfold q33;rw [hx0,hnx,hy0,hny]
 rw [hfin] at hK;have ld:∀{w3},Chg (λk=>k=gm) w2 w3->Blk w3 w.heap.size qx (qf.rep.cells m)/\Blk w3 w1.heap.size qK (qt.rep.cells c):=λhc3=>⟨hm2.chg hc3 (by omega),hc2.chg hc3 (by have:=hB1.size;omega)⟩;refine lpR (λ(st:Int×Unit) w3=>∃k:Nat,st.1=(y0:Int)+k/\(k<=ny)/\Go.Vc.Own qo w3 base m.P (qky P W cb x0 nx y0 k)/\Chg (λk=>k=gm) w2 w3) (λst=>ny-(st.1-(y0:Int)).toNat) ⟨0,by omega,zero_le _,h.own.ext hB12,Chg.refl _ _⟩ ?_;rintro ⟨i,u⟩ w3 ⟨k,hi,hk,ho3,hc3⟩ I hI;dsimp only at hi ⊢;subst hi;obtain ⟨hmm,hcc⟩:=ld hc3;refine lI (x:=(H:Int)) (by rw [<-h.hh];exact hmm.cells 1 _ rfl) ?_;rw [ehx];refine cO (λe=>?_) λe=>?_
 ·have hkn:k<ny:=(cy k).1 (oTq e);have hlen:(qky P W cb x0 nx y0 k).length=4*W*H:=qi2 h.len hc.1 wx' k (by omega);refine lpR (λ(st:Int×Unit) w4=>∃j:Nat,st.1=(x0:Int)+j/\j<=nx/\Go.Vc.Own qo w4 base m.P (qum (qky P W cb x0 nx y0 k) W (y0+k) cb x0 j)/\Chg (λk=>k=gm) w2 w4) (λst=>nx-(st.1-(x0:Int)).toNat) ⟨0,by omega,zero_le _,ho3,hc3⟩ ?_;rintro ⟨i2,u2⟩ w4 ⟨j,hi2,hj,ho4,hc4⟩ I2 hI2;dsimp only at hi2 ⊢;subst hi2;obtain ⟨hmm4,hcc4⟩:=ld hc4;refine lI (x:=(W:Int)) (by rw [<-h.hw];exact hmm4.cells 0 _ rfl) ?_;rw [ewx];refine cO (λe=>?_) λe=>?_
  ·have hjn:j<nx:=(cx j).1 (oTq e);have hl4:(qum (qky P W cb x0 nx y0 k) W (y0+k) cb x0 j).length=4*W*H:=qkr hlen hc.1 (by omega) j (by omega);have hin:=qrc (W:=W) (H:=H) (x:=x0+j) (y:=y0+k) (by omega) (by omega);refine lSl (x:=m.P) (hmm4.drew.cells 2 _ rfl) (lI (x:=(W:Int)) (by rw [<-h.hw];exact hmm4.drew.cells 0 _ rfl) ?_);have eidx:IntKind.i64.wrap ((4:Int)*IntKind.i64.wrap (IntKind.i64.wrap (((y0:Int)+(k:Int))*(W:Int))+((x0:Int)+(j:Int))))=((4*((y0+k)*W+(x0+j)):Nat):Int):=by
    have e1:((y0:Int)+(k:Int))*(W:Int)=(((y0+k)*W:Nat):Int):=by simp
    rw [e1];generalize (y0+k)*W=q at hin ⊢;rw [qM (x:=((q:Nat):Int)) (by omega),qM (x:=((q:Nat):Int)+((x0:Int)+(j:Int))) (by omega),qM (by omega)];omega
   rw [eidx];obtain ⟨o,hoo⟩:∃o,o=4*((y0+k)*W+(x0+j)):=⟨_,rfl⟩;rw [<-hoo] at hin ⊢;have ho5:=ho4.drew;refine ho5.rd.slK (l:=o) rfl (.inr rfl) (.inl ⟨rfl,rfl⟩) (by omega) (le_refl _) λ_=>?_;obtain ⟨cur,hcur,hcl,hct,hc1,hc2',hc3',hc4'⟩:=qki (c:=0) ho5 ha;have hcut:cut m.P.a o m.P.c qo.k=some ⟨gm,o,none⟩:=by
    unfold cut;rw [if_neg (by omega),ha];show some ((⟨gm,0,none⟩:Addr).add (o*1))=_;rw [qC,mul_one,zero_add]
   rw [hcut];have hrc:Rd qo w4.drew ⟨some ⟨w1.heap.size,0,none⟩,4,4⟩ cb:=by
    refine ⟨hc.1.symm,le_refl _,by simp [maxLen],λ_=>rfl,λi y hy=>?_⟩;have hbc':=hcc4.drew.cells i (.int .u8 (y.toNat:Int)) (by rw [el];unfold jT;rw [List.getElem?_map,hy];rfl);intro j v hj
    match j,hj with
    | 0,hj =>
     cases hj;show w4.drew.cell? (((⟨w1.heap.size,0,none⟩:Addr).add (i*1)).add 0)=_;rw [add_zero,mul_one];exact hbc'
    | j+1,hj=>simp [qo] at hj
   show zO PG (copy_ #[qj,qj] zJ #[(.slice (some ⟨gm,o,none⟩) ((qum (qky P W cb x0 nx y0 k) W (y0+k) cb x0 j).length-o) (m.P.c-o)),(.slice (some ((⟨w1.heap.size,0,none⟩:Addr).add (0*1))) 4 4)]) (Kind.int .i64) w4.drew _;rw [Nat.zero_mul,add_zero];refine q3v (ys:=cb) (n:=4) hcur hrc (by rw [hc.1];omega) (by omega) λw6 hb6 hc6 hs6=>?_;rw [List.take_of_length_le (by rw [hc.1];omega)] at hb6;have ho6:=qpa (ys:=cb) (k:=o) ho5 ha hcur (by rw [hc.1];omega) hb6;rw [qM (x:=(x0:Int)+(j:Int)+1) (by omega)];refine hI2 _ _ ⟨j+1,by simp;omega,by omega,?_,(hc4.trans (Chg.of_ext (S:=λk=>k=gm) (bdw w4)) λ_ _ h=>h).trans hc6 λ_ _ h=>h⟩ (by dsimp only;omega);show Go.Vc.Own qo w6 base m.P (qlv (qum (qky P W cb x0 nx y0 k) W (y0+k) cb x0 j) (4*((y0+k)*W+(x0+j))) cb);rw [<-hoo];have e4:cb.length=4:=hc.1;unfold qlv;rw [<-e4];exact ho6
  ·have hjn:¬j<nx:=λhh=>oFq e ((cx j).2 hh);have:j=nx:=by omega
   subst this;rw [qM (x:=(y0:Int)+(k:Int)+1) (by omega)];exact hI _ _ ⟨k+1,by simp;omega,by omega,ho4,hc4⟩ (by dsimp only;omega)
 ·have hkn:¬k<ny:=λhh=>oFq e ((cy k).2 hh);have:k=ny:=by omega
  subst this;refine hK w3 ⟨h.hw,h.hh,ho3,qi2 h.len hc.1 wx' k hx',h.lim⟩ ?_;refine (Chg.of_ext (S:=λk=>m.P.blk=some k) hB12).trans (hc3.mono λk' _ e=>?_) λ_ _ h=>h;show m.P.blk=some k';rw [e];exact hbm
end
open IntKind (i64)
structure SxD where
 clear:Bool
 most:Int
 cols:List Int
 now:Nat
 x:Nat
 y:Nat
 w:Nat
 h:Nat
 p:List UInt8
 drawn:Bool
 down:Bool
 full:Bool
 over:Bool
 cmd:Nat
 n:List Int
 v:Nat
 rep:Nat
def zgi (m:List UInt8) (k:Nat) (c:List UInt8):List UInt8:=m.take k++c.take (m.length-k)++m.drop (k+c.length)
theorem q7y {m c:List UInt8} {k:Nat} (hk:k<=m.length):(zgi m k c).length=m.length:=by
 unfold zgi;simp only [length_append,length_take,List.length_drop];omega
namespace SxD
def num (D:SxD) (i:Nat):Int:=D.n[i]?.getD 0
def push (D:SxD):SxD:={ D with n:=if D.n.length<5 then D.n++[(D.v:Int)] else D.n,v:=0 }
def rows (D:SxD) (W:Nat) (m:List UInt8):Nat->List UInt8
 | 0=>m
 | k+1=>zgi (rows D W m k) (4*W*k) ((D.p.take (4*D.w*(k+1))).drop (4*D.w*k))
def grow (D:SxD) (W0 H0:Nat):Bool×SxD :=
 let W:=max W0 D.w
 let H:=max H0 D.h
 if W=D.w/\H=D.h then (true,D)
 else if 0<H/\(W:Int)>(D.most.tdiv 4).tdiv H then (false,{ D with full:=true,p:=[] })
 else (true,{ D with w:=W,h:=H,p:=D.rows W (List.replicate (4*W*H) 0) D.h })
def bit (v k:Nat):Bool:=v.testBit k
def ask (D:SxD) (v n:Nat):Nat->Nat×Nat
 | 0=>(0,0)
 | k+1=>if bit v k=true/\D.y+k<16384/\D.x<16384 then (min (D.x+n) 16384,D.y+k+1) else ask D v n k
def pix (D:SxD):List UInt8:=[UInt8.ofNat (D.cols[3*D.now]?.getD 0).toNat,UInt8.ofNat (D.cols[3*D.now+1]?.getD 0).toNat,UInt8.ofNat (D.cols[3*D.now+2]?.getD 0).toNat,255]
def dotsR (D:SxD) (m:List UInt8) (r:Nat):Nat->List UInt8
 | 0=>m
 | j+1=>qlv (dotsR D m r j) (4*(r*D.w+(D.x+j))) D.pix
def dots (D:SxD) (v W:Nat) (m:List UInt8):Nat->List UInt8
 | 0=>m
 | k+1=>if bit v k=true/\D.y+k<16384 then D.dotsR (dots D v W m k) (D.y+k) (W-D.x) else dots D v W m k
def sixel (D:SxD) (v n:Nat):SxD :=
 let a:=D.ask v n 6
 let r:=if 0<a.2 then D.grow a.1 a.2 else (true,D)
 if r.1=false then r.2
 else
  let E:SxD:={ r.2 with drawn:=r.2.drawn || decide (0<a.2) }
  { E with p:=E.dots v a.1 E.p 6,x:=min (E.x+n) 1048576 }
end SxD
structure SxOk (D:SxD):Prop where
 cl:D.cols.length=768
 cu:∀c∈D.cols,0<=c/\c<=255
 now:D.now<256
 xy:D.x<=1048576/\D.y<=1048576
 wh:D.w<=16384/\D.h<=16384
 m0:0<=D.most/\D.most<=1073741824
 fits:(4*D.w*D.h:Nat)<=D.most
 pl:D.full=false->D.p.length=4*D.w*D.h
 pf:D.full=true->D.p=[]
 nl:D.n.length<=5
 nr:∀c∈D.n,0<=c/\c<=65535
 v:D.v<=65535
 rep:D.rep<=65535
 cmd:D.cmd<256
theorem SxOk.num {D:SxD} (h:SxOk D) (i:Nat):0<=D.num i/\D.num i<=65535:=by
 unfold SxD.num;cases hi:D.n[i]? with
 | none=>exact ⟨Int.le_refl _,by show (0:Int)<=_;omega⟩
 | some c=>exact h.nr c (List.mem_of_getElem? hi)
theorem SxOk.push {D:SxD} (h:SxOk D):SxOk D.push:=by
 refine ⟨h.cl,h.cu,h.now,h.xy,h.wh,h.m0,h.fits,h.pl,h.pf,?_,?_,zero_le _,h.rep,h.cmd⟩
 ·unfold SxD.push;split
  ·simp;omega
  ·exact h.nl
 ·unfold SxD.push;intro c a;split at a
  ·rcases List.mem_append.1 a with a | a
   ·exact h.nr c a
   ·obtain rfl:c=(D.v:Int):=by simpa using a
    have:=h.v;omega
  ·exact h.nr c a
theorem SxD.rows_length {D:SxD} {W H:Nat} {m:List UInt8} (hm:m.length=4*W*H):∀k,k<=H->(D.rows W m k).length=4*W*H
 | 0,_=>hm
 | k+1,hk=>by
  show (zgi _ _ _).length=_;have a:=SxD.rows_length (D:=D) hm k (by omega);rw [q7y (by rw [a];exact Nat.mul_le_mul_left _ (by omega)),a]
theorem SxD.grow_ok {D:SxD} (h:SxOk D) (hf:D.full=false) {W0 H0:Nat} (hW:W0<=16384) (hH:H0<=16384) (h0:0<W0) (h1:0<H0):SxOk (D.grow W0 H0).2/\((D.grow W0 H0).1=true->(D.grow W0 H0).2.full=false/\W0<=(D.grow W0 H0).2.w/\H0<=(D.grow W0 H0).2.h):=by
 unfold SxD.grow;dsimp only;split
 ·exact ⟨h,λ_=>⟨hf,by show W0<=D.w;omega,by show H0<=D.h;omega⟩⟩
 ·split
  ·exact ⟨⟨h.cl,h.cu,h.now,h.xy,h.wh,h.m0,h.fits,(λe=>by cases e),(λ_=>rfl),h.nl,h.nr,h.v,h.rep,h.cmd⟩,λe=>by cases e⟩
  ·rename_i j f;have k:=h.m0;have a:0<max H0 D.h:=by omega
   have b:((max W0 D.w:Nat):Int)<=(D.most.tdiv 4).tdiv (max H0 D.h:Nat):=by
    by_cases hh:((max W0 D.w:Nat):Int)<=(D.most.tdiv 4).tdiv (max H0 D.h:Nat)
    ·exact hh
    ·exact absurd ⟨a,by omega⟩ f
   have c:((4*max W0 D.w*max H0 D.h:Nat):Int)<=D.most:=by
    obtain ⟨M,g⟩:∃M:Nat,D.most=M:=⟨D.most.toNat,by omega⟩;rw [g] at b ⊢;have i:max W0 D.w<=M/4/max H0 D.h:=by
     have:(((M:Int).tdiv 4).tdiv ((max H0 D.h:Nat):Int))=((M/4/max H0 D.h:Nat):Int):=by
      rw [show (4:Int)=((4:Nat):Int) from rfl,<-Int.ofNat_tdiv,<-Int.ofNat_tdiv]
     exact Int.ofNat_le.1 b
    have l:=(Nat.le_div_iff_mul_le a).1 i;have d:4*(max W0 D.w*max H0 D.h)<=M:=by
     omega
    rw [<-mul_assoc] at d;exact Int.ofNat_le.2 d
   refine ⟨⟨h.cl,h.cu,h.now,h.xy,⟨by show max W0 D.w<=_;have:=h.wh;omega,by show max H0 D.h<=_;have:=h.wh;omega⟩,h.m0,c,(λ_=>?_),(λe=>by rw [hf] at e;cases e),h.nl,h.nr,h.v,h.rep,h.cmd⟩,λ_=>⟨hf,by show W0<=max W0 D.w;omega,by show H0<=max H0 D.h;omega⟩⟩;exact SxD.rows_length (by simp) _ (by show D.h<=max H0 D.h;omega)
theorem SxD.pix_length (D:SxD):D.pix.length=4:=rfl
theorem SxD.dotsR_length {D:SxD} {m:List UInt8} {r H:Nat} (hm:m.length=4*D.w*H) (hr:r<H):∀j,D.x+j<=D.w\/j=0->(D.dotsR m r j).length=4*D.w*H
 | 0,_=>hm
 | j+1,hj=>by
  have a:=SxD.dotsR_length hm hr j (by omega);show (qlv _ _ _).length=_;rw [Ye (by rw [a];exact qrc (by omega) hr) D.pix_length,a]
theorem SxD.dots_length {D:SxD} {m:List UInt8} {v W H:Nat} (hm:m.length=4*D.w*H) (hW:W<=D.w):∀k,(∀j,j<k->bit v j=true->D.y+j<16384->D.y+j<H\/W<=D.x)->(D.dots v W m k).length=4*D.w*H
 | 0,_=>hm
 | k+1,hk=>by
  have a:=SxD.dots_length hm hW k λj c=>hk j (by omega);unfold SxD.dots;split
  ·rename_i e;rcases hk k (by omega) e.1 e.2 with b | b
   ·exact SxD.dotsR_length a b _ (by omega)
   ·rw [show W-D.x=0 by omega];exact a
  ·exact a
open IntKind (i64)
set_option maxRecDepth 400000
structure SxF where
 g:Nat
 q:Slc
 nq:Slc
def sxH (D:SxD):List Value:=[.bool D.clear,.int .i64 D.most]++D.cols.map (.int .u8)
def sxT (F:SxF) (D:SxD):List Value:=[.int .i64 D.now,.int .i64 D.x,.int .i64 D.y,.int .i64 D.w,.int .i64 D.h,.slice F.q.a F.q.n F.q.c,.bool D.drawn,.bool D.down,.bool D.full,.bool D.over,.int .u8 D.cmd,.slice F.nq.a F.nq.n F.nq.c,.int .i64 D.v,.int .i64 D.rep]
def sxC (F:SxF) (D:SxD):List Value:=sxH D++sxT F D
def sxS (F:SxF) (k:Nat):Prop:=k=F.g\/F.q.blk=some k\/F.nq.blk=some k
structure SxM (w:World) (base:Nat) (F:SxF) (D:SxD):Prop where
 blk:Blk w F.g y1 (sxC F D)
 hg:base<=F.g
 q:Go.Vc.Own qo w base F.q D.p
 nq:Go.Vc.Own jr w base F.nq D.n
 ok:SxOk D
theorem yc {D:SxD} (h:D.cols.length=768):(sxH D).length=770:=by
 unfold sxH;rw [length_append,length_map,h];rfl
section
variable {w w':World} {base:Nat} {F F':SxF} {D D':SxD}
theorem SxM.len (h:SxM w base F D):(sxC F D).length=784:=by
 unfold sxC;rw [length_append,yc h.ok.cl];rfl
theorem SxM.tl (h:SxM w base F D) (i:Nat) {v:Value} (hv:(sxT F D)[i]?=some v):w.cell? ((⟨F.g,0,none⟩:Addr).add (770+i))=some v:=by
 rw [qC,zero_add];refine h.blk.cell (770+i) ?_;unfold sxC;rw [List.getElem?_append_right (by rw [yc h.ok.cl];omega),yc h.ok.cl,Nat.add_sub_cancel_left];exact hv
theorem SxM.below (h:SxM w base F D):∀k,sxS F k->base<=k/\k<w.heap.size:=by
 rintro k (rfl | hk | hk)
 ·exact ⟨h.hg,h.blk.lt⟩
 ·exact h.q.lt k hk
 ·exact h.nq.lt k hk
theorem SxM.base_le (h:SxM w base F D):base<=w.heap.size:=Nat.le_trans h.hg (Nat.le_of_lt h.blk.lt)
theorem SxM.chg {X:Nat->Prop} (h:SxM w base F D) (hc:Chg X w w') (hX:∀k,sxS F k->¬X k):SxM w' base F D :=
 ⟨h.blk.chg hc (hX _ (.inl rfl)),h.hg,h.q.chg hc λk a=>hX k (.inr (.inl a)),h.nq.chg hc λk a=>hX k (.inr (.inr a)),h.ok⟩
theorem SxM.ext (h:SxM w base F D) (hB:Uc w w'):SxM w' base F D:=h.chg (Chg.of_ext hB) λ_ _ h=>h
theorem SxM.q_g (h:SxM w base F D):∀k,F.q.blk=some k->k≠F.g:=qI h.q h.blk (by decide)
theorem SxM.n_g (h:SxM w base F D):∀k,F.nq.blk=some k->k≠F.g:=qI h.nq h.blk (by decide)
theorem SxM.q_n (h:SxM w base F D):∀k,F.q.blk=some k->F.nq.blk≠some k:=λk a b=>JN h.q h.nq (by decide) k a b
structure SxT (base:Nat) (w:World) (F F':SxF) (D':SxD) (w':World):Prop where
 m:SxM w' base F' D'
 old:∀k,sxS F' k->sxS F k\/w.heap.size<=k
 chg:Chg (sxS F) w w'
 g:F'.g=F.g
theorem SxT.refl (h:SxM w base F D):SxT base w F F D w:=⟨h,λk a=>.inl a,Chg.refl _ _,rfl⟩
theorem SxT.trans {w1 w2:World} {F1 F2:SxF} {D1 D2:SxD} (h:SxT base w F F1 D1 w1) (h2:SxT base w1 F1 F2 D2 w2):SxT base w F F2 D2 w2:=by
 have c:=h.chg.size;refine ⟨h2.m,λk b=>?_,h.chg.trans h2.chg λi d b=>?_,h2.g.trans h.g⟩
 ·rcases h2.old k b with a | a
  ·exact h.old k a
  ·omega
 ·rcases h.old i b with a | a
  ·exact a
  ·omega
theorem SxT.of_ext (h:SxM w base F D) (hB:Uc w w'):SxT base w F F D w':=⟨h.ext hB,λk a=>.inl a,Chg.of_ext hB,rfl⟩
theorem SxM.drew (h:SxM w base F D):SxT base w F F D w.drew:=SxT.of_ext h (bdw w)
theorem SxM.put (h:SxM w base F D) {w2:World} (hc:Chg (λk=>F.q.blk=some k\/F.nq.blk=some k) w w2) (i:Nat) {v:Value} (F':SxF) (D':SxD) (hi:i<14) (hT:(sxT F D).set i v=sxT F' D') (hH:sxH D'=sxH D) (e:F'.g=F.g)
  (hq:Go.Vc.Own qo w2 base F'.q D'.p) (hn:Go.Vc.Own jr w2 base F'.nq D'.n) (bq:∀k,F'.q.blk=some k->F.q.blk=some k\/w.heap.size<=k) (bn:∀k,F'.nq.blk=some k->F.nq.blk=some k\/w.heap.size<=k) (ok:SxOk D') {K:Ub}
  (hK:∀w',SxT base w F F' D' w'->K w'):stK ((⟨F.g,0,none⟩:Addr).add (770+i)) [v] w2 K:=by
 have b:=h.blk.chg hc λa=>a.elim (λa=>h.q_g _ a rfl) λa=>h.n_g _ a rfl;rw [qC,zero_add];refine qD b (by rw [h.len];show 770+i+1<=784;omega) λj d f l=>?_;have c:=Go.Vc.Chg.gg f;have ev:putL (sxC F D) (770+i) [v]=sxC F' D':=by
  show (sxH D++sxT F D).set (770+i) v=_;rw [set_append_right _ _ (by rw [yc h.ok.cl];omega),yc h.ok.cl,Nat.add_sub_cancel_left,hT,<-hH];rfl
 rw [ev] at d;refine hK j ⟨⟨by rw [e];exact d,by rw [e];exact h.hg,hq.chg c (qI hq b (by decide)),hn.chg c (qI hn b (by decide)),ok⟩,?_,?_,e⟩
 ·rintro k (a | a | a)
  ·exact .inl (.inl (a.trans e))
  ·exact (bq k a).imp (λh=>.inr (.inl h)) id
  ·exact (bn k a).imp (λh=>.inr (.inr h)) id
 ·exact (hc.mono λk _ a=>.inr a).trans c λk _ e=>.inl e
theorem SxM.st (h:SxM w base F D) (i:Nat) {v:Value} (D':SxD) (hi:i<14) (hT:(sxT F D).set i v=sxT F D') (hH:sxH D'=sxH D) (ep:D'.p=D.p) (en:D'.n=D.n) (ok:SxOk D') {K:Ub}
  (hK:∀w',SxT base w F F D' w'->K w'):stK ((⟨F.g,0,none⟩:Addr).add (770+i)) [v] w K :=
 h.put (Chg.refl _ _) i F D' hi hT hH rfl (by rw [ep];exact h.q) (by rw [en];exact h.nq) (λk a=>.inl a) (λk a=>.inl a) ok hK
theorem qfd (h:SxM w base F D) (i:Nat) (hi:i<=100) {K:Int->Ub} (hK:K (D.num i) w):jO (some ⟨F.g,0,none⟩) (i:Int) w K:=by
 refine qdw _ _ ?_;have a:=h.nq.rd.n;unfold SxD.num at hK;refine lSl (h.tl 11 rfl) ?_;refine cO (λe=>?_) λe=>?_
 ·have e:=oTq e;rw [List.getElem?_eq_none (by omega)] at hK;exact hK
 ·have e:=oFq e;refine lSl (h.tl 11 rfl) ?_;refine h.nq.rd.ix rfl (by omega) (by omega) λb=>?_;have c:i<D.n.length:=by omega
  rw [List.getElem?_eq_getElem c] at hK;exact lI (by simpa using b 0 _ rfl) hK
theorem q3f (h:SxM w base F D) {K:Ub} (hK:∀F' w',SxT base w F F' D.push w'->K w'):vR (some ⟨F.g,0,none⟩) w K:=by
 refine qg8 _ ?_;have C:=h.nq.rd.n;refine jpO λJ G=>?_;have b:∀l (f:SxD) o,SxT base w F l f o->{ f with v:=0 }=D.push->J () o:=by
  intro l f o p e;refine G _ _ ?_;rw [<-p.g];exact p.m.st 12 { f with v:=0 } (by decide) rfl rfl rfl rfl (by rw [e];exact h.ok.push) λH I=>hK l H (by rw [<-e];exact p.trans I)
 refine lSl (h.tl 11 rfl) ?_;refine cO (λe=>?_) λe=>?_
 ·have e:=oTq e;have z:=h.drew;have i:=z.m;refine lSl (i.tl 11 rfl) (lI (i.tl 12 rfl) ?_);refine nwb λL s c M=>⟨(i.ext c).tl 11 rfl,?_⟩;have A:=z.trans (SxT.of_ext i c);have d:=A.m;refine jW qb1 d.nq (y9 s rfl) d.base_le (by rw [qhb];simp;omega) (by simp [maxLen];omega) λr w4 N B t=>?_;have u:Chg (λk=>F.q.blk=some k\/F.nq.blk=some k) L w4:=Chg.of_grown B λk a=>.inr a;have y:SxOk { D with n:=D.n++[(D.v:Int)] }:=by
   have j:=h.ok.push;unfold SxD.push at j;rw [if_pos (by omega)] at j;exact ⟨h.ok.cl,h.ok.cu,h.ok.now,h.ok.xy,h.ok.wh,h.ok.m0,h.ok.fits,h.ok.pl,h.ok.pf,j.nl,j.nr,h.ok.v,h.ok.rep,h.ok.cmd⟩
  refine d.put u 11 { F with nq:=r } { D with n:=D.n++[(D.v:Int)] } (by decide) rfl rfl rfl (d.q.chg (Chg.of_grown B λk a=>a) λk a=>d.q_n k a) N (λk a=>.inl a) (λk a=>?_) y λO P=>?_
  ·rcases t with e | e
   ·exact .inl (e ▸ a)
   ·rw [e] at a;cases a;exact .inr (le_refl _)
  ·refine b _ _ O (A.trans P) ?_;unfold SxD.push;rw [if_pos (by omega)]
 ·have e:=oFq e;refine b F D w (SxT.refl h) ?_;unfold SxD.push;rw [if_neg (by omega)]
end
open IntKind (i64)
set_option maxRecDepth 400000
theorem mx (a b:Nat):(if (b:Int)>(a:Int) then (b:Int) else (a:Int))=((max a b:Nat):Int):=by
 split<;>omega
theorem m4 {W H k M:Nat} (h:4*W*H<=M) (hk:k<=H) (hM:M<=1073741824):i64.wrap (i64.wrap (4*(W:Int))*(k:Int))=((4*W*k:Nat):Int)\/W>16384:=by
 by_cases hW:W>16384
 ·exact .inr hW
 ·left;have a:4*W*k<=4*W*H:=Nat.mul_le_mul_left _ hk;rw [qM (x:=4*(W:Int)) (by omega)];have e:(4*(W:Int))*(k:Int)=((4*W*k:Nat):Int):=by simp
  rw [e,qM (by omega)]
theorem w4 {W H k M:Nat} (h:4*W*H<=M) (hk:k<=H) (hM:M<=1073741824) (hW:W<=16384):i64.wrap (i64.wrap (4*(W:Int))*(k:Int))=((4*W*k:Nat):Int):=(m4 h hk hM).resolve_right (by omega)
section
variable {w w':World} {base:Nat} {F F':SxF} {D D':SxD}
theorem q2r (h:SxM w base F D) (hf:D.full=false) {W0 H0:Nat} (hW:W0<=16384) (hH:H0<=16384) (h0:0<W0) (h1:0<H0) {K:Bool->Ub} (hK:∀F' w',SxT base w F F' (D.grow W0 H0).2 w'->K (D.grow W0 H0).1 w'):vX (some ⟨F.g,0,none⟩) (W0:Int) (H0:Int) w K:=by
 refine qgy _ _ _ ?_;simp only [onPtr_some];have ok:=h.ok;have hd:=h.drew;have md:=hd.m;refine lI (x:=(D.w:Int)) (md.tl 3 rfl) (lI (x:=(D.h:Int)) (md.tl 4 rfl) ?_);rw [mx W0 D.w,mx H0 D.h];obtain ⟨W,eW⟩:∃W,W=max W0 D.w:=⟨_,rfl⟩;obtain ⟨H,eH⟩:∃H,H=max H0 D.h:=⟨_,rfl⟩;have gk:=SxD.grow_ok ok hf hW hH h0 h1;have hg0:D.grow W0 H0=if W=D.w/\H=D.h then (true,D) else if 0<H/\(W:Int)>(D.most.tdiv 4).tdiv H then (false,{ D with full:=true,p:=[] }) else (true,{ D with w:=W,h:=H,p:=D.rows W (List.replicate (4*W*H) 0) D.h }):=by rw [eW,eH];rfl
 rw [<-eW,<-eH];have hW':W<=16384/\D.w<=W:=by have:=ok.wh;omega
 have hH':H<=16384/\D.h<=H/\0<H:=by have:=ok.wh;omega
 refine jpO λJ1 hJ1=>jpO λJ3 hJ3=>?_;have hm0:=ok.m0;obtain ⟨M,hM⟩:∃M:Nat,D.most=M:=⟨D.most.toNat,by omega⟩;have new:D.grow W0 H0=(true,{ D with w:=W,h:=H,p:=D.rows W (List.replicate (4*W*H) 0) D.h })->J1 () w.drew:=by
  intro hg;rw [hg] at gk hK;have ok2:=gk.1;dsimp only at ok2;have fit:4*W*H<=M:=by have:=ok2.fits;dsimp only at this;omega
  have fit0:4*D.w*D.h<=M:=by have:=ok.fits;omega
  have hMl:M<=1073741824:=by omega
  refine hJ1 _ _ ?_;refine qyc qN (x0:=0) rfl (n:=4*W*H) (w4 fit (le_refl _) hMl hW'.1) (w4 fit (le_refl _) hMl hW'.1) (by rw [jV];omega) (by simp [maxLen];omega) λw2 ho2 hB2=>?_;have t2:=hd.trans (SxT.of_ext md hB2);refine lI (x:=(D.h:Int)) (t2.m.tl 4 rfl) ?_;obtain ⟨B,hB⟩:∃B,B=w.drew.heap.size:=⟨_,rfl⟩;rw [<-hB] at ho2 ⊢;have hBlt:∀k,sxS F k->k<B:=λk hk=>by rw [hB];exact (md.below k hk).2
  refine lpR (λ(st:Int×Unit) w3=>∃k:Nat,st.1=k/\k<=D.h/\Go.Vc.Own qo w3 B ⟨some ⟨B,0,none⟩,4*W*H,4*W*H⟩ (D.rows W (List.replicate (4*W*H) 0) k)/\Chg (λj=>j=B) w2 w3) (λst=>D.h-st.1.toNat) ⟨0,rfl,zero_le _,ho2,Chg.refl _ _⟩ ?_;rintro ⟨i,u⟩ w3 ⟨k,hi,hk,ho3,hc3⟩ I hI;dsimp only at hi ⊢;subst hi;have m3:SxM w3 base F D:=t2.m.chg hc3 λk hk e=>by have:=hBlt k hk;omega
  have hlen:(D.rows W (List.replicate (4*W*H) 0) k).length=4*W*H:=SxD.rows_length (by simp) k (by omega);refine cO (λe=>?_) λe=>?_
  ·have e:=oTq e;have hk1:k<D.h:=by omega
   have z1:4*W*(k+1)<=4*W*H:=Nat.mul_le_mul_left _ (by omega);have z2:4*D.w*(k+1)<=4*D.w*D.h:=Nat.mul_le_mul_left _ (by omega);have z3:4*W*(k+1)=4*W*k+4*W:=by rw [Nat.mul_add,mul_one]
   have z4:4*D.w*(k+1)=4*D.w*k+4*D.w:=by rw [Nat.mul_add,mul_one]
   rw [w4 fit (show k<=H by omega) hMl hW'.1];refine ho3.rd.slK (l:=4*W*k) rfl (.inr rfl) (.inl ⟨rfl,rfl⟩) (by omega) (le_refl _) λ_=>?_;have m3d:=m3.drew.m;refine lSl (x:=F.q) (m3d.tl 5 rfl) (lI (x:=(D.w:Int)) (m3d.tl 3 rfl) (lI (x:=(D.w:Int)) (m3d.tl 3 rfl) ?_));have hpl:=ok.pl hf;rw [qM (x:=(k:Int)+1) (by have:=ok.wh;omega),w4 fit0 (show k<=D.h by omega) hMl ok.wh.1,show ((k:Int)+1)=((k+1:Nat):Int) by omega,w4 fit0 hk1 hMl ok.wh.1];refine m3d.q.rd.slK (l:=4*D.w*k) (m:=4*D.w*(k+1)) rfl (.inr rfl) (.inr rfl) (by omega) (by rw [hpl];omega) λhrow=>?_;have ho3d:=ho3.drew;obtain ⟨cur,hcur,hcl,hct,hc1,hc2',hc3',hc4'⟩:=qki (c:=0) ho3d (g:=B) rfl;have hcut:cut (some (⟨B,0,none⟩:Addr)) (4*W*k) (4*W*H) qo.k=some ⟨B,4*W*k,none⟩:=by
    unfold cut;rw [if_neg (by omega)];show some ((⟨B,0,none⟩:Addr).add (4*W*k*1))=_;rw [qC,mul_one,zero_add]
   dsimp only at hcl ⊢;rw [hcut];obtain ⟨row,hrw⟩:∃row,row=(D.p.take (4*D.w*(k+1))).drop (4*D.w*k):=⟨_,rfl⟩;rw [<-hrw] at hrow;have hrl:row.length=4*D.w:=by rw [hrw,List.length_drop,length_take,hpl];omega
   refine q3v (ys:=row) (n:=row.length) hcur hrow (by rw [hrl,hlen];omega) (by rw [hcl,hrl];omega) λw6 hb6 hc6 hs6=>?_;rw [List.take_length] at hb6;have ho6:=qpa (ys:=row) (k:=4*W*k) ho3d rfl hcur (by rw [hlen,hrl];omega) hb6;refine hI _ _ ⟨k+1,rfl,hk1,?_,(hc3.trans (Chg.of_ext (S:=λj=>j=B) (bdw w3)) λ_ _ h=>h).trans hc6 λ_ _ h=>h⟩ (by show D.h-((k+1:Nat):Int).toNat<D.h-((k:Nat):Int).toNat;omega);show Go.Vc.Own qo w6 B _ (zgi (D.rows W (List.replicate (4*W*H) 0) k) (4*W*k) _);rw [<-hrw];unfold zgi;rw [List.take_of_length_le (l:=row) (by rw [hlen,hrl];omega)];exact ho6
  ·have e:=oFq e;have:k=D.h:=by omega
   subst this;have t3:SxT base w F F D w3:=⟨m3,λk hk=>.inl hk,(t2.chg.trans hc3 λi hi e=>by have hz:w.drew.heap.size=w.heap.size:=rfl;omega),rfl⟩;have okw:=ok2;rw [qC,qC,qC];have hl3:=m3.len;refine qD m3.blk (by rw [hl3];show 0+773+1<=784;omega) λw5 hb5 hg5 hs5=>?_;refine qD hb5 (by rw [vL,hl3];show 0+774+1<=784;omega) λw6 hb6 hg6 hs6=>?_;refine qD hb6 (by rw [vL,vL,hl3];show 0+775+1<=784;omega) λw7 hb7 hg7 hs7=>?_;have c57:Chg (λk=>k=F.g) w3 w7:=((Go.Vc.Chg.gg hg5).trans (Go.Vc.Chg.gg hg6) λi _ hi=>hi).trans (Go.Vc.Chg.gg hg7) λi _ hi=>hi;have hB3:B≠F.g:=λe=>by have:=hBlt F.g (.inl rfl);omega
   have ho7:=ho3.chg c57 λk hk e=>by cases hk;exact hB3 e
   have hbase:base<=B:=by rw [hB];exact md.base_le
   refine hK { F with q:=⟨some ⟨B,0,none⟩,4*W*H,4*W*H⟩ } w7 ⟨⟨?_,h.hg,ho7.base hbase,m3.nq.chg c57 m3.n_g,okw⟩,?_,t3.chg.trans c57 λi _ e=>.inl e,rfl⟩
   ·have e7:putL (putL (putL (sxC F D) (0+773) [.int .i64 (W:Int)]) (0+774) [.int .i64 (H:Int)]) (0+775) [.slice (some ⟨B,0,none⟩) (4*W*H) (4*W*H)]=sxC { F with q:=⟨some ⟨B,0,none⟩,4*W*H,4*W*H⟩ } { D with w:=W,h:=H,p:=D.rows W (List.replicate (4*W*H) 0) D.h }:=by
     have l0:=yc ok.cl;show (((sxH D++sxT F D).set (0+773) _).set (0+774) _).set (0+775) _=_;rw [set_append_right _ _ (by rw [l0];omega),set_append_right _ _ (by rw [l0];omega),set_append_right _ _ (by rw [l0];omega),l0];rfl
    rw [<-e7];exact hb7
   ·rintro k (hk | hk | hk)
    ·exact .inl (.inl hk)
    ·cases hk;right;rw [hB];exact le_refl _
    ·exact .inl (.inr (.inr hk))
 have key:∀b:Bool,(b=true↔(W=D.w/\H=D.h))->J3 (b,()) w.drew:=by
  intro b hb;refine hJ3 _ _ (cO (λe=>?_) λe=>?_)
  ·have:D.grow W0 H0=(true,D):=by rw [hg0,if_pos (hb.1 e)]
   rw [this] at hK;exact hK F _ hd
  ·have hne:¬(W=D.w/\H=D.h):=λhh=>by rw [hb.2 hh] at e;cases e
   refine jpO λJ4 hJ4=>?_;refine cT (dTq (by omega)) (lI (x:=D.most) (by rw [qC];exact md.blk.cell (0+1) rfl) ⟨by decide,by omega,?_⟩);have ediv:i64.wrap ((i64.wrap (D.most.tdiv 4)).tdiv (H:Int))=(D.most.tdiv 4).tdiv (H:Int):=by
    rw [hM,show ((M:Int).tdiv 4)=((M/4:Nat):Int) from (by rw [show (4:Int)=((4:Nat):Int) from rfl,<-Int.ofNat_tdiv])];rw [qM (x:=((M/4:Nat):Int)) (by omega),<-Int.ofNat_tdiv];have hle:=Nat.div_le_self (M/4) H;generalize M/4/H=q at hle ⊢;exact qM (by omega)
   rw [ediv];refine hJ4 _ _ (cO (λe=>?_) λe=>?_)
   ·have e:=oTq e;have hg:D.grow W0 H0=(false,{ D with full:=true,p:=[] }):=by rw [hg0,if_neg hne,if_pos ⟨hH'.2.2,e⟩]
    rw [hg] at hK gk;have l0:=yc ok.cl;rw [qC,qC];refine qD md.blk (by rw [md.len];show 0+778+1<=784;omega) λw5 hb5 hg5 hs5=>?_;refine qD hb5 (by rw [vL,md.len];show 0+775+1<=784;omega) λw6 hb6 hg6 hs6=>?_;have c56:Chg (λk=>k=F.g) w.drew w6:=(Go.Vc.Chg.gg hg5).trans (Go.Vc.Chg.gg hg6) λi _ hi=>hi;refine hK { F with q:=⟨none,0,0⟩ } w6 ⟨⟨?_,h.hg,Go.Vc.Own.nil _ _ _,md.nq.chg c56 md.n_g,gk.1⟩,?_,hd.chg.trans c56 λi _ e=>.inl e,rfl⟩
    ·have e7:putL (putL (sxC F D) (0+778) [.bool true]) (0+775) vx=sxC { F with q:=⟨none,0,0⟩ } { D with full:=true,p:=[] }:=by
      show ((sxH D++sxT F D).set (0+778) _).set (0+775) _=_;rw [set_append_right _ _ (by rw [l0];omega),set_append_right _ _ (by rw [l0];omega),l0];rfl
     rw [<-e7];exact hb6
    ·rintro k (hk | hk | hk)
     ·exact .inl (.inl hk)
     ·cases hk
     ·exact .inl (.inr (.inr hk))
   ·have e:=oFq e;exact new (by rw [hg0,if_neg hne,if_neg (λhh=>e hh.2)])
 refine lI (x:=(D.w:Int)) (md.tl 3 rfl) (cO (λe=>?_) λe=>?_)
 ·have e:(W:Int)=(D.w:Int):=eq_of_beq e;refine lI (x:=(D.h:Int)) (md.tl 4 rfl) (key _ ⟨λe2=>⟨by omega,by have:=eq_of_beq e2;omega⟩,λhh=>by rw [hh.2];exact beq_self_eq_true _⟩)
 ·exact key false ⟨(λe2=>by cases e2),λhh=>by rw [hh.1,beq_self_eq_true] at e;cases e⟩
end
open IntKind (i64)
set_option maxRecDepth 400000
theorem zl9:((List.range 64).all λv=>(List.range 6).all λk=>((jN .and .i64 ((v:Int).fdiv (2^(min (k:Int).toNat IntKind.i64.bits))) 1)==(if v.testBit k then 1 else 0)))=true:=by kernel_rfl
theorem zc1 {v k:Nat} (hv:v<64) (hk:k<6):jN .and .i64 ((v:Int).fdiv (2^(min (k:Int).toNat IntKind.i64.bits))) 1=if SxD.bit v k then 1 else 0:=by
 have h:=List.all_eq_true.1 (List.all_eq_true.1 zl9 v (List.mem_range.2 hv)) k (List.mem_range.2 hk);exact eq_of_beq h
theorem zhv {D:SxD} {v n:Nat} (hn:1<=n):∀k,(D.ask v n k).1<=16384/\(D.ask v n k).2<=16384/\(0<(D.ask v n k).2->0<(D.ask v n k).1)/\((D.ask v n k).2=0->(D.ask v n k).1=0)/\(∀j,j<k->SxD.bit v j=true->D.y+j<16384->D.x<16384->D.y+j<(D.ask v n k).2)
 | 0=>⟨zero_le _,zero_le _,λh=>absurd h (Nat.lt_irrefl _),λ_=>rfl,λj a=>absurd a (Nat.not_lt_zero _)⟩
 | k+1=>by
  obtain ⟨g,i,l,m,o⟩:=zhv hn k;unfold SxD.ask;split
  ·refine ⟨by show min _ _<=_;omega,by show D.y+k+1<=_;omega,λ_=>by show 0<min _ _;omega,λf=>by have f:=f;omega,λj a b c d=>by show D.y+j<D.y+k+1;omega⟩
  ·rename_i e;refine ⟨g,i,l,m,λj a b c d=>?_⟩;by_cases hjk:j=k
   ·subst hjk;exact absurd ⟨b,c,d⟩ e
   ·exact o j (by omega) b c d
theorem mn (a b:Nat):(if (b:Int)<(a:Int) then (b:Int) else (a:Int))=((min a b:Nat):Int):=by
 split<;>omega
section
variable {w w':World} {base:Nat} {F F':SxF} {D D':SxD}
theorem qox (h:SxM w base F D) {k:Nat} (hk:k<256):qG w ((⟨F.g,0,none⟩:Addr).add (2+k*3)) [.int .u8 (D.cols[3*k]?.getD 0),.int .u8 (D.cols[3*k+1]?.getD 0),.int .u8 (D.cols[3*k+2]?.getD 0)]:=by
 have d:=h.ok.cl;have b:∀j,j<3->(sxC F D)[2+k*3+j]?=some (.int .u8 (D.cols[3*k+j]?.getD 0)):=by
  intro j e;have c:3*k+j<D.cols.length:=by omega
  unfold sxC sxH;rw [List.append_assoc,List.getElem?_append_right (by show 2<=_;omega),show 2+k*3+j-([.bool D.clear,.int .i64 D.most]:List Value).length=3*k+j by show 2+k*3+j-2=_;omega,List.getElem?_append_left (by rw [length_map];exact c),List.getElem?_map,List.getElem?_eq_getElem c];rfl
 intro j u a;rw [qC]
 match j,a with
 | 0,a=>cases a;exact h.blk.cell _ (by simpa using b 0 (by omega))
 | 1,a=>cases a;exact h.blk.cell _ (by simpa using b 1 (by omega))
 | 2,a=>cases a;exact h.blk.cell _ (by simpa using b 2 (by omega))
 | j+3,a=>simp at a
theorem q4n (ok:SxOk D) (i:Nat):0<=D.cols[i]?.getD 0/\D.cols[i]?.getD 0<=255:=by
 cases hi:D.cols[i]? with
 | none=>exact ⟨Int.le_refl _,by show (0:Int)<=_;omega⟩
 | some c=>exact ok.cu c (List.mem_of_getElem? hi)
theorem q35 (ok:SxOk D):jT D.pix=[.int .u8 (D.cols[3*D.now]?.getD 0),.int .u8 (D.cols[3*D.now+1]?.getD 0),.int .u8 (D.cols[3*D.now+2]?.getD 0),.int .u8 255]:=by
 have e:∀c:Int,0<=c/\c<=255->((UInt8.ofNat c.toNat).toNat:Int)=c:=λc f=>by
  rw [UInt8.toNat_ofNat'];omega
 have a:=e _ (q4n ok (3*D.now));have b:=e _ (q4n ok (3*D.now+1));have d:=e _ (q4n ok (3*D.now+2));show [Value.int .u8 _,.int .u8 _,.int .u8 _,.int .u8 _]=_;rw [a,b,d];rfl
theorem zd0 (h:SxM w base F D) (hf:D.full=false) {v n W:Nat} (hv:v<64) (hn:1<=n/\n<=65535) (hW:W<=D.w) (hr:∀j,j<6->SxD.bit v j=true->D.y+j<16384->D.y+j<D.h\/W<=D.x) {K:Ub}
  (hK:∀w',SxT base w F F { D with p:=D.dots v W D.p 6,x:=min (D.x+n) 1048576 } w'->K w') {c:Nat} (hcb:Blk w c zV [.int .u8 (D.cols[3*D.now]?.getD 0),.int .u8 (D.cols[3*D.now+1]?.getD 0),.int .u8 (D.cols[3*D.now+2]?.getD 0)]) :
  zh (σ:=Int×Unit) (λI5 s_4 w7=>
       cond (decide (s_4.1<6))
        (qW (λw8=>
         gI (some ⟨F.g,0,none⟩) 771 w8 λt100=>
         zh (σ:=Int×Unit) (λI7 s_6 w9=>
          cond (decide (s_6.1<(W:Int)))
           (
            qH (some ⟨F.g,0,none⟩) λt107=>
            zW (t107.add 775) w9.drew λt109=>
            qH (some ⟨F.g,0,none⟩) λt111=>
            ldI .i64 (t111.add 772) w9.drew λt113=>
            qH (some ⟨F.g,0,none⟩) λt117=>
            ldI .i64 (t117.add 773) w9.drew λt119=>
            slK t109 (some (IntKind.i64.wrap (4*(IntKind.i64.wrap ((IntKind.i64.wrap ((IntKind.i64.wrap (t113+s_4.1))*t119))+s_6.1))))) none 1 λt124=>
            ixA ⟨c,0,none⟩ 3 0 1 λt125=>
            ldI .u8 t125 w9.drew λt126=>
            ixA ⟨c,0,none⟩ 3 1 1 λt127=>
            ldI .u8 t127 w9.drew λt128=>
            ixA ⟨c,0,none⟩ 3 2 1 λt129=>
            ldI .u8 t129 w9.drew λt130=>
            nw qF [(.int .u8 t126),(.int .u8 t128),(.int .u8 t130),(.int .u8 255)] w9.drew λt131 w10=>
            w10.cell? (t117.add 773)=some (Ua t119) /\
            w10.cell? (t111.add 772)=some (Ua t113) /\
            w10.cell? (t107.add 775)=some (.slice t109.a t109.n t109.c) /\
            zO PG (copy_ #[qj,qj] zJ #[(.slice t124.a t124.n t124.c),(.slice (some t131) 4 4)]) (Kind.int .i64) w10 λ(t132:Int) w11 =>
            I7 ((IntKind.i64.wrap (s_6.1+1)),()) w11)
           (I5 ((IntKind.i64.wrap (s_4.1+1)),()) w9)) (t100,()) w8) λJ6=>
        0<=s_4.1 /\
        nmI ((v:Int).fdiv (2^(min s_4.1.toNat IntKind.i64.bits))) λt85=>
        cond ((jN .and .i64 t85 1)==0)
         (I5 ((IntKind.i64.wrap (s_4.1+1)),()) w7)
         (
          gI (some ⟨F.g,0,none⟩) 772 w7 λt92=>
          cond (decide ((IntKind.i64.wrap (t92+s_4.1))>=16384))
           (I5 ((IntKind.i64.wrap (s_4.1+1)),()) w7)
           (J6 w7)))
        (
        gI (some ⟨F.g,0,none⟩) 771 w7 λt138=>
        nmI (if 1048576<(IntKind.i64.wrap (t138+(n:Int))) then 1048576 else (IntKind.i64.wrap (t138+(n:Int)))) λt141=>
        gT (some ⟨F.g,0,none⟩) 771 [(Ua t141)] w7 λw12=>
        K w12)) (0,()) w:=by
 have ok:=h.ok;have hpl:=ok.pl hf;have oxy:=ok.xy;have owh:=ok.wh;have ofit:4*D.w*D.h<=1073741824:=by have:=ok.fits;have:=ok.m0;omega
 have cne:∀k,F.q.blk=some k->k≠c:=qI h.q hcb (by decide);refine lpR (λ(st:Int×Unit) w7=>∃k:Nat,st.1=k/\k<=6/\Go.Vc.Own qo w7 base F.q (D.dots v W D.p k)/\Chg (λj=>F.q.blk=some j) w w7) (λst=>6-st.1.toNat) ⟨0,rfl,by omega,h.q,Chg.refl _ _⟩ ?_;rintro ⟨i,u⟩ w7 ⟨k,hi,hk,ho7,hc7⟩ I5 hI5;dsimp only at hi ⊢;subst hi;have cell:∀{w9:World} (i:Nat) {x:Value},Chg (λj=>F.q.blk=some j) w w9->(sxT F D)[i]?=some x->w9.cell? ((⟨F.g,0,none⟩:Addr).add (770+i))=some x:=λ{w9} i {x} hc hv=>by
  have hb9:Blk w9 F.g y1 (sxC F D):=h.blk.chg hc λhk=>h.q_g _ hk rfl;rw [qC,zero_add];refine hb9.cell (770+i) ?_;unfold sxC;rw [List.getElem?_append_right (by rw [yc ok.cl];omega),yc ok.cl,Nat.add_sub_cancel_left];exact hv
 have next:∀(w9:World) (k':Nat),k'=k+1->k<6->Go.Vc.Own qo w9 base F.q (D.dots v W D.p k')->Chg (λj=>F.q.blk=some j) w w9->I5 (i64.wrap ((k:Int)+1),()) w9:=by
  intro w9 k' ek hk6 ho hc;rw [qM (by omega)];exact hI5 _ _ ⟨k',by rw [ek];simp,by omega,ho,hc⟩ (by show 6-((k:Int)+1).toNat<6-((k:Nat):Int).toNat;omega)
 refine cO (λe=>?_) λe=>?_
 ·have e:=oTq e;have hk6:k<6:=by omega
  refine jpO λJ6 hJ6=>⟨by omega,?_⟩;show cond ((jN .and .i64 ((v:Int).fdiv (2^(min (k:Int).toNat IntKind.i64.bits))) 1)==0) _ _;rw [zc1 hv hk6];have dstep:D.dots v W D.p (k+1)=if SxD.bit v k=true/\D.y+k<16384 then D.dotsR (D.dots v W D.p k) (D.y+k) (W-D.x) else D.dots v W D.p k:=rfl
  cases hb:SxD.bit v k with
  | false =>
   refine cT rfl (next w7 (k+1) rfl hk6 ?_ hc7);rw [dstep,if_neg (λhh=>by rw [hb] at hh;cases hh.1)];exact ho7
  | true =>
   refine cF rfl ?_;simp only [onPtr_some];refine lI (x:=(D.y:Int)) (cell 2 hc7 rfl) ?_;rw [qM (x:=(D.y:Int)+(k:Int)) (by omega)];refine cO (λe=>?_) λe=>?_
   ·have e:=oTq e;refine next w7 (k+1) rfl hk6 ?_ hc7;rw [dstep,if_neg (λhh=>by omega)];exact ho7
   ·have e:=oFq e;have hy:D.y+k<16384:=by omega
    rw [if_pos ⟨hb,hy⟩] at dstep;refine hJ6 _ _ ?_;have hl7:(D.dots v W D.p k).length=4*D.w*D.h:=SxD.dots_length hpl hW k λj hj=>hr j (by omega);refine lI (x:=(D.x:Int)) (cell 1 hc7 rfl) ?_;refine lpR (λ(st:Int×Unit) w9=>∃j:Nat,st.1=(D.x+j:Nat)/\j<=W-D.x/\Go.Vc.Own qo w9 base F.q (D.dotsR (D.dots v W D.p k) (D.y+k) j)/\Chg (λj=>F.q.blk=some j) w w9) (λst=>W-st.1.toNat) ⟨0,rfl,zero_le _,ho7,hc7⟩ ?_;rintro ⟨i2,u2⟩ w9 ⟨j,hi2,hj,ho9,hc9⟩ I7 hI7;dsimp only at hi2 ⊢;subst hi2;refine cO (λe=>?_) λe=>?_
    ·have e:=oTq e;have hjn:j<W-D.x:=by omega
     have hyH:D.y+k<D.h:=(hr k hk6 hb hy).resolve_right (by omega);have hl9:=SxD.dotsR_length hl7 hyH j (by omega);have hin:=qrc (W:=D.w) (H:=D.h) (x:=D.x+j) (y:=D.y+k) (by omega) hyH;have hc9d:Chg (λj=>F.q.blk=some j) w w9.drew:=hc9.trans (Chg.of_ext (S:=λj=>F.q.blk=some j) (bdw w9)) λ_ _ h=>h;refine lSl (x:=F.q) (cell 5 hc9d rfl) (lI (x:=(D.y:Int)) (cell 2 hc9d rfl) (lI (x:=(D.w:Int)) (cell 3 hc9d rfl) ?_));have eidx:i64.wrap (4*i64.wrap (i64.wrap (i64.wrap ((D.y:Int)+(k:Int))*(D.w:Int))+((D.x+j:Nat):Int)))=((4*((D.y+k)*D.w+(D.x+j)):Nat):Int):=by
      rw [qM (x:=(D.y:Int)+(k:Int)) (by omega)];have e1:((D.y:Int)+(k:Int))*(D.w:Int)=(((D.y+k)*D.w:Nat):Int):=by simp
      rw [e1];generalize (D.y+k)*D.w=q at hin ⊢;rw [qM (x:=((q:Nat):Int)) (by omega),qM (x:=((q:Nat):Int)+((D.x+j:Nat):Int)) (by omega),qM (by omega)];omega
     rw [eidx];obtain ⟨o,hoo⟩:∃o,o=4*((D.y+k)*D.w+(D.x+j)):=⟨_,rfl⟩;rw [<-hoo] at hin ⊢;have ho5:=ho9.drew;refine ho5.rd.slK (l:=o) rfl (.inr rfl) (.inl ⟨rfl,rfl⟩) (by omega) (le_refl _) λ_=>?_;have hcc:Blk w9.drew c zV _:=hcb.chg hc9d λhk=>cne _ hk rfl;refine ⟨⟨by decide,by decide⟩,?_⟩;refine lI (x:=D.cols[3*D.now]?.getD 0) (by rw [qC];exact hcc.cell 0 rfl) ⟨⟨by decide,by decide⟩,?_⟩;refine lI (x:=D.cols[3*D.now+1]?.getD 0) (by rw [qC];exact hcc.cell 1 rfl) ⟨⟨by decide,by decide⟩,?_⟩;refine lI (x:=D.cols[3*D.now+2]?.getD 0) (by rw [qC];exact hcc.cell 2 rfl) ?_;refine nwb λw10 hb10 hB10 hs10=>?_;have hc10:Chg (λj=>F.q.blk=some j) w w10:=hc9d.trans (Chg.of_ext (S:=λj=>F.q.blk=some j) hB10) λ_ _ h=>h;refine ⟨cell 3 hc10 rfl,cell 2 hc10 rfl,cell 5 hc10 rfl,?_⟩;rw [<-q35 ok] at hb10;have hx:Rd qo w10 ⟨some ⟨w9.drew.heap.size,0,none⟩,4,4⟩ D.pix:=by
      refine ⟨rfl,le_refl _,by simp [maxLen],λ_=>rfl,λi y hy=>?_⟩;have hbc:=hb10.cell i (v:=.int .u8 (y.toNat:Int)) (by unfold jT;rw [List.getElem?_map,hy];rfl);intro j' v' hj'
      match j',hj' with
      | 0,hj' =>
       cases hj';show w10.cell? (((⟨w9.drew.heap.size,0,none⟩:Addr).add (i*1)).add 0)=_;rw [qC,qC,mul_one,zero_add,Nat.add_zero];exact hbc
      | j'+1,hj'=>simp [qo] at hj'
     have ho10:=ho5.ext hB10;obtain ⟨gq,ha⟩:∃gq,F.q.a=some ⟨gq,0,none⟩:=by
      rcases ho10.form with ⟨_,e0⟩ | ⟨g,cur,hs,_⟩
      ·rw [e0] at hl9;exfalso;have h0:(0:Nat)=4*D.w*D.h:=hl9;omega
      ·exact ⟨g,by rw [hs]⟩
     obtain ⟨cur,hcur,hcl,hct,hc1,hc2',hc3',hc4'⟩:=qki (c:=0) ho10 ha;have hcut:cut F.q.a o F.q.c qo.k=some ⟨gq,o,none⟩:=by
      unfold cut;rw [if_neg (by omega),ha];show some ((⟨gq,0,none⟩:Addr).add (o*1))=_;rw [qC,mul_one,zero_add]
     dsimp only;rw [hcut];refine q3v (x:=⟨some ⟨w9.drew.heap.size,0,none⟩,4,4⟩) (ys:=D.pix) (n:=4) hcur hx (by rw [D.pix_length];omega) (by omega) λw11 hb11 hc11 hs11=>?_;have ho11:=qpa (ys:=D.pix) (k:=o) ho10 ha hcur (by rw [D.pix_length];omega) hb11;rw [qM (x:=((D.x+j:Nat):Int)+1) (by omega)];refine hI7 _ _ ⟨j+1,by simp;omega,by omega,?_,hc10.trans hc11 λk' _ e=>by rw [e];show F.q.a.map (·.block)=some gq;rw [ha];rfl⟩ (by show W-(((D.x+j:Nat):Int)+1).toNat<W-((D.x+j:Nat):Int).toNat;omega);show Go.Vc.Own qo w11 base F.q (qlv (D.dotsR (D.dots v W D.p k) (D.y+k) j) (4*((D.y+k)*D.w+(D.x+j))) D.pix);rw [<-hoo];unfold qlv;exact ho11
    ·have e:=oFq e;have:j=W-D.x:=by omega
     subst this;exact next w9 (k+1) rfl hk6 (by rw [dstep];exact ho9) hc9
 ·have e:=oFq e;have:k=6:=by omega
  subst this;simp only [onPtr_some];refine lI (x:=(D.x:Int)) (cell 1 hc7 rfl) ?_;rw [qM (x:=(D.x:Int)+(n:Int)) (by omega),show ((D.x:Int)+(n:Int))=((D.x+n:Nat):Int) by omega,show (1048576:Int)=((1048576:Nat):Int) from rfl,mn];have hl7:(D.dots v W D.p 6).length=4*D.w*D.h:=SxD.dots_length hpl hW 6 hr;exact h.put (hc7.mono λk _ e=>.inl e) 1 F { D with p:=D.dots v W D.p 6,x:=min (D.x+n) 1048576 } (by decide) rfl rfl rfl ho7 (h.nq.chg hc7 λk hk hk2=>h.q_n k hk2 hk) (λk hk=>.inl hk) (λk hk=>.inl hk)
   ⟨ok.cl,ok.cu,ok.now,⟨by show min _ _<=_;omega,ok.xy.2⟩,ok.wh,ok.m0,ok.fits,(λ_=>hl7),(λe=>by rw [hf] at e;cases e),ok.nl,ok.nr,ok.v,ok.rep,ok.cmd⟩ hK
end
open IntKind (i64)
set_option maxRecDepth 400000
theorem zff (D:SxD) (a b:Nat):(D.grow a b).2.y=D.y/\(D.grow a b).2.x=D.x/\(D.grow a b).2.cols=D.cols/\(D.grow a b).2.now=D.now/\(D.grow a b).2.drawn=D.drawn:=by
 unfold SxD.grow;dsimp only;split
 ·exact ⟨rfl,rfl,rfl,rfl,rfl⟩
 ·split<;>exact ⟨rfl,rfl,rfl,rfl,rfl⟩
section
variable {w w':World} {base:Nat} {F F':SxF} {D D':SxD}
theorem zbh (h:SxM w base F D) (hf:D.full=false) {v n:Nat} (hv:v<64) (hn:1<=n/\n<=65535) {K:Ub} (hK:∀F' w',SxT base w F F' (D.sixel v n) w'->K w'):Q1 (some ⟨F.g,0,none⟩) (v:Int) (n:Int) w K:=by
 refine qfz _ _ _ ?_;have ok:=h.ok;have ai:=ok.xy;refine lpR (λ(O:Int×Int×Int×Unit) w1=>∃k:Nat,O.1=((D.ask v n k).1:Nat)/\O.2.1=((D.ask v n k).2:Nat)/\O.2.2.1=k/\k<=6/\SxT base w F F D w1) (λO=>6-O.2.2.1.toNat) ⟨0,rfl,rfl,rfl,by omega,SxT.refl h⟩ ?_;rintro ⟨a1,a2,i,u⟩ w1 ⟨k,h1,h2,U,V,L⟩ I1 hI1;dsimp only at h1 h2 U ⊢;subst h1 h2 U;have P:=L.m;refine cO (λe=>?_) λe=>?_
 ·have e:=oTq e;have X:k<6:=by omega
  refine jpO λJ2 Y=>⟨by omega,?_⟩;have step:D.ask v n (k+1)=if SxD.bit v k=true/\D.y+k<16384/\D.x<16384 then (min (D.x+n) 16384,D.y+k+1) else D.ask v n k:=rfl
  have B:∀(b:Bool),(b=true↔(SxD.bit v k=true/\D.y+k<16384/\D.x<16384))->J2 (b,()) w1:=by
   intro b q;refine Y _ _ (cO (λe=>?_) λe=>?_)
   ·have o:=q.1 e;rw [if_pos o] at step;have C:=L.trans P.drew;simp only [onPtr_some];refine lI (x:=(D.x:Int)) (C.m.tl 1 rfl) (lI (x:=(D.y:Int)) (C.m.tl 2 rfl) ?_);rw [qM (x:=(D.x:Int)+(n:Int)) (by omega),show ((D.x:Int)+(n:Int))=((D.x+n:Nat):Int) by omega,show (16384:Int)=((16384:Nat):Int) from rfl,mn,qM (x:=(D.y:Int)+(k:Int)) (by omega),qM (x:=(D.y:Int)+(k:Int)+1) (by omega),qM (x:=(k:Int)+1) (by omega)];refine hI1 _ _ ⟨k+1,by rw [step],by rw [step];simp,by simp,by omega,C⟩ (by show 6-((k:Int)+1).toNat<6-((k:Nat):Int).toNat;omega)
   ·have o:¬_:=λo=>by rw [q.2 o] at e;cases e
    rw [if_neg o] at step;rw [qM (x:=(k:Int)+1) (by omega)];exact hI1 _ _ ⟨k+1,by rw [step],by rw [step],by simp,by omega,L⟩ (by show 6-((k:Int)+1).toNat<6-((k:Nat):Int).toNat;omega)
  show cond ((jN .and .i64 ((v:Int).fdiv (2^(min (k:Int).toNat IntKind.i64.bits))) 1)==1) _ _;rw [zc1 hv X];cases q:SxD.bit v k with
  | false=>exact cF rfl (B false ⟨(λe=>by cases e),λo=>by rw [q] at o;exact absurd o.1 (by decide)⟩)
  | true =>
   refine cT rfl ?_;simp only [onPtr_some];refine lI (x:=(D.y:Int)) (P.tl 2 rfl) ?_;rw [qM (x:=(D.y:Int)+(k:Int)) (by omega)];refine cO (λe=>?_) λe=>?_
   ·have e:=oTq e;refine lI (x:=(D.x:Int)) (P.tl 1 rfl) (B _ ⟨λZ=>⟨q,by omega,by have:=oTq Z;omega⟩,λo=>dTq (by omega)⟩)
   ·have e:=oFq e;exact B false ⟨(λZ=>by cases Z),λo=>by omega⟩
 ·have e:=oFq e;have:k=6:=by omega
  subst this;obtain ⟨l1,l2,l3,l4,l5⟩:=zhv (D:=D) (v:=v) hn.1 6;obtain ⟨A,hA⟩:∃A,A=D.ask v n 6:=⟨_,rfl⟩;have l:D.sixel v n=(let r:=if 0<A.2 then D.grow A.1 A.2 else (true,D);if r.1=false then r.2 else ({ ({ r.2 with drawn:=r.2.drawn || decide (0<A.2) }:SxD) with p:=({ r.2 with drawn:=r.2.drawn || decide (0<A.2) }:SxD).dots v A.1 r.2.p 6,x:=min (r.2.x+n) 1048576 }:SxD)):=by rw [hA];rfl
  rw [<-hA] at l1 l2 l3 l4 l5 ⊢;refine jpO λJ3 aa=>?_;have s:∀(f:SxF) (E:SxD) (M:World),SxT base w F f E M->E.full=false->A.1<=E.w->(∀j,j<6->SxD.bit v j=true->E.y+j<16384->E.y+j<E.h\/A.1<=E.x) ->
    D.sixel v n={ ({ E with drawn:=E.drawn || decide (0<A.2) }:SxD) with p:=({ E with drawn:=E.drawn || decide (0<A.2) }:SxD).dots v A.1 E.p 6,x:=min (E.x+n) 1048576 }->J3 () M:=by
   intro f E M G ab hW hr he;refine aa _ _ ?_;have W:=G.m;rw [<-G.g];refine jpO λJ4 ac=>?_;obtain ⟨d,c⟩:∃d:SxD,d={ E with drawn:=E.drawn || decide (0<A.2) }:=⟨_,rfl⟩;have a:=W.ok;have H:SxOk d:=by rw [c];exact ⟨a.cl,a.cu,a.now,a.xy,a.wh,a.m0,a.fits,a.pl,a.pf,a.nl,a.nr,a.v,a.rep,a.cmd⟩
   have t:∀w4,SxT base w F f d w4->J4 () w4:=by
    intro w4 N;refine ac _ _ ?_;have I:=N.trans N.m.drew;have m4:=I.m;simp only [onPtr_some];refine lI (x:=(d.now:Int)) (m4.tl 0 rfl) ?_;have z:=H.now;refine ⟨⟨by omega,by omega⟩,?_⟩;have ea:((⟨f.g,0,none⟩:Addr).add 2).add (((d.now:Nat):Int).toNat*3)=(⟨f.g,0,none⟩:Addr).add (2+d.now*3):=by rw [qC,qC,qC];simp
    rw [ea];have Q:=qox m4 z;refine qz (r:=qV.rep) (x:=⟨d.cols[3*d.now]?.getD 0,d.cols[3*d.now+1]?.getD 0,d.cols[3*d.now+2]?.getD 0⟩) Q ?_;refine nwb λw5 ad R aj=>?_;have t5:=I.trans (SxT.of_ext m4 R);have J:=qox t5.m z;refine ⟨J,t5.m.tl 0 rfl,?_⟩;refine qD ad (by show 0+3<=3;omega) λw6 ae af ak=>?_;have T:=Go.Vc.Chg.gg af;have ah:SxT base w4.drew f f d w6:=⟨t5.m.chg T λk V e=>by have:=(m4.below k V).2;omega,λk V=>.inl V,(Chg.of_ext (S:=sxS f) R).trans T λi U e=>absurd U (by rw [e];exact Nat.lt_irrefl _),rfl⟩;have t6:=I.trans ah;refine zd0 t6.m (by rw [c];exact ab) hv hn (by rw [c];exact hW) (by rw [c];exact hr) (λw7 t7=>hK f w7 ?_) ae;rw [he];have:=t6.trans t7;rw [c] at this;exact this
   simp only [onPtr_some];refine jw (x:=E.drawn) (W.tl 6 rfl) (cO (λe=>?_) λe=>?_)
   ·have e:E.drawn=true:=e;refine W.st 6 d (by decide) (by rw [c,e];rfl) (by rw [c];rfl) (by rw [c]) (by rw [c]) H λw4 N=>t w4 (G.trans N)
   ·have e:E.drawn=false:=e;refine W.st 6 d (by decide) (by rw [c,e];simp [sxT]) (by rw [c];rfl) (by rw [c]) (by rw [c]) H λw4 N=>t w4 (G.trans N)
  refine cO (λe=>?_) λe=>?_
  ·have e:0<A.2:=by have:=oTq e;omega
   rw [if_pos e] at l;have gk:=zff D A.1 A.2;have go:=SxD.grow_ok P.ok hf l1 l2 (l3 e) e;refine q2r P hf l1 l2 (l3 e) e λf M G=>?_;cases hg:(D.grow A.1 A.2).1 with
   | false =>
    refine cT rfl (hK f M ?_);rw [l];dsimp only;rw [if_pos hg];exact L.trans G
   | true =>
    refine cF rfl (s f _ M (L.trans G) (go.2 hg).1 (go.2 hg).2.1 (λj hj q hy=>?_) ?_)
    ·rw [gk.1] at hy ⊢;rw [gk.2.1];by_cases hx:D.x<16384
     ·left;have:=l5 j hj q hy hx;have:=(go.2 hg).2.2;omega
     ·right;omega
    ·rw [l];dsimp only;rw [if_neg (by rw [hg];decide)]
  ·have e:¬0<A.2:=by have:=oFq e;omega
   rw [if_neg e] at l;refine s F D w1 L hf (by rw [l4 (by omega)];exact zero_le _) (λj hj q hy=>.inr (by rw [l4 (by omega)];exact zero_le _)) ?_;rw [l];dsimp only;rw [if_neg (by decide)]
end
open IntKind (i64)
set_option maxRecDepth 400000
def zpd (v:Int):Int:=u8.wrap (i64.wrap ((i64.wrap (i64.wrap (v*255)+50)).tdiv 100))
def kT (v:Int):Int×Bool:=if v<0\/v>100 then (0,false) else (zpd v,true)
theorem q4m (x:Int):0<=u8.wrap x/\u8.wrap x<=255:=by
 have h:u8.wrap x=x%256:=rfl;omega
theorem qo0 (v:Int):0<=(kT v).1/\(kT v).1<=255:=by
 unfold kT;split
 ·exact ⟨Int.le_refl _,by show (0:Int)<=_;omega⟩
 ·exact q4m _
theorem Zy {w:World} (v:Int) {K:Int->Bool->Ub} (hK:K (kT v).1 (kT v).2 w):vG v w K:=by
 refine qq7 _ ?_;unfold kT at hK;refine jpO λJ b=>?_;refine cO (λe=>?_) λe=>?_
 ·rw [if_pos (.inl (oTq e))] at hK;exact hK
 ·refine cO (λa=>?_) λa=>?_
  ·rw [if_pos (.inr (oTq a))] at hK;exact hK
  ·have e:=oFq e;have a:=oFq a;rw [if_neg (by omega)] at hK;exact b _ _ ⟨by decide,hK⟩
theorem V8 {w:World} {o t:Nat} {z0 z1 z2:Value} {E0 E1 E2:Int} (ho:Blk w o zt [z0,z1,z2]) (ht:∃a b c,Blk w t zt [a,b,c]) (hot:o≠t) {K:qs->Ub}
  (hK:∀w',Chg (λk=>k=o\/k=t) w w'->K ⟨u8.wrap E0,u8.wrap E1,u8.wrap E2⟩ w') :
  zh (σ:=Int×Unit) (λI s w7=>cond (decide (s.1<3))
   (cond (decide (s.1=(0:Int))) ((10000:Int)≠0/\ixA ⟨o,0,none⟩ 3 s.1 1 λa=>stK a [.int .u8 (u8.wrap E0)] w7 λw8=>I (i64.wrap (s.1+1),()) w8)
    (cond (decide (s.1=(1:Int))) ((10000:Int)≠0/\ixA ⟨o,0,none⟩ 3 s.1 1 λa=>stK a [.int .u8 (u8.wrap E1)] w7 λw8=>I (i64.wrap (s.1+1),()) w8)
     (cond (decide (s.1=(2:Int))) ((10000:Int)≠0/\ixA ⟨o,0,none⟩ 3 s.1 1 λa=>stK a [.int .u8 (u8.wrap E2)] w7 λw8=>I (i64.wrap (s.1+1),()) w8) False)))
   (ldS qs.rep ⟨o,0,none⟩ w7 λr=>stK ⟨t,0,none⟩ (qs.rep.cells r) w7 λw8=>ldS qs.rep ⟨t,0,none⟩ w8 λr2=>K r2 w8)) (0,()) w:=by
 have step:∀{f:World} {p:List Value} {x:Value} (i:Nat) {q:Ub},Blk f o zt p->p.length=3->i<3->(∀j,Blk j o zt (p.set i x)->Chg (λk=>k=o) f j->q j)->(10000:Int)≠0/\ixA ⟨o,0,none⟩ 3 (i:Int) 1 λa=>stK a [x] f q:=by
  intro f p x i q l A C B;refine ⟨by decide,⟨⟨by omega,by omega⟩,?_⟩⟩;rw [qC,zero_add,mul_one];refine qD l (by rw [A];show i+1<=3;omega) λj d m v=>B j d (Go.Vc.Chg.gg m)
 refine lpR (λ(n:Int×Unit) f=>Chg (λk=>k=o) w f/\((n.1=0/\Blk f o zt [z0,z1,z2])\/(n.1=1/\Blk f o zt [.int .u8 (u8.wrap E0),z1,z2])\/(n.1=2/\Blk f o zt [.int .u8 (u8.wrap E0),.int .u8 (u8.wrap E1),z2])\/(n.1=3/\Blk f o zt [.int .u8 (u8.wrap E0),.int .u8 (u8.wrap E1),.int .u8 (u8.wrap E2)]))) (λn=>3-n.1.toNat) ⟨Chg.refl _ _,.inl ⟨rfl,ho⟩⟩ ?_;rintro ⟨i,u⟩ f ⟨hc,⟨rfl,l⟩ | ⟨rfl,l⟩ | ⟨rfl,l⟩ | ⟨rfl,l⟩⟩ I hI
 ·refine cT rfl (cT rfl (step (x:=.int .u8 (u8.wrap E0)) 0 l rfl (by omega) λj d g=>hI _ _ ⟨hc.trans g λ_ _ h=>h,.inr (.inl ⟨by show i64.wrap (0+1)=1;decide,d⟩)⟩ (by show 3-(i64.wrap (0+1)).toNat<3-(0:Int).toNat;decide)))
 ·refine cT rfl (cF rfl (cT rfl (step (x:=.int .u8 (u8.wrap E1)) 1 l rfl (by omega) λj d g=>hI _ _ ⟨hc.trans g λ_ _ h=>h,.inr (.inr (.inl ⟨by show i64.wrap (1+1)=2;decide,d⟩))⟩ (by show 3-(i64.wrap (1+1)).toNat<3-(1:Int).toNat;decide))))
 ·refine cT rfl (cF rfl (cF rfl (cT rfl (step (x:=.int .u8 (u8.wrap E2)) 2 l rfl (by omega) λj d g=>hI _ _ ⟨hc.trans g λ_ _ h=>h,.inr (.inr (.inr ⟨by show i64.wrap (2+1)=3;decide,d⟩))⟩ (by show 3-(i64.wrap (2+1)).toNat<3-(2:Int).toNat;decide)))))
 ·refine cF rfl (qz (r:=qs.rep) (x:=⟨u8.wrap E0,u8.wrap E1,u8.wrap E2⟩) l.cells ?_);obtain ⟨a,b,c,y⟩:=ht;have z:=y.chg hc λe=>hot e.symm;refine qD z (by show 0+3<=3;omega) λj d m v=>?_;exact qz (r:=qs.rep) (x:=⟨u8.wrap E0,u8.wrap E1,u8.wrap E2⟩) d.cells (hK j ((hc.mono λk _ e=>.inl e).trans (Go.Vc.Chg.gg m) λk _ e=>.inr e))
def chn (v t:Int):Int:=u8.wrap (i64.wrap ((i64.wrap (i64.wrap (i64.wrap (v+t)*255)+5000)).tdiv 10000))
def q0k (h l s:Int):qs :=
 let t40:=(i64.wrap (h+240)).tmod 360
 let t43:=i64.wrap (i64.wrap (2*l)-100)
 let t46:=i64.wrap (100-i64.wrap (2*l))
 let t48:=i64.wrap (100-(if t46>t43 then t46 else t43))
 let t54:=i64.wrap (t40.tmod 120-60)
 let t57:=i64.wrap (60-t40.tmod 120)
 let t59:=i64.wrap (60-(if t57>t54 then t57 else t54))
 let c:=i64.wrap (t48*s)
 let x:=i64.wrap ((i64.wrap (c*t59)).tdiv 60)
 let m:=i64.wrap (i64.wrap (100*l)-i64.wrap (c.tdiv 2))
 match (i64.wrap (t40.tdiv 60)).toNat with
 | 0=>⟨chn c m,chn x m,chn 0 m⟩
 | 1=>⟨chn x m,chn c m,chn 0 m⟩
 | 2=>⟨chn 0 m,chn c m,chn x m⟩
 | 3=>⟨chn 0 m,chn x m,chn c m⟩
 | 4=>⟨chn x m,chn 0 m,chn c m⟩
 | _=>⟨chn c m,chn 0 m,chn x m⟩
def qpf (h l s:Int):qs×Bool:=if h<0\/h>360\/l<0\/l>100\/s<0\/s>100 then (⟨0,0,0⟩,false) else (q0k h l s,true)
theorem zki (h l s:Int):(0<=(qpf h l s).1.e0/\(qpf h l s).1.e0<=255)/\(0<=(qpf h l s).1.e1/\(qpf h l s).1.e1<=255)/\(0<=(qpf h l s).1.e2/\(qpf h l s).1.e2<=255):=by
 unfold qpf;split
 ·exact ⟨⟨Int.le_refl _,by show (0:Int)<=255;omega⟩,⟨Int.le_refl _,by show (0:Int)<=255;omega⟩,⟨Int.le_refl _,by show (0:Int)<=255;omega⟩⟩
 ·unfold q0k;dsimp only;split<;>exact ⟨q4m _,q4m _,q4m _⟩
theorem zjx {w:World} (h l s:Int) {K:qs->Bool->Ub} (hK:∀w',Uc w w'->K (qpf h l s).1 (qpf h l s).2 w'):qnx h l s w K:=by
 refine qyx _ _ _ ?_;refine nwb λA v y L=>?_;refine jpO λW F=>jpO λM G=>?_;have c:∀b:Bool,(b=true↔(h<0\/h>360\/l<0\/l>100\/s<0\/s>100))->M (b,()) A:=by
  intro b J;refine G _ _ (cO (λe=>?_) λe=>?_)
  ·have t:=J.1 e;unfold qpf at hK;rw [if_pos t] at hK;refine qD v (by show 0+3<=3;omega) λN H I O=>qz (r:=qs.rep) (x:=⟨0,0,0⟩) H.cells (hK N ?_);exact ((Chg.of_ext (S:=λk=>k=w.heap.size) y).trans (Go.Vc.Chg.gg I) λ_ _ h=>h).ext λi P e=>by omega
  ·have t:¬_:=λt=>by rw [J.2 t] at e;cases e
   unfold qpf at hK;rw [if_neg t] at hK;have X:0<=h/\h<=360:=by omega
   obtain ⟨q,f,p⟩:∃q:Nat,i64.wrap (((i64.wrap (h+240)).tmod 360).tdiv 60)=(q:Int)/\q<6:=by
    rw [qM (x:=h+240) (by omega)];obtain ⟨a,Q⟩:∃a:Nat,h+240=a:=⟨(h+240).toNat,by omega⟩;rw [Q,show (360:Int)=((360:Nat):Int) from rfl,<-Int.ofNat_tmod,show (60:Int)=((60:Nat):Int) from rfl,<-Int.ofNat_tdiv];exact ⟨a%360/60,qM (by omega),by omega⟩
   refine F _ _ ⟨by decide,?_⟩;refine ⟨by decide,⟨by decide,⟨by decide,⟨by decide,?_⟩⟩⟩⟩;refine nwb λR g z T=>⟨by decide,?_⟩;have d:=v.ext z;have j:∀(r:qs) (w':World),r=q0k h l s->Chg (λk=>k=A.heap.size\/k=w.heap.size) R w'->K r true w':=by
    intro r w' e m;rw [e];refine hK w' (((Chg.of_ext (S:=λk=>k=A.heap.size\/k=w.heap.size) (bT y z)).trans m λ_ _ h=>h).ext λi P e=>?_);rcases e with e | e<;>omega
   have n:A.heap.size≠w.heap.size:=by omega
   have u:∀r:qs,(∀o,o=q0k h l s->o=r)->r=q0k h l s:=λr U=>(U _ rfl).symm;rw [f]
   match q,p,f with
   | 0,_,f=>exact cT rfl (V8 g ⟨_,_,_,d⟩ n λw' m=>j _ w' (u _ λo e=>by rw [e];unfold q0k;dsimp only;rw [f];rfl) m)
   | 1,_,f=>exact cF rfl (cT rfl (V8 g ⟨_,_,_,d⟩ n λw' m=>j _ w' (u _ λo e=>by rw [e];unfold q0k;dsimp only;rw [f];rfl) m))
   | 2,_,f=>exact cF rfl (cF rfl (cT rfl (V8 g ⟨_,_,_,d⟩ n λw' m=>j _ w' (u _ λo e=>by rw [e];unfold q0k;dsimp only;rw [f];rfl) m)))
   | 3,_,f=>exact cF rfl (cF rfl (cF rfl (cT rfl (V8 g ⟨_,_,_,d⟩ n λw' m=>j _ w' (u _ λo e=>by rw [e];unfold q0k;dsimp only;rw [f];rfl) m))))
   | 4,_,f=>exact cF rfl (cF rfl (cF rfl (cF rfl (cT rfl (V8 g ⟨_,_,_,d⟩ n λw' m=>j _ w' (u _ λo e=>by rw [e];unfold q0k;dsimp only;rw [f];rfl) m)))))
   | 5,_,f=>exact cF rfl (cF rfl (cF rfl (cF rfl (cF rfl (cT rfl (V8 g ⟨_,_,_,d⟩ n λw' m=>j _ w' (u _ λo e=>by rw [e];unfold q0k;dsimp only;rw [f];rfl) m))))))
   | q+6,p,_=>exact absurd p (by omega)
 refine cO (λe=>c true ⟨λ_=>.inl (oTq e),λ_=>rfl⟩) λe=>?_;refine cO (λB=>c true ⟨λ_=>.inr (.inl (oTq B)),λ_=>rfl⟩) λB=>?_;refine cO (λC=>c true ⟨λ_=>.inr (.inr (.inl (oTq C))),λ_=>rfl⟩) λC=>?_;refine cO (λD=>c true ⟨λ_=>.inr (.inr (.inr (.inl (oTq D)))),λ_=>rfl⟩) λD=>?_;refine cO (λE=>c true ⟨λ_=>.inr (.inr (.inr (.inr (.inl (oTq E))))),λ_=>rfl⟩) λE=>?_;have e:=oFq e;have B:=oFq B;have C:=oFq C;have D:=oFq D;have E:=oFq E;exact c _ ⟨λV=>by have:=oTq V;omega,λt=>dTq (by omega)⟩
open IntKind (i64)
set_option maxRecDepth 400000
namespace SxD
def cur (D:SxD) (k:Nat):qV:=⟨D.cols[3*k]?.getD 0,D.cols[3*k+1]?.getD 0,D.cols[3*k+2]?.getD 0⟩
def sx_setC (D:SxD) (k:Nat) (c:qV):SxD:={ D with cols:=((D.cols.set (3*k) c.e0).set (3*k+1) c.e1).set (3*k+2) c.e2 }
def putC (D:SxD) (k:Nat) (c:qV):SxD:=if (c.e0==(D.cur k).e0 && (c.e1==(D.cur k).e1 && (c.e2==(D.cur k).e2 && true)))=true then D else D.sx_setC k c
def color (D:SxD):SxD :=
 if 256<=D.num 0 then D
 else
  let E:SxD:={ D with now:=(D.num 0).toNat }
  if D.n.length<5 then E
  else if D.num 1=1 then
   let r:=qpf (D.num 2) (D.num 3) (D.num 4)
   if r.2=true then E.putC (D.num 0).toNat ⟨r.1.e0,r.1.e1,r.1.e2⟩ else E
  else if D.num 1=2 then
   if ((kT (D.num 2)).2 && (kT (D.num 3)).2 && (kT (D.num 4)).2)=true then E.putC (D.num 0).toNat ⟨(kT (D.num 2)).1,(kT (D.num 3)).1,(kT (D.num 4)).1⟩ else E
  else E
end SxD
def q5p (c:qV):Prop:=(0<=c.e0/\c.e0<=255)/\(0<=c.e1/\c.e1<=255)/\(0<=c.e2/\c.e2<=255)
theorem q49 {l:List Int} {i:Nat} {x y:Int} (h:y∈l.set i x):y=x\/y∈l:=by
 rcases List.mem_or_eq_of_mem_set h with h | h
 ·exact .inr h
 ·exact .inl h
theorem SxOk.sx_setC {D:SxD} (h:SxOk D) (k:Nat) {c:qV} (hc:q5p c):SxOk (D.sx_setC k c):=by
 refine ⟨by show (((D.cols.set _ _).set _ _).set _ _).length=768;rw [length_set,length_set,length_set];exact h.cl,λy a=>?_,h.now,h.xy,h.wh,h.m0,h.fits,h.pl,h.pf,h.nl,h.nr,h.v,h.rep,h.cmd⟩;rcases q49 a with rfl | a
 ·exact hc.2.2
 rcases q49 a with rfl | a
 ·exact hc.2.1
 rcases q49 a with rfl | a
 ·exact hc.1
 ·exact h.cu y a
section
variable {w w':World} {base:Nat} {F F':SxF} {D D':SxD}
theorem SxT.fresh {F1:SxF} {D1:SxD} {w2 w4:World} (t:SxT base w F F1 D1 w2) (hc:Chg (λk=>w2.heap.size<=k) w2 w4):SxT base w F F1 D1 w4 :=
 t.trans ⟨t.m.chg hc λk a e=>by have:=(t.m.below k a).2;omega,λk a=>.inl a,hc.mono λi b e=>by omega,rfl⟩
theorem q20 (h:SxM w base F D) {k:Nat} (hk:k<256) {c:qV} (hc:q5p c) {K:Ub} (hK:∀w',SxT base w F F (D.sx_setC k c) w'->K w'):stK ((⟨F.g,0,none⟩:Addr).add (2+k*3)) (qV.rep.cells c) w K:=by
 have i:=h.ok.cl;rw [qC,zero_add];refine qD h.blk (by rw [h.len];show 2+k*3+3<=784;omega) λf b d j=>?_;have a:Chg (λk=>k=F.g) w f:=Chg.gg d;have ev:putL (sxC F D) (2+k*3) (qV.rep.cells c)=sxC F (D.sx_setC k c):=by
  show (((sxH D++sxT F D).set (2+k*3) (.int .u8 c.e0)).set (2+k*3+1) (.int .u8 c.e1)).set (2+k*3+1+1) (.int .u8 c.e2)=sxH (D.sx_setC k c)++sxT F D;have l:=yc i;rw [List.set_append_left _ _ (by omega),List.set_append_left _ _ (by rw [length_set];omega),List.set_append_left _ _ (by rw [length_set,length_set];omega)];congr 1;show (((([Value.bool D.clear,Value.int .i64 D.most]:List Value)++D.cols.map (Value.int .u8)).set _ _).set _ _).set _ _=([Value.bool D.clear,Value.int .i64 D.most]:List Value)++(((D.cols.set (3*k) c.e0).set (3*k+1) c.e1).set (3*k+2) c.e2).map (Value.int .u8);rw [set_append_right _ _ (by show 2<=_;omega),set_append_right _ _ (by show 2<=_;omega),set_append_right _ _ (by show 2<=_;omega),List.map_set,List.map_set,List.map_set];have e:([Value.bool D.clear,.int .i64 D.most]:List Value).length=2:=rfl;rw [e,show 2+k*3-2=3*k by omega,show 2+k*3+1-2=3*k+1 by omega,show 2+k*3+1+1-2=3*k+2 by omega]
 rw [ev] at b;exact hK f ⟨⟨b,h.hg,h.q.chg a h.q_g,h.nq.chg a h.n_g,h.ok.sx_setC k hc⟩,λk hk=>.inl hk,a.mono λk _ e=>.inl e,rfl⟩
theorem zan (h:SxM w base F D) {K:Ub} (hK:∀w',SxT base w F F D.color w'->K w'):Qy (some ⟨F.g,0,none⟩) w K:=by
 refine qgd _ ?_;have n0:=h.ok.num 0;refine qfd h 0 (by omega) ?_;refine cO (λe=>?_) λe=>?_
 ·have:D.color=D:=by unfold SxD.color;rw [if_pos (oTq e)]
  rw [this] at hK;exact hK w (SxT.refl h)
 have e:=oFq e;simp only [onPtr_some];obtain ⟨k,Z⟩:∃k:Nat,D.num 0=k:=⟨(D.num 0).toNat,by omega⟩;have z:k<256:=by omega
 have H:D.color=(let E:SxD:={ D with now:=k };if D.n.length<5 then E else if D.num 1=1 then (let r:=qpf (D.num 2) (D.num 3) (D.num 4);if r.2=true then E.putC k ⟨r.1.e0,r.1.e1,r.1.e2⟩ else E) else if D.num 1=2 then (if ((kT (D.num 2)).2 && (kT (D.num 3)).2 && (kT (D.num 4)).2)=true then E.putC k ⟨(kT (D.num 2)).1,(kT (D.num 3)).1,(kT (D.num 4)).1⟩ else E) else E):=by
  unfold SxD.color;rw [if_neg (by omega),Z];rfl
 rw [Z];obtain ⟨E,hE⟩:∃E:SxD,E={ D with now:=k }:=⟨_,rfl⟩;rw [<-hE] at H;have B:=h.ok;have af:SxOk E:=by rw [hE];exact ⟨B.cl,B.cu,z,B.xy,B.wh,B.m0,B.fits,B.pl,B.pf,B.nl,B.nr,B.v,B.rep,B.cmd⟩
 have en:E.n=D.n:=by rw [hE]
 refine h.st 0 E (by decide) (by rw [hE];rfl) (by rw [hE];rfl) (by rw [hE]) en af λo t2=>?_;have m2:=t2.m;have hn:F.nq.n=D.n.length:=by rw [<-en];exact m2.nq.rd.n
 refine lSl (x:=F.nq) (m2.tl 11 rfl) ?_;rw [hn];refine cO (λe=>?_) λe=>?_
 ·have e:=oTq e;rw [H] at hK;dsimp only at hK;rw [if_pos (by omega)] at hK;exact hK o t2
 have e5:=oFq e;have ah:D.n.length=5:=by have:=B.nl;omega
 rw [H] at hK;dsimp only at hK;rw [if_neg (by omega)] at hK;refine nwb λV O ai ax=>?_;have P:Chg (λk=>o.heap.size<=k) o V:=Chg.of_ext ai;refine jpO λJ1 aj=>?_;have W:∀(b:Bool) (c:qV) (w4:World),Blk w4 o.heap.size zV (qV.rep.cells c)->Chg (λk=>o.heap.size<=k) o w4->(b=true->q5p c)->(∀w',SxT base w F F (if b=true then E.putC k c else E) w'->K w')->J1 (b,()) w4:=by
  intro b c w4 aa ak al A;have t4:=t2.fresh ak;refine aj _ _ (jpO λJ2 ab=>?_);have J:=t4.trans t4.m.drew;cases b with
  | false=>exact cF rfl (ab _ _ (cF rfl (A _ J)))
  | true =>
   refine cT rfl (qz (r:=qV.rep) (x:=c) aa.drew.cells ?_);refine ⟨⟨by omega,by omega⟩,?_⟩;have ea:((⟨F.g,0,none⟩:Addr).add 2).add (((k:Nat):Int).toNat*3)=(⟨F.g,0,none⟩:Addr).add (2+k*3):=by rw [qC,qC,qC];simp
   rw [ea];refine qz (r:=qV.rep) (x:=E.cur k) (qox J.m z) (ab _ _ ?_);rw [if_pos rfl] at A;unfold SxD.putC at A;refine cO (λe=>?_) λe=>?_
   ·have e:(c.e0==(E.cur k).e0 && (c.e1==(E.cur k).e1 && (c.e2==(E.cur k).e2 && true)))=false:=by simpa only [Bool.not_eq_true'] using e
    rw [if_neg (by rw [e];decide)] at A;refine qz (r:=qV.rep) (x:=c) aa.drew.drew.cells ?_;have ac:=J.trans J.m.drew;refine ⟨⟨by omega,by omega⟩,?_⟩;rw [ea];exact q20 ac.m z (al rfl) λw5 t5=>A w5 (ac.trans t5)
   ·have e:(c.e0==(E.cur k).e0 && (c.e1==(E.cur k).e1 && (c.e2==(E.cur k).e2 && true)))=true:=by simpa only [Bool.not_eq_false'] using e
    rw [if_pos e] at A;exact A _ J
 obtain ⟨a0,C,d,p,q,hD⟩:∃a0 C d p q,D.n=[a0,C,d,p,q]:=by
  match D.n,ah with
  | [a0,C,d,p,q],_=>exact ⟨a0,C,d,p,q,rfl⟩
 have d1:D.num 1=C:=by unfold SxD.num;rw [hD];rfl
 have d2:D.num 2=d:=by unfold SxD.num;rw [hD];rfl
 have d3:D.num 3=p:=by unfold SxD.num;rw [hD];rfl
 have d4:D.num 4=q:=by unfold SxD.num;rw [hD];rfl
 rw [d1,d2,d3,d4] at hK;have nq:∀{f:World},SxM f base F E->Rd jr f F.nq [a0,C,d,p,q]:=λm=>by have:=m.nq.rd;rw [en,hD] at this;exact this
 have num:∀{f:World} (i:Nat) {x:Int} {Q:Int->Prop},SxM f base F E->[a0,C,d,p,q][i]?=some x->Q x->zW ((⟨F.g,0,none⟩:Addr).add 781) f λt=>ixK t (i:Int) 1 λa=>ldI .i64 a f Q:=by
  intro f i x Q m hx hQ;obtain ⟨N,X⟩:=List.getElem?_eq_some_iff.1 hx;refine lSl (x:=F.nq) (m.tl 11 rfl) ((nq m).ix (i:=(i:Int)) (k:=1) rfl (by omega) (by omega) λy=>?_);have L:[a0,C,d,p,q][((i:Nat):Int).toNat]'(by simpa using N)=x:=X;rw [L] at y;exact lI (x:=x) (by simpa using y 0 _ rfl) hQ
 have t3:=t2.fresh P;refine num 1 (x:=C) t3.m rfl ?_;refine cO (λe=>?_) λe=>?_
 ·have e:C=1:=eq_of_beq e;rw [if_pos e] at hK;have Y:=t3.trans t3.m.drew;refine num 2 (x:=d) Y.m rfl (num 3 (x:=p) Y.m rfl (num 4 (x:=q) Y.m rfl ?_));refine zjx d p q λw7 am=>?_;have ad:Uc V w7:=bT (bdw V) am;have an:Chg (λk=>o.heap.size<=k) o w7:=P.trans (Chg.of_ext (S:=λk=>o.heap.size<=k) ad) λ_ _ h=>h;have ao:=O.ext ad;refine qD ao (by show 0+3<=3;omega) λw8 ap aq ay=>?_;have hr:=zki d p q;refine W _ ⟨(qpf d p q).1.e0,(qpf d p q).1.e1,(qpf d p q).1.e2⟩ w8 ap (an.trans (Chg.gg aq) λi _ e=>by rw [e];exact le_refl _) (λ_=>hr) hK
 have e1:¬C=1:=beq_eq_false_iff_ne.1 e;rw [if_neg e1] at hK;refine cO (λe=>?_) λe=>?_
 ·have e:C=2:=eq_of_beq e;rw [if_pos e] at hK;refine lSl (x:=F.nq) (t3.m.tl 11 rfl) ((nq t3.m).slK (l:=2) (m:=5) rfl (.inr rfl) (.inr rfl) (by omega) (le_refl 5) λhr=>?_);have hr:Rd jr V ⟨cut F.nq.a 2 F.nq.c jr.k,5-2,F.nq.c-2⟩ [d,p,q]:=hr;have b0:=O;have st:∀{f:World} {vs:List Value} (i:Nat) {x:Int} {K9:Ub},Chg (λk=>o.heap.size<=k) o f->Blk f o.heap.size zV vs->vs.length=3->i<3->(∀w',Chg (λk=>o.heap.size<=k) o w'->Chg (λk=>k=o.heap.size) f w'->Blk w' o.heap.size zV (vs.set i (.int .u8 x))->K9 w')->ixA ⟨o.heap.size,0,none⟩ 3 (i:Int) 1 λt=>stK t [.int .u8 x] f K9:=by
   intro f vs i x K9 y G hl N Z;refine ⟨⟨by omega,by omega⟩,?_⟩;rw [qC,zero_add,mul_one];exact qD G (by rw [hl];show i+1<=3;omega) λw' ar ae az=>Z w' (y.trans (Chg.gg ae) λj _ e=>by rw [e];exact le_refl _) (Chg.gg ae) ar
  have au:∀k,F.nq.blk=some k->k≠o.heap.size:=λk Z e=>by have:=(m2.nq.lt k Z).2;omega
  have rd:∀{f:World} (i:Nat) {x:Int} {Q:Int->Prop},Chg (λk=>k=o.heap.size) V f->[d,p,q][i]?=some x->Q x->ixK ⟨cut F.nq.a 2 F.nq.c jr.k,5-2,F.nq.c-2⟩ (i:Int) 1 λa=>ldI .i64 a f Q:=by
   intro f i x Q y hx hQ;obtain ⟨N,X⟩:=List.getElem?_eq_some_iff.1 hx;have av:Rd jr f _ [d,p,q]:=hr.chg y λa ha e=>by
    obtain ⟨b,G,aw⟩:=cut_block ha;exact au b.block (by show F.nq.a.map (·.block)=_;rw [G];rfl) (by rw [<-aw];exact e)
   refine av.ix (i:=(i:Int)) (k:=1) rfl (by omega) (by omega) λy=>?_;have L:[d,p,q][((i:Nat):Int).toNat]'(by simpa using N)=x:=X;rw [L] at y;exact lI (x:=x) (by simpa using y 0 _ rfl) hQ
  refine lpR (λ(s:Bool×Int×Unit) f=>Chg (λk=>o.heap.size<=k) o f/\Chg (λk=>k=o.heap.size) V f /\
   (
    (s.2.1=0/\s.1=true/\Blk f o.heap.size zV vi) \/
    (s.2.1=1/\s.1=(kT d).2/\Blk f o.heap.size zV [.int .u8 (kT d).1,.int .u8 0,.int .u8 0]) \/
    (s.2.1=2/\s.1=((kT d).2 && (kT p).2)/\Blk f o.heap.size zV [.int .u8 (kT d).1,.int .u8 (kT p).1,.int .u8 0]) \/
    (s.2.1=3/\s.1=((kT d).2 && (kT p).2 && (kT q).2)/\Blk f o.heap.size zV [.int .u8 (kT d).1,.int .u8 (kT p).1,.int .u8 (kT q).1]))) (λs=>3-s.2.1.toNat) ⟨P,Chg.refl _ _,.inl ⟨rfl,rfl,O⟩⟩ ?_
  rintro ⟨b,i,u⟩ f ⟨y,hc3,⟨N,M,G⟩ | ⟨N,M,G⟩ | ⟨N,M,G⟩ | ⟨N,M,G⟩⟩ I hI
  all_goals (dsimp only at N M ⊢;subst N M)
  ·refine cT rfl (rd 0 (x:=d) hc3 rfl (Zy d (cT rfl (st 0 y G rfl (by omega) λw' R T U=>?_))));exact hI _ _ ⟨R,hc3.trans T λ_ _ h=>h,.inr (.inl ⟨by show i64.wrap (0+1)=1;decide,rfl,U⟩)⟩ (by show 3-(i64.wrap (0+1)).toNat<3-(0:Int).toNat;decide)
  ·refine cT rfl (rd 1 (x:=p) hc3 rfl (Zy p (cO (λe=>?_) λe=>?_)))
   ·exact st 1 y G rfl (by omega) λw' R T U=>hI _ _ ⟨R,hc3.trans T λ_ _ h=>h,.inr (.inr (.inl ⟨by show i64.wrap (1+1)=2;decide,by rw [e];rfl,U⟩))⟩ (by show 3-(i64.wrap (1+1)).toNat<3-(1:Int).toNat;decide)
   ·exact st 1 y G rfl (by omega) λw' R T U=>hI _ _ ⟨R,hc3.trans T λ_ _ h=>h,.inr (.inr (.inl ⟨by show i64.wrap (1+1)=2;decide,by rw [e];rfl,U⟩))⟩ (by show 3-(i64.wrap (1+1)).toNat<3-(1:Int).toNat;decide)
  ·refine cT rfl (rd 2 (x:=q) hc3 rfl (Zy q (cO (λe=>?_) λe=>?_)))
   ·exact st 2 y G rfl (by omega) λw' R T U=>hI _ _ ⟨R,hc3.trans T λ_ _ h=>h,.inr (.inr (.inr ⟨by show i64.wrap (2+1)=3;decide,by rw [e];rfl,U⟩))⟩ (by show 3-(i64.wrap (2+1)).toNat<3-(2:Int).toNat;decide)
   ·exact st 2 y G rfl (by omega) λw' R T U=>hI _ _ ⟨R,hc3.trans T λ_ _ h=>h,.inr (.inr (.inr ⟨by show i64.wrap (2+1)=3;decide,by rw [e];rfl,U⟩))⟩ (by show 3-(i64.wrap (2+1)).toNat<3-(2:Int).toNat;decide)
  ·refine cF rfl (W _ ⟨(kT d).1,(kT p).1,(kT q).1⟩ f G y (λ_=>⟨qo0 d,qo0 p,qo0 q⟩) hK)
 ·have e2:¬C=2:=beq_eq_false_iff_ne.1 e;rw [if_neg e2] at hK;exact W false ⟨0,0,0⟩ V O P (λh=>by cases h) (by rw [if_neg (by decide)];exact hK)
end
open IntKind (i64)
set_option maxRecDepth 400000
namespace SxD
def doneE (cmd:Nat) (E:SxD):SxD :=
 if cmd=33 then { E with rep:=(if 1>E.num 0 then 1 else E.num 0).toNat }
 else if cmd=35 then E.color
 else if cmd=34 then
  if E.num 2>=1/\E.num 2<=16384/\E.num 3>=1/\E.num 3<=16384/\E.drawn=false/\E.down=false then (E.grow (E.num 2).toNat (E.num 3).toNat).2 else E
 else E
def done (D:SxD):SxD:=if D.cmd=0 then D else doneE D.cmd { D.push with cmd:=0 }
def goE (c rep:Nat) (E:SxD):SxD :=
 if 63<=c then E.sixel (c-63) (max 1 rep)
 else if c=33\/c=35\/c=34 then { E with cmd:=c,n:=[],v:=0 }
 else if c=45 then { E with y:=min (E.y+6) 1048576,down:=true,x:=0 }
 else if c=36 then { E with x:=0 }
 else E
def go (D:SxD) (c:Nat):SxD:=goE c D.rep { D with rep:=0 }
def sign (D:SxD) (c:Nat):SxD :=
 if D.cmd≠0 then
  if 48<=c/\c<=57 then { D with v:=min (10*D.v+(c-48)) 65535 }
  else if c=59 then D.push
  else if D.done.full=true then D.done else D.done.go c
 else D.go c
def sx_put1 (D:SxD) (b:UInt8):SxD:=if 33<=b.toNat/\b.toNat<=126/\D.full=false/\D.over=false then D.sign b.toNat else D
end SxD
section
variable {w w':World} {base:Nat} {F F':SxF} {D D':SxD}
theorem q3y (h:SxM w base F D) (hf:D.full=false) {K:Ub} (hK:∀F' w',SxT base w F F' D.done w'->K w'):vM (some ⟨F.g,0,none⟩) w K:=by
 refine qgx _ ?_;simp only [onPtr_some];unfold SxD.done at hK;refine lI (x:=(D.cmd:Int)) (h.tl 10 rfl) ?_;refine cO (λe=>?_) λe=>?_
 ·have e:(D.cmd:Int)=0:=eq_of_beq e;rw [if_pos (by omega)] at hK;exact hK F w (SxT.refl h)
 have e:¬(D.cmd:Int)=0:=beq_eq_false_iff_ne.1 e;rw [if_neg (by omega)] at hK;refine q3f h λp N l=>?_;rw [<-l.g];obtain ⟨E,k⟩:∃E:SxD,E={ D.push with cmd:=0 }:=⟨_,rfl⟩;rw [<-k] at hK;unfold SxD.doneE at hK;have c:=l.m.ok;have a:SxOk E:=by rw [k];exact ⟨c.cl,c.cu,c.now,c.xy,c.wh,c.m0,c.fits,c.pl,c.pf,c.nl,c.nr,c.v,c.rep,by show 0<256;omega⟩
 have r:E.full=false:=by rw [k];exact hf
 refine lI (x:=(D.cmd:Int)) (l.m.tl 10 rfl) ?_;refine l.m.st 10 E (by decide) (by rw [k];rfl) (by rw [k];rfl) (by rw [k]) (by rw [k]) a λs A=>?_;have i:=l.trans A;have j:=A.m;refine cO (λe=>?_) λe=>?_
 ·have e:(D.cmd:Int)=33:=eq_of_beq e;rw [if_pos (by omega)] at hK;refine qfd j 0 (by omega) ?_;have O:=a.num 0;have C:(if 1>E.num 0 then (1:Int) else E.num 0)=(((if 1>E.num 0 then 1 else E.num 0).toNat:Nat):Int):=by split<;>omega
  rw [C];exact j.st 13 { E with rep:=(if 1>E.num 0 then 1 else E.num 0).toNat } (by decide) rfl rfl rfl rfl ⟨a.cl,a.cu,a.now,a.xy,a.wh,a.m0,a.fits,a.pl,a.pf,a.nl,a.nr,a.v,by show (if 1>E.num 0 then (1:Int) else E.num 0).toNat<=65535;split<;>omega,a.cmd⟩ λn o=>hK p n (i.trans o)
 have G:¬(D.cmd:Int)=33:=beq_eq_false_iff_ne.1 e;rw [if_neg (by omega)] at hK;refine cO (λe=>?_) λe=>?_
 ·have e:(D.cmd:Int)=35:=eq_of_beq e;rw [if_pos (by omega)] at hK;exact zan j λn o=>hK p n (i.trans o)
 have H:¬(D.cmd:Int)=35:=beq_eq_false_iff_ne.1 e;rw [if_neg (by omega)] at hK;refine cO (λe=>?_) λe=>?_
 ·have e:(D.cmd:Int)=34:=eq_of_beq e;rw [if_pos (by omega)] at hK;have P:=a.num 2;have Q:=a.num 3;refine qfd j 2 (by omega) (qfd j 3 (by omega) ?_);refine jpO λI t=>?_;have f:∀b:Bool,(b=true↔(E.num 2>=1/\E.num 2<=16384/\E.num 3>=1/\E.num 3<=16384/\E.drawn=false/\E.down=false))->I (b,()) s:=by
   intro b B;refine t _ _ (cO (λe=>?_) λe=>?_)
   ·have d:=B.1 e;rw [if_pos d] at hK;have:=q2r j r (W0:=(E.num 2).toNat) (H0:=(E.num 3).toNat) (by omega) (by omega) (by omega) (by omega) (K:=λ_ w'=>K w') λJ n o=>hK J n (i.trans o);rw [show (((E.num 2).toNat:Nat):Int)=E.num 2 by omega,show (((E.num 3).toNat:Nat):Int)=E.num 3 by omega] at this;exact this
   ·have d:¬_:=λd=>by rw [B.2 d] at e;cases e
    rw [if_neg d] at hK;exact hK p s i
  refine cO (λe=>?_) λe=>f false ⟨(λh=>by cases h),λd=>absurd d.1 (oFq e)⟩;refine cO (λu=>?_) λu=>f false ⟨(λh=>by cases h),λd=>absurd d.2.1 (oFq u)⟩;refine cO (λy=>?_) λy=>f false ⟨(λh=>by cases h),λd=>absurd d.2.2.1 (oFq y)⟩;refine cO (λz=>?_) λz=>f false ⟨(λh=>by cases h),λd=>absurd d.2.2.2.1 (oFq z)⟩;refine jw (x:=E.drawn) (j.tl 6 rfl) ?_;refine cO (λq=>?_) λq=>f false ⟨(λh=>by cases h),λd=>by rw [d.2.2.2.2.1] at q;cases q⟩;refine jw (x:=E.down) (j.tl 7 rfl) (f _ ⟨λL=>⟨oTq e,oTq u,oTq y,oTq z,by simpa using q,by simpa using L⟩,λd=>by rw [d.2.2.2.2.2];rfl⟩)
 ·have M:¬(D.cmd:Int)=34:=beq_eq_false_iff_ne.1 e;rw [if_neg (by omega)] at hK;exact hK p s i
theorem q60 (h:SxM w base F D) (hf:D.full=false) {c:Nat} (hc:33<=c/\c<=126) {K:Ub} (hK:∀F' w',SxT base w F F' (D.sign c) w'->K w'):Zn (some ⟨F.g,0,none⟩) (c:Int) w K:=by
 refine qih _ _ ?_;simp only [onPtr_some];unfold SxD.sign at hK;refine jpO λJ1 V=>?_;have N:∀(r:SxF) (E:SxD) (B:World),SxT base w F r E B->E.full=false->(∀F' w',SxT base w F F' (E.go c) w'->K w')->J1 () B:=by
  intro r E B u W d;refine V _ _ ?_;rw [<-u.g];have X:=u.m;have f:=X.ok;unfold SxD.go at d;refine lI (x:=(E.rep:Int)) (X.tl 13 rfl) ?_;obtain ⟨G,J⟩:∃G:SxD,G={ E with rep:=0 }:=⟨_,rfl⟩;rw [<-J] at d;unfold SxD.goE at d;have okG:SxOk G:=by rw [J];exact ⟨f.cl,f.cu,f.now,f.xy,f.wh,f.m0,f.fits,f.pl,f.pf,f.nl,f.nr,f.v,zero_le _,f.cmd⟩
  refine X.st 13 G (by decide) (by rw [J];rfl) (by rw [J];rfl) (by rw [J]) (by rw [J]) okG λY t2=>?_;have s:=u.trans t2;have R:=t2.m;refine cO (λe=>?_) λe=>?_
  ·have e:=oTq e;rw [if_pos (by omega)] at d;rw [show i64.wrap (u8.wrap ((c:Int)-63))=((c-63:Nat):Int) by
    have:u8.wrap ((c:Int)-63)=((c:Int)-63)%256:=rfl;rw [this,qM (by omega)];omega,show (if 1>(E.rep:Int) then 1 else (E.rep:Int))=((max 1 E.rep:Nat):Int) by split<;>omega]
   have:=f.rep;exact zbh R (by rw [J];exact W) (by omega) (by omega) λF3 z o=>d F3 z (s.trans o)
  have ai:=oFq e;rw [if_neg (by omega)] at d;refine jpO λJ2 Z=>jpO λJ3 aa=>?_;have C:∀(S:SxD) z,SxT base w F r S z->(∀F' w',SxT base w F F' { S with x:=0 } w'->K w')->J2 () z:=by
   intro S z o ab;refine Z _ _ ?_;have a:=o.m.ok;exact o.m.st 1 { S with x:=0 } (by decide) rfl rfl rfl rfl ⟨a.cl,a.cu,a.now,⟨zero_le _,a.xy.2⟩,a.wh,a.m0,a.fits,a.pl,a.pf,a.nl,a.nr,a.v,a.rep,a.cmd⟩ λw4 L=>ab r w4 (o.trans L)
  have t:(c=33\/c=35\/c=34)->J3 () Y:=by
   intro ac;rw [if_pos ac] at d;refine aa _ _ ?_;have O:=s.trans R.drew;have A:=O.m;refine lSl (x:=r.nq) (A.tl 11 rfl) ?_;refine A.nq.rd.slK (l:=0) (m:=0) rfl (.inl ⟨rfl,rfl⟩) (.inr rfl) (le_refl _) (zero_le _) λ_=>?_;obtain ⟨q1,T,o1,b1⟩:=qmw A.nq;rw [T];refine A.st 10 { G with cmd:=c } (by decide) rfl rfl rfl rfl ⟨okG.cl,okG.cu,okG.now,okG.xy,okG.wh,okG.m0,okG.fits,okG.pl,okG.pf,okG.nl,okG.nr,okG.v,okG.rep,by show c<256;omega⟩ λz o=>?_;obtain ⟨q2,H,o2,b2⟩:=qmw o.m.nq;obtain rfl:q1=q2:=T.symm.trans H;have ad:=O.trans o;refine o.m.put (Chg.refl _ _) 11 { r with nq:=q1 } { G with cmd:=c,n:=[] } (by decide) rfl rfl rfl o.m.q o2 (λk hk=>.inl hk) (λk hk=>.inl (b2 k hk)) ⟨okG.cl,okG.cu,okG.now,okG.xy,okG.wh,okG.m0,okG.fits,okG.pl,okG.pf,zero_le _,(λy hy=>by cases hy),okG.v,okG.rep,by show c<256;omega⟩ λw4 L=>?_;have i:=L.m.ok;exact L.m.st 12 { G with cmd:=c,n:=[],v:=0 } (by decide) rfl rfl rfl rfl ⟨i.cl,i.cu,i.now,i.xy,i.wh,i.m0,i.fits,i.pl,i.pf,i.nl,i.nr,zero_le _,i.rep,i.cmd⟩ λw5 t5=>d _ w5 ((ad.trans L).trans t5)
  have nb:∀j:Nat,c≠j->((c:Int)==(j:Int))=false:=λj h=>beq_eq_false_iff_ne.2 (by omega);refine cO (λe=>t (.inl (by have:=eq_of_beq e;omega))) λe=>?_;refine cO (λH=>t (.inr (.inl (by have:=eq_of_beq H;omega)))) λH=>?_;refine cO (λU=>t (.inr (.inr (by have:=eq_of_beq U;omega)))) λU=>?_;have e:=beq_eq_false_iff_ne.1 e;have H:=beq_eq_false_iff_ne.1 H;have U:=beq_eq_false_iff_ne.1 U;rw [if_neg (by omega)] at d;refine cO (λP=>?_) λP=>?_
  ·have P:(c:Int)=45:=eq_of_beq P;rw [if_pos (by omega)] at d;have oy:=okG.xy;refine lI (x:=(G.y:Int)) (R.tl 2 rfl) ?_;rw [qM (x:=(G.y:Int)+6) (by omega),show (if 1048576<(G.y:Int)+6 then 1048576 else (G.y:Int)+6)=((min (G.y+6) 1048576:Nat):Int) by split<;>omega];refine R.st 2 { G with y:=min (G.y+6) 1048576 } (by decide) rfl rfl rfl rfl ⟨okG.cl,okG.cu,okG.now,⟨okG.xy.1,by show min _ _<=_;omega⟩,okG.wh,okG.m0,okG.fits,okG.pl,okG.pf,okG.nl,okG.nr,okG.v,okG.rep,okG.cmd⟩ λz o=>?_;have a:=o.m.ok;refine o.m.st 7 { G with y:=min (G.y+6) 1048576,down:=true } (by decide) rfl rfl rfl rfl ⟨a.cl,a.cu,a.now,a.xy,a.wh,a.m0,a.fits,a.pl,a.pf,a.nl,a.nr,a.v,a.rep,a.cmd⟩ λw4 L=>C _ w4 ((s.trans o).trans L) d
  have P:=beq_eq_false_iff_ne.1 P;rw [if_neg (by omega)] at d;refine cO (λQ=>?_) λQ=>?_
  ·have Q:(c:Int)=36:=eq_of_beq Q;rw [if_pos (by omega)] at d;exact C G Y s d
  ·have Q:=beq_eq_false_iff_ne.1 Q;rw [if_neg (by omega)] at d;exact d r Y s
 refine lI (x:=(D.cmd:Int)) (h.tl 10 rfl) ?_;refine cO (λe=>?_) λe=>?_
 ·have e:¬(D.cmd:Int)=0:=by simpa using e
  rw [if_pos (by omega)] at hK;refine jpO λJ4 ae=>jpO λJ5 af=>?_;have p:=h.ok;have I:∀b:Bool,(b=true↔(48<=c/\c<=57))->J5 (b,()) w:=by
   intro b hb;refine af _ _ (cO (λe=>?_) λe=>?_)
   ·have M:=hb.1 e;rw [if_pos M] at hK;refine lI (x:=(D.v:Int)) (h.tl 12 rfl) ?_;have ov:=p.v;have T:i64.wrap (i64.wrap (10*(D.v:Int))+i64.wrap (u8.wrap ((c:Int)-48)))=((10*D.v+(c-48):Nat):Int):=by
     have:u8.wrap ((c:Int)-48)=((c:Int)-48)%256:=rfl;rw [this,qM (x:=((c:Int)-48)%256) (by omega),qM (x:=10*(D.v:Int)) (by omega),qM (by omega)];omega
    show stK ((⟨F.g,0,none⟩:Addr).add 782) [.int .i64 (if 65535<i64.wrap (i64.wrap (10*(D.v:Int))+i64.wrap (u8.wrap ((c:Int)-48))) then 65535 else i64.wrap (i64.wrap (10*(D.v:Int))+i64.wrap (u8.wrap ((c:Int)-48))))] w λah=>K ah;rw [T];rw [show (if 65535<((10*D.v+(c-48):Nat):Int) then 65535 else ((10*D.v+(c-48):Nat):Int))=((min (10*D.v+(c-48)) 65535:Nat):Int) by split<;>omega];exact h.st 12 { D with v:=min (10*D.v+(c-48)) 65535 } (by decide) rfl rfl rfl rfl ⟨p.cl,p.cu,p.now,p.xy,p.wh,p.m0,p.fits,p.pl,p.pf,p.nl,p.nr,by show min _ _<=_;omega,p.rep,p.cmd⟩ λz o=>hK F z o
   ·have M:¬_:=λM=>by rw [hb.2 M] at e;cases e
    rw [if_neg M] at hK;refine cO (λe=>?_) λe=>?_
    ·have e:(c:Int)=59:=eq_of_beq e;rw [if_pos (by omega)] at hK;exact q3f h λr B u=>hK r B u
    ·have e:¬(c:Int)=59:=beq_eq_false_iff_ne.1 e;rw [if_neg (by omega)] at hK;refine ae _ _ (q3y h hf λr B u=>?_);rw [<-u.g];refine jw (x:=D.done.full) (u.m.tl 8 rfl) (cO (λe=>?_) λe=>?_)
     ·rw [if_pos e] at hK;exact hK r B u
     ·have e:D.done.full=false:=e;rw [if_neg (by rw [e];decide)] at hK;exact N r D.done B u e hK
  refine cO (λe=>?_) λe=>I false ⟨(λh=>by cases h),λM=>by have:=oFq e;omega⟩;exact I _ ⟨λH=>⟨by have:=oTq e;omega,by have:=oTq H;omega⟩,λM=>dTq (by omega)⟩
 ·have e:(D.cmd:Int)=0:=by simpa using e
  rw [if_neg (by omega)] at hK;exact N F D w (SxT.refl h) hf hK
end
open IntKind (i64)
set_option maxRecDepth 400000
namespace SxD
def put (D:SxD) (bs:List UInt8):SxD:=bs.foldl sx_put1 D
end SxD
section
variable {w w':World} {base:Nat} {F F':SxF} {D D':SxD}
theorem q50 (h:SxM w base F D) {q:Slc} {bs:List UInt8} (hq:Rd qo w q bs) (hl:bs.length<=1000000) (hqn:∀a,q.a=some a->¬sxS F a.block) {K:Int->Ub} (hK:∀F' w',SxT base w F F' (D.put bs) w'->K (if (D.put bs).full=true then 6 else 0) w'):vq (some ⟨F.g,0,none⟩) q w K:=by
 refine qfy _ _ ?_;simp only [onPtr_some];have hn:=hq.n;refine lpR (λ(st:Int×Unit) w1=>∃(k:Nat) (F1:SxF),st.1=k/\k<=bs.length/\SxT base w F F1 (D.put (bs.take k)) w1) (λst=>bs.length-st.1.toNat) ⟨0,F,rfl,zero_le _,SxT.refl h⟩ ?_;rintro ⟨i,u⟩ w1 ⟨k,F1,hi,hk,t1⟩ I hI;dsimp only at hi ⊢;subst hi;have m1:=t1.m;rw [hn,<-t1.g];refine cO (λe=>?_) λe=>?_
 ·have e:=oTq e;have hlt:k<bs.length:=by omega
  have hq1:=hq.chg t1.chg hqn;refine hq1.ix (i:=(k:Int)) (k:=1) rfl (by omega) (by omega) λhcell=>?_;have hcell:qG w1 (q.at_ qo.k ((k:Nat):Int).toNat) [.int .u8 ((bs[k]'hlt).toNat:Int)]:=hcell;obtain ⟨b,hb⟩:∃b,b=bs[k]'hlt:=⟨_,rfl⟩;rw [<-hb] at hcell;have step:D.put (bs.take (k+1))=(D.put (bs.take k)).sx_put1 b:=by
   unfold SxD.put;rw [List.take_succ_eq_append_getElem hlt,List.foldl_append,<-hb];rfl
  refine lI (x:=(b.toNat:Int)) (by simpa using hcell 0 _ rfl) ?_;refine jpO λJ2 hJ2=>?_;have b256:b.toNat<256:=b.toNat_lt;have nxt:∀F2 w2,SxT base w F F2 (D.put (bs.take (k+1))) w2->I (i64.wrap ((k:Int)+1),()) w2:=by
   intro F2 w2 t2;rw [qM (by omega)];exact hI _ _ ⟨k+1,F2,by simp,by omega,t2⟩ (by show bs.length-((k:Int)+1).toNat<bs.length-((k:Nat):Int).toNat;omega)
  have key:∀f:Bool,(f=true↔(33<=b.toNat/\b.toNat<=126/\(D.put (bs.take k)).full=false/\(D.put (bs.take k)).over=false))->J2 (f,()) w1:=by
   intro f hf;refine hJ2 _ _ (cO (λe=>?_) λe=>?_)
   ·have hh:=hf.1 e;refine q60 m1 hh.2.2.1 ⟨hh.1,hh.2.1⟩ λF2 w2 t2=>nxt F2 w2 ?_;rw [step];unfold SxD.sx_put1;rw [if_pos hh];exact t1.trans t2
   ·have hh:¬_:=λhh=>by rw [hf.2 hh] at e;cases e
    refine nxt F1 w1 ?_;rw [step];unfold SxD.sx_put1;rw [if_neg hh];exact t1
  refine cO (λe=>?_) λe=>key false ⟨(λh=>by cases h),λhh=>by have:=oFq e;omega⟩;refine cO (λe2=>?_) λe2=>key false ⟨(λh=>by cases h),λhh=>by have:=oFq e2;omega⟩;have e:=oTq e;have e2:=oTq e2;refine jw (x:=(D.put (bs.take k)).full) (m1.tl 8 rfl) ?_;refine cO (λe3=>?_) λe3=>key false ⟨(λh=>by cases h),λhh=>by rw [hh.2.2.1] at e3;cases e3⟩;refine jw (x:=(D.put (bs.take k)).over) (m1.tl 9 rfl) (key _ ⟨λe4=>⟨by omega,by omega,by simpa using e3,by simpa using e4⟩,λhh=>by rw [hh.2.2.2];rfl⟩)
 ·have e:=oFq e;have:k=bs.length:=by omega
  subst this;rw [List.take_length] at t1;refine jw (x:=(D.put bs).full) (t1.m.tl 8 rfl) (cO (λe=>?_) λe=>?_)
  ·have:=hK F1 w1 t1;rw [if_pos e] at this;exact this
  ·have e:(D.put bs).full=false:=e;have:=hK F1 w1 t1;rw [if_neg (by rw [e];decide)] at this;exact this
end
def qoq:List Int:=[0,0,0,20,20,80,80,13,13,20,80,20,80,20,80,20,80,80,80,80,20,53,53,53,26,26,26,33,33,60,60,26,26,33,60,33,60,33,60,33,60,60,60,60,33,80,80,80]
def q5m (n:Nat):qs:=if n<16 then ⟨(kT (qoq[3*n]?.getD 0)).1,(kT (qoq[3*n+1]?.getD 0)).1,(kT (qoq[3*n+2]?.getD 0)).1⟩ else ⟨0,0,0⟩
theorem zk1 {n:Nat} (hn:n<16):((qoq.map (Value.int .i64)).drop (n*3)).take 3=[.int .i64 (qoq[3*n]?.getD 0),.int .i64 (qoq[3*n+1]?.getD 0),.int .i64 (qoq[3*n+2]?.getD 0)]:=by
 have h:n=0\/n=1\/n=2\/n=3\/n=4\/n=5\/n=6\/n=7\/n=8\/n=9\/n=10\/n=11\/n=12\/n=13\/n=14\/n=15:=by omega
 rcases h with rfl | rfl | rfl | rfl | rfl | rfl | rfl | rfl | rfl | rfl | rfl | rfl | rfl | rfl | rfl | rfl<;>rfl
theorem zbq {w:World} {n:Nat} (hn:n<256) {K:qs->Ub} (hK:∀w',Uc w w'->K (q5m n) w'):qff (n:Int) w K:=by
 refine qu5 _ ?_;refine nwb λw1 v O aa=>nwb λw2 y C ab=>?_;refine qD y (by simp) λb l D ac=>?_;rw [qhz (by simp)] at l;have P:Chg (λk=>w.heap.size<=k) w2 b:=(Chg.gg D).mono λk _ e=>by omega
 refine nwb λw4 h4 z ad=>?_;have Q:=bT O C;have E:Chg (λk=>w.heap.size<=k) w w4:=((Chg.of_ext (S:=λk=>w.heap.size<=k) Q).trans P λ_ _ h=>h).trans (Chg.of_ext (S:=λk=>w.heap.size<=k) z) λ_ _ h=>h;have F:Blk w4 w.heap.size zt vi:=((v.ext C).chg (Chg.gg D) (by omega)).ext z;have R:=l.ext z;have m:∀{B:World} {c:qs},Chg (λk=>w.heap.size<=k) w B->Blk B b.heap.size zt (qs.rep.cells c)->(∃o,Blk B w.heap.size zt o/\o.length=3)->c=q5m n->ldS qs.rep ⟨b.heap.size,0,none⟩ B λr=>stK ⟨w.heap.size,0,none⟩ (qs.rep.cells r) B λw8=>ldS qs.rep ⟨w.heap.size,0,none⟩ w8 λr2=>K r2 w8:=by
  intro B c p f ⟨o,T,M⟩ e;refine qz (r:=qs.rep) (x:=c) f.cells (qD T (by rw [M];show 0+3<=3;omega) λw8 g U ae=>?_);have g:Blk w8 w.heap.size zt (qs.rep.cells c):=by
   rw [qhz (by rw [M];rfl)] at g;exact g
  refine qz (r:=qs.rep) (x:=c) g.cells ?_;rw [e];exact hK w8 ((p.trans (Chg.gg U) λi _ e=>by omega).ext λi A e=>by omega)
 refine jpO λJ1 V=>cF (dFq (by omega)) (cO (λe=>?_) λe=>?_)
 ·have e:=oTq e;exact m (c:=⟨0,0,0⟩) E h4 ⟨_,F,rfl⟩ (by unfold q5m;rw [if_neg (by omega)])
 ·have e:=oFq e;have q:n<16:=by omega
  refine V _ _ ⟨⟨by omega,by omega⟩,?_⟩;have G:Blk w4 w1.heap.size qw2 (qoq.map (Value.int .i64)):=R;have H:=G.sub (n*3) [.int .i64 (qoq[3*n]?.getD 0),.int .i64 (qoq[3*n+1]?.getD 0),.int .i64 (qoq[3*n+2]?.getD 0)] (zk1 q);rw [show (((n:Nat):Int).toNat*3)=n*3 by simp];refine qz (r:=Jz.rep) (x:=⟨qoq[3*n]?.getD 0,qoq[3*n+1]?.getD 0,qoq[3*n+2]?.getD 0⟩) H ?_;obtain ⟨a0,e0⟩:∃a,a=qoq[3*n]?.getD 0:=⟨_,rfl⟩;obtain ⟨J,e1⟩:∃a,a=qoq[3*n+1]?.getD 0:=⟨_,rfl⟩;obtain ⟨N,e2⟩:∃a,a=qoq[3*n+2]?.getD 0:=⟨_,rfl⟩;have er:(⟨(kT a0).1,(kT J).1,(kT N).1⟩:qs)=q5m n:=by unfold q5m;rw [if_pos q,e0,e1,e2]
  rw [<-e0,<-e1,<-e2];have W:∀{d:World} {o:List Value} (i:Nat) {x:Int} {X:Ub},Chg (λk=>w.heap.size<=k) w d->Chg (λk=>k=b.heap.size) w4 d->Blk d b.heap.size zt o->o.length=3->i<3->(∀w',Chg (λk=>w.heap.size<=k) w w'->Chg (λk=>k=b.heap.size) w4 w'->Blk w' b.heap.size zt (o.set i (.int .u8 x))->X w')->ixA ⟨b.heap.size,0,none⟩ 3 (i:Int) 1 λt=>stK t [.int .u8 x] d X:=by
   intro d o i x X p Y f M A hk;refine ⟨⟨by omega,by omega⟩,?_⟩;rw [qC,zero_add,mul_one];exact qD f (by rw [M];show i+1<=3;omega) λw' Z L af=>hk w' (p.trans (Chg.gg L) λj _ e=>by omega) (Y.trans (Chg.gg L) λj _ e=>e) Z
  refine lpR (λ(s:Int×Unit) d=>Chg (λk=>w.heap.size<=k) w d/\Chg (λk=>k=b.heap.size) w4 d /\
   (
    (s.1=0/\Blk d b.heap.size zt vi) \/
    (s.1=1/\Blk d b.heap.size zt [.int .u8 (kT a0).1,.int .u8 0,.int .u8 0]) \/
    (s.1=2/\Blk d b.heap.size zt [.int .u8 (kT a0).1,.int .u8 (kT J).1,.int .u8 0]) \/
    (s.1=3/\Blk d b.heap.size zt [.int .u8 (kT a0).1,.int .u8 (kT J).1,.int .u8 (kT N).1]))) (λs=>3-s.1.toNat) ⟨E,Chg.refl _ _,.inl ⟨rfl,h4⟩⟩ ?_
  rintro ⟨i,u⟩ d ⟨p,hc3,⟨A,f⟩ | ⟨A,f⟩ | ⟨A,f⟩ | ⟨A,f⟩⟩ I hI
  all_goals (dsimp only at A ⊢;subst A)
  ·exact cT rfl (cT rfl (Zy a0 (W 0 p hc3 f rfl (by omega) λw' v y l=>hI _ _ ⟨v,y,.inr (.inl ⟨by show i64.wrap (0+1)=1;decide,l⟩)⟩ (by show 3-(i64.wrap (0+1)).toNat<3-(0:Int).toNat;decide))))
  ·exact cT rfl (cF rfl (cT rfl (Zy J (W 1 p hc3 f rfl (by omega) λw' v y l=>hI _ _ ⟨v,y,.inr (.inr (.inl ⟨by show i64.wrap (1+1)=2;decide,l⟩))⟩ (by show 3-(i64.wrap (1+1)).toNat<3-(1:Int).toNat;decide)))))
  ·exact cT rfl (cF rfl (cF rfl (cT rfl (Zy N (W 2 p hc3 f rfl (by omega) λw' v y l=>hI _ _ ⟨v,y,.inr (.inr (.inr ⟨by show i64.wrap (2+1)=3;decide,l⟩))⟩ (by show 3-(i64.wrap (2+1)).toNat<3-(2:Int).toNat;decide))))))
  ·exact cF rfl (m (c:=⟨(kT a0).1,(kT J).1,(kT N).1⟩) p f ⟨_,F.chg hc3 (by omega),rfl⟩ er)
open IntKind (i64)
set_option maxRecDepth 400000
def ziq (c:qs):qV:=⟨c.e0,c.e1,c.e2⟩
def qym (clear:Bool) (most:Int):Nat->SxD
 | 0=>⟨clear,most,List.replicate 768 0,0,0,0,0,0,[],false,false,false,false,0,[],0,0⟩
 | k+1=>(qym clear most k).sx_setC k (ziq (q5m k))
theorem zcv (k:Nat):q5p (ziq (q5m k)):=by
 unfold q5m;split
 ·exact ⟨qo0 _,qo0 _,qo0 _⟩
 ·exact ⟨⟨Int.le_refl _,by show (0:Int)<=255;omega⟩,⟨Int.le_refl _,by show (0:Int)<=255;omega⟩,⟨Int.le_refl _,by show (0:Int)<=255;omega⟩⟩
theorem q7e {clear:Bool} {most:Int} (h:0<=most/\most<=1073741824):∀k,SxOk (qym clear most k)
 | 0=>⟨by show (List.replicate 768 (0:Int)).length=768;rw [List.length_replicate],λc a=>by
   obtain rfl:c=0:=(List.mem_replicate.1 a).2;omega,by show 0<256;omega,⟨zero_le _,zero_le _⟩,⟨zero_le _,zero_le _⟩,h,h.1,λ_=>rfl,λ_=>rfl,zero_le _,(λc a=>by cases a),zero_le _,zero_le _,by show 0<256;omega⟩
 | k+1=>(q7e h k).sx_setC k (zcv k)
section
variable {w w':World} {base:Nat} {F F':SxF} {D D':SxD}
theorem za3 {clear:Bool} {most:Int} {K:Option Addr->Int->Ub} (h0:¬(0<=most/\most<=1073741824)->K none 1 w)
  (h1:0<=most/\most<=1073741824->∀w',SxM w' w.heap.size ⟨w.heap.size,⟨none,0,0⟩,⟨none,0,0⟩⟩ (qym clear most 256)->Uc w w'->K (some ⟨w.heap.size,0,none⟩) 0 w'):VX clear most w K:=by
 refine q09 _ _ ?_;refine jpO λJ t=>?_;refine cO (λe=>h0 (by have:=oTq e;omega)) λe=>?_;refine cO (λj=>h0 (by have:=oTq j;omega)) λj=>?_;have r:0<=most/\most<=1073741824:=by have:=oFq e;have:=oFq j;omega
 have h1:=h1 r;refine t _ _ ?_;refine nwb λl v n x=>?_;obtain ⟨F,d⟩:∃F:SxF,F=⟨w.heap.size,⟨none,0,0⟩,⟨none,0,0⟩⟩:=⟨_,rfl⟩;have y:SxM l w.heap.size F (qym clear most 0):=by
  rw [d];refine ⟨?_,le_refl _,Go.Vc.Own.nil _ _ _,Go.Vc.Own.nil _ _ _,q7e r 0⟩;unfold sxC sxH;show Blk l w.heap.size y1 (([.bool clear,.int .i64 most]++(List.replicate 768 (0:Int)).map (Value.int .u8))++_);rw [List.map_replicate];exact v
 have z:w.heap.size=F.g:=by rw [d]
 refine lpR (λ(o:Int×Unit) w3=>∃k:Nat,o.1=k/\k<=256/\SxT w.heap.size l F F (qym clear most k) w3) (λo=>256-o.1.toNat) ⟨0,rfl,by omega,SxT.refl y⟩ ?_;rintro ⟨i,u⟩ w3 ⟨k,p,a,f⟩ I hI;dsimp only at p ⊢;subst p;refine cO (λe=>?_) λe=>?_
 ·have b:k<256:=by have:=oTq e;omega
  have c:=f.trans f.m.drew;refine zbq b λw4 q=>⟨⟨by omega,by omega⟩,?_⟩;have s:=c.trans (SxT.of_ext c.m q);rw [z];rw [show ((⟨F.g,0,none⟩:Addr).add 2).add (((k:Nat):Int).toNat*3)=(⟨F.g,0,none⟩:Addr).add (2+k*3) by rw [qC,qC,qC];simp];show stK _ (qV.rep.cells (ziq (q5m k))) w4 _;refine q20 s.m b (zcv k) λB A=>?_;rw [qM (by omega)];exact hI _ _ ⟨k+1,by simp,by omega,s.trans A⟩ (by show 256-((k:Int)+1).toNat<256-((k:Nat):Int).toNat;omega)
 ·have:k=256:=by have:=oFq e;omega
  subst this;have:=f.m;rw [d] at this;refine h1 w3 this (((Chg.of_ext (S:=λk=>k=w.heap.size) n).trans (f.chg.mono λk _ a=>?_) λ_ _ h=>h).ext λi p e=>by omega);rw [d] at a;rcases a with a | a | a
  ·exact a
  ·cases a
  ·cases a
end
def yC (c:List UInt8) (m:List UInt8):Nat->List UInt8
 | 0=>m
 | k+1=>if (yC c m k)[4*k+3]?.getD 0=0 then qlv (yC c m k) (4*k) c else yC c m k
theorem qqc {c m:List UInt8} (hc:c.length=4) {n:Nat} (hm:m.length=4*n):∀k,k<=n->(yC c m k).length=4*n
 | 0,_=>hm
 | k+1,hk=>by
  have a:=qqc hc hm k (by omega);unfold yC;split
  ·rw [Ye (by omega) hc,a]
  ·exact a
open IntKind (i64)
set_option maxRecDepth 400000
def qd0 (D:SxD):List UInt8:=[UInt8.ofNat (D.cols[0]?.getD 0).toNat,UInt8.ofNat (D.cols[1]?.getD 0).toNat,UInt8.ofNat (D.cols[2]?.getD 0).toNat,255]
section
variable {w w':World} {base:Nat} {F F':SxF} {D D':SxD}
theorem q9c (h:SxM w base F D) {B mb t:Nat} {q:Slc} {P:List UInt8} {n:Nat} (hP:P.length=4*n) (hn:n<=268435456) (hq:Go.Vc.Own qo w B q P) (hqn:∀k,q.blk=some k->¬sxS F k/\k≠t) (ht:∃vs,Blk w t qx vs/\vs.length=3) (htF:¬sxS F t) (hmF:¬sxS F mb) (hmt:mb≠t) (hBm:B<=mb) (hBt:B<=t) {z:List Value} (hm:Blk w mb qx z) (hz:z.length=3) {K:qf->Int->Ub}
  (hK:∀w',SxM w' base F D->Go.Vc.Own qo w' B q (if D.clear=true then P else yC (qd0 D) P n)->Chg (λk=>B<=k) w w'->K ⟨D.w,D.h,q⟩ 0 w') :
  stK ⟨mb,0,none⟩ [(Ua (D.w:Int)),(Ua (D.h:Int)),(.slice q.a q.n q.c)] w λw8=>
      qH (some ⟨F.g,0,none⟩) λt58=>
      ixA (t58.add 2) 256 0 3 λt60=>
      ldS qV.rep t60 w8 λt61=>
      nw zV [(.int .u8 0),(.int .u8 0),(.int .u8 0)] w8 λc w9=>
      stK c (qV.rep.cells t61) w9 λw10=>
      zh (σ:=Int×Unit) (λI3 s_2 w11=>
       qW (λw12=>
        zW ((⟨mb,0,none⟩:Addr).add 2) w12 λt77=>
        ixK t77 (IntKind.i64.wrap (s_2.1+3)) 1 λt80=>
        ldI .u8 t80 w12 λt81=>
        cond (t81==0)
         (
          zW ((⟨mb,0,none⟩:Addr).add 2) w12.drew λt84=>
          slK t84 (some s_2.1) none 1 λt86=>
          ixA c 3 0 1 λt87=>
          ldI .u8 t87 w12.drew λt88=>
          ixA c 3 1 1 λt89=>
          ldI .u8 t89 w12.drew λt90=>
          ixA c 3 2 1 λt91=>
          ldI .u8 t91 w12.drew λt92=>
          nw qF [(.int .u8 t88),(.int .u8 t90),(.int .u8 t92),(.int .u8 255)] w12.drew λt93 w13=>
          w13.cell? ((⟨mb,0,none⟩:Addr).add 2)=some (.slice t84.a t84.n t84.c) /\
          zO PG (copy_ #[qj,qj] zJ #[(.slice t86.a t86.n t86.c),(.slice (some t93) 4 4)]) (Kind.int .i64) w13 λ(t94:Int) w14 =>
          I3 ((IntKind.i64.wrap (s_2.1+4)),()) w14)
         (I3 ((IntKind.i64.wrap (s_2.1+4)),()) w12)) λJ4=>
       zW ((⟨mb,0,none⟩:Addr).add 2) w11 λt64=>
       cond (decide (s_2.1<(t64.n:Int)))
        (
         gB (some ⟨F.g,0,none⟩) 0 w11 λt71=>
         cond (!t71)
          (J4 w11)
          (
          ldS qf.rep ⟨mb,0,none⟩ w11 λt95=>
          stK ⟨t,0,none⟩ (qf.rep.cells t95) w11 λw15=>
          ldS qf.rep ⟨t,0,none⟩ w15 λr_1=>
          K r_1 0 w15))
        (
         ldS qf.rep ⟨mb,0,none⟩ w11 λt95_1=>
         stK ⟨t,0,none⟩ (qf.rep.cells t95_1) w11 λw16=>
         ldS qf.rep ⟨t,0,none⟩ w16 λr_2=>
         K r_2 0 w16)) (0,()) w10:=by
 have ok:=h.ok;obtain ⟨vt,hvt,hlt⟩:=ht;have hqm:∀k,q.blk=some k->k≠mb:=qI hq hm (by decide);refine qD hm (by rw [hz];show 0+3<=3;omega) λw8 hb8 hg8 hs8=>?_;have c8:Chg (λk=>k=mb) w w8:=Go.Vc.Chg.gg hg8;rw [qhz (by rw [hz];rfl)] at hb8;have m8:SxM w8 base F D:=h.chg c8 λk hk e=>hmF (e ▸ hk);have q8:Go.Vc.Own qo w8 B q P:=hq.chg c8 hqm;have t8:Blk w8 t qx vt:=hvt.chg c8 λe=>hmt e.symm;simp only [onPtr_some];refine ⟨⟨by decide,by decide⟩,?_⟩;rw [show ((⟨F.g,0,none⟩:Addr).add 2).add ((0:Int).toNat*3)=(⟨F.g,0,none⟩:Addr).add (2+0*3) by rfl];refine qz (r:=qV.rep) (x:=⟨D.cols[0]?.getD 0,D.cols[1]?.getD 0,D.cols[2]?.getD 0⟩) (qox m8 (k:=0) (by omega)) ?_;refine nwb λw9 hb9 hB9 hs9=>?_;refine qD hb9 (by show 0+3<=3;omega) λw10 hb10 hg10 hs10=>?_;obtain ⟨cb,hcb⟩:∃cb,cb=w8.heap.size:=⟨_,rfl⟩;rw [<-hcb] at hb10 hg10 ⊢;have c10:Chg (λk=>k=cb) w8 w10:=(Chg.of_ext (S:=λk=>k=cb) hB9).trans (Go.Vc.Chg.gg hg10) λ_ _ h=>h;have hbt:∀{k t' vs},Blk w8 k t' vs->k≠cb:=λhb e=>by have:=hb.lt;omega
 have m10:SxM w10 base F D:=m8.chg c10 λk hk e=>by have:=(m8.below k hk).2;omega
 have q10:Go.Vc.Own qo w10 B q P:=q8.chg c10 λk hk e=>by have:=(q8.lt k hk).2;omega
 have hb10m:Blk w10 mb qx [.int .i64 (D.w:Int),.int .i64 (D.h:Int),.slice q.a q.n q.c]:=hb8.chg c10 (hbt hb8);have t10:=t8.chg c10 (hbt t8);have hcbB:B<=cb:=by have:=hb8.lt;omega
 have c010:Chg (λk=>B<=k) w w10:=(c8.mono λk _ e=>by omega).trans c10 λk _ e=>by omega
 have hqc:∀k,q.blk=some k->k≠cb:=λk hk e=>by have:=(q8.lt k hk).2;omega
 have tell:∀{w11:World},Chg (λk=>q.blk=some k) w10 w11->Go.Vc.Own qo w11 B q (if D.clear=true then P else yC (qd0 D) P n)->ldS qf.rep ⟨mb,0,none⟩ w11 λt95=>stK ⟨t,0,none⟩ (qf.rep.cells t95) w11 λw15=>ldS qf.rep ⟨t,0,none⟩ w15 λr_1=>K r_1 0 w15:=by
  intro w11 hc ho;have hbm:=hb10m.chg hc λhk=>hqm _ hk rfl;have hbt:=t10.chg hc λhk=>(hqn _ hk).2 rfl;refine qz (r:=qf.rep) (x:=⟨D.w,D.h,q⟩) hbm.cells (qD hbt (by rw [hlt];show 0+3<=3;omega) λw15 hb15 hg15 hs15=>?_);have hb15:Blk w15 t qx (qf.rep.cells ⟨D.w,D.h,q⟩):=by
   rw [qhz (by rw [hlt];rfl)] at hb15;exact hb15
  have c15:Chg (λk=>k=t) w11 w15:=Go.Vc.Chg.gg hg15;refine qz (r:=qf.rep) (x:=⟨D.w,D.h,q⟩) hb15.cells (hK w15 ((m10.chg hc λk hk e=>(hqn k e).1 hk).chg c15 λk hk e=>htF (e ▸ hk)) (ho.chg c15 λk hk e=>(hqn k hk).2 e) ?_);exact (c010.trans hc λk _ e=>(q8.lt k e).1).trans c15 λk _ e=>by omega
 have hqlen:q.n=4*n:=by rw [q10.rd.n,hP]
 refine lpR (λ(st:Int×Unit) w11=>∃k:Nat,st.1=(4*k:Nat)/\k<=n/\(k=0\/D.clear=false)/\Go.Vc.Own qo w11 B q (yC (qd0 D) P k)/\Chg (λk=>q.blk=some k) w10 w11) (λst=>4*n-st.1.toNat) ⟨0,rfl,zero_le _,.inl rfl,q10,Chg.refl _ _⟩ ?_;rintro ⟨i,u⟩ w11 ⟨k,hi,hk,hkc,ho11,hc11⟩ I hI;dsimp only at hi ⊢;subst hi;have hbm11:=hb10m.chg hc11 λhk=>hqm _ hk rfl;have m11:SxM w11 base F D:=m10.chg hc11 λk hk e=>(hqn k e).1 hk;have hl11:(yC (qd0 D) P k).length=4*n:=qqc rfl hP k hk;refine jpO λJ4 hJ4=>lSl (x:=q) (by rw [qC];exact hbm11.cell 2 rfl) ?_;rw [hqlen];refine cO (λe=>?_) λe=>?_
 ·have hkn:k<n:=by have:=oTq e;omega
  refine jw (x:=D.clear) (by rw [qC];exact m11.blk.cell 0 rfl) (cO (λe=>?_) λe=>?_)
  ·have hcl:D.clear=false:=by simpa using e
   refine hJ4 _ _ (lSl (x:=q) (by rw [qC];exact hbm11.cell 2 rfl) ?_);rw [qM (x:=((4*k:Nat):Int)+3) (by omega),show ((4*k:Nat):Int)+3=((4*k+3:Nat):Int) by omega,qM (x:=((4*k:Nat):Int)+4) (by omega),show ((4*k:Nat):Int)+4=((4*(k+1):Nat):Int) by omega];refine ho11.rd.ix (i:=((4*k+3:Nat):Int)) (k:=1) rfl (by omega) (by rw [hl11];omega) λhcell=>?_;have hlt':4*k+3<(yC (qd0 D) P k).length:=by omega
   obtain ⟨b,hb⟩:∃b,b=(yC (qd0 D) P k)[4*k+3]'hlt':=⟨_,rfl⟩;have hcell:qG w11 (q.at_ qo.k ((4*k+3:Nat):Int).toNat) [.int .u8 ((b.toNat:Nat):Int)]:=by rw [hb];exact hcell
   refine lI (x:=(b.toNat:Int)) (by simpa using hcell 0 _ rfl) ?_;have hbs:(yC (qd0 D) P k)[4*k+3]?.getD 0=b:=by rw [List.getElem?_eq_getElem hlt',hb];rfl
   have step:yC (qd0 D) P (k+1)=if b=0 then qlv (yC (qd0 D) P k) (4*k) (qd0 D) else yC (qd0 D) P k:=by
    show (if (yC (qd0 D) P k)[4*k+3]?.getD 0=0 then _ else _)=_;rw [hbs]
   refine cO (λe=>?_) λe=>?_
   ·have hb0:b=0:=by
     have e:(b.toNat:Int)=0:=eq_of_beq e;exact UInt8.toNat_inj.1 (by show b.toNat=0;omega)
    rw [if_pos hb0] at step;have hbm:=hbm11.drew;have hcc:Blk w11.drew cb zV _:=(hb10.chg hc11 λhk=>hqc _ hk rfl).drew;have ho12:=ho11.drew;refine lSl (x:=q) (by rw [qC];exact hbm.cell 2 rfl) ?_;refine ho12.rd.slK (l:=4*k) (m:=(yC (qd0 D) P k).length) rfl (.inr rfl) (.inl ⟨rfl,rfl⟩) (by omega) (le_refl _) λ_=>?_;refine ⟨⟨by decide,by decide⟩,lI (x:=D.cols[0]?.getD 0) (by rw [qC];exact hcc.cell 0 rfl) ⟨⟨by decide,by decide⟩,?_⟩⟩;refine lI (x:=D.cols[1]?.getD 0) (by rw [qC];exact hcc.cell 1 rfl) ⟨⟨by decide,by decide⟩,?_⟩;refine lI (x:=D.cols[2]?.getD 0) (by rw [qC];exact hcc.cell 2 rfl) ?_;refine nwb λw13 hb13 hB13 hs13=>⟨by rw [qC];exact (hbm.ext hB13).cell 2 rfl,?_⟩;have hpx:jT (qd0 D)=[.int .u8 (D.cols[0]?.getD 0),.int .u8 (D.cols[1]?.getD 0),.int .u8 (D.cols[2]?.getD 0),.int .u8 255]:=q35 (D:={ D with now:=0 }) ⟨ok.cl,ok.cu,by show 0<256;omega,ok.xy,ok.wh,ok.m0,ok.fits,ok.pl,ok.pf,ok.nl,ok.nr,ok.v,ok.rep,ok.cmd⟩;rw [<-hpx] at hb13;have hx:Rd qo w13 ⟨some ⟨w11.drew.heap.size,0,none⟩,4,4⟩ (qd0 D):=by
     refine ⟨rfl,le_refl _,by simp [maxLen],λ_=>rfl,λi y hy=>?_⟩;have hbc:=hb13.cell i (v:=.int .u8 (y.toNat:Int)) (by unfold jT;rw [List.getElem?_map,hy];rfl);intro j' v' hj'
     match j',hj' with
     | 0,hj' =>
      cases hj';show w13.cell? (((⟨w11.drew.heap.size,0,none⟩:Addr).add (i*1)).add 0)=_;rw [qC,qC,mul_one,zero_add,Nat.add_zero];exact hbc
     | j'+1,hj'=>simp [qo] at hj'
    have ho13:=ho12.ext hB13;obtain ⟨gq,ha⟩:∃gq,q.a=some ⟨gq,0,none⟩:=by
     rcases ho13.form with ⟨_,e0⟩ | ⟨g,cur,hs,_⟩
     ·rw [e0] at hl11;exfalso;have h0:(0:Nat)=4*n:=hl11;omega
     ·exact ⟨g,by rw [hs]⟩
    obtain ⟨cur,hcur,hcl',hct,hc1,hc2',hc3',hc4'⟩:=qki (c:=0) ho13 ha;have hcut:cut q.a (4*k) q.c qo.k=some ⟨gq,4*k,none⟩:=by
     unfold cut;rw [if_neg (by omega),ha];show some ((⟨gq,0,none⟩:Addr).add (4*k*1))=_;rw [qC,mul_one,zero_add]
    dsimp only;rw [hcut];refine q3v (x:=⟨some ⟨w11.drew.heap.size,0,none⟩,4,4⟩) (ys:=qd0 D) (n:=4) hcur hx (by show 4=min 4 _;omega) (by omega) λw14 hb14 hc14 hs14=>?_;rw [List.take_of_length_le (by show 4<=4;omega)] at hb14;have ho14:=qpa (ys:=qd0 D) (k:=4*k) ho13 ha hcur (by show 4*k+4<=_;omega) hb14;refine hI _ _ ⟨k+1,rfl,by omega,.inr hcl,?_,((hc11.trans (Chg.of_ext (S:=λk=>q.blk=some k) (bdw w11)) λ_ _ h=>h).trans (Chg.of_ext (S:=λk=>q.blk=some k) hB13) λ_ _ h=>h).trans hc14 λk' _ e=>by rw [e];show q.a.map (·.block)=some gq;rw [ha];rfl⟩ (by show 4*n-((4*(k+1):Nat):Int).toNat<4*n-((4*k:Nat):Int).toNat;omega);rw [step];exact ho14
   ·have hb0:¬b=0:=λe0=>by rw [e0] at e;exact absurd e (by decide)
    rw [if_neg hb0] at step;exact hI _ _ ⟨k+1,rfl,by omega,.inr hcl,by rw [step];exact ho11,hc11⟩ (by show 4*n-((4*(k+1):Nat):Int).toNat<4*n-((4*k:Nat):Int).toNat;omega)
  ·have hcl:D.clear=true:=by simpa using e
   obtain rfl:k=0:=hkc.resolve_right (by rw [hcl];decide);exact tell hc11 (by rw [if_pos hcl];exact ho11)
 ·have hkn:k=n:=by have:=oFq e;omega
  subst hkn;refine tell hc11 ?_;split
  ·rename_i hcl;obtain rfl:k=0:=hkc.resolve_right (by rw [hcl];decide);exact ho11
  ·exact ho11
def xk (D:SxD):SxD×Int×List UInt8 :=
 let E:=if D.full=false/\D.over=false then D.done else D
 if E.full=true then (E,6,[])
 else if E.w=0\/E.over=true then ({ E with over:=true },7,[])
 else ({ E with over:=true },0,if E.clear=true then E.p else yC (qd0 E) E.p (E.w*E.h))
theorem zaf (h:SxM w base F D) {K:qf->Int->Ub}
  (hK:∀F' w' m,SxT base w F F' (xk D).1 w'->((xk D).2.1=0->m.W=(((xk D).1.w:Nat):Int)/\m.H=(((xk D).1.h:Nat):Int)/\Go.Vc.Own qo w' w.heap.size m.P (xk D).2.2/\∀k,m.P.blk=some k->¬sxS F' k)->K m (xk D).2.1 w'):ZL (some ⟨F.g,0,none⟩) w K:=by
 refine qjo _ ?_;refine nwb λw1 h1 av a6=>?_;have t1:=SxT.of_ext h av;have O:¬sxS F w.heap.size:=λf=>by have:=(h.below _ f).2;omega
 refine jpO λJ1 aw=>?_;obtain ⟨E,hE⟩:∃E,E=if D.full=false/\D.over=false then D.done else D:=⟨_,rfl⟩
 have j:xk D=if E.full=true then (E,6,[]) else if E.w=0\/E.over=true then ({ E with over:=true },7,[]) else ({ E with over:=true },0,if E.clear=true then E.p else yC (qd0 E) E.p (E.w*E.h)):=by rw [hE];rfl
 have ab:∀N w2,SxT base w F N E w2->(∃A,Blk w2 w.heap.size qx A/\A.length=3)->¬sxS N w.heap.size->w.heap.size<w2.heap.size->J1 () w2:=by
  intro N w2 Q ⟨A,aj,R⟩ hnt hlt;refine aw _ _ ?_;rw [<-Q.g];have m2:=Q.m;have d:=m2.ok;have C:∀{F3:SxF} {w3:World} {e:Int} {G:SxD},SxT base w F F3 G w3->Blk w3 w.heap.size qx A->¬sxS F3 w.heap.size->xk D=(G,e,[])->e≠0->stK ⟨w.heap.size,0,none⟩ [(Ua 0),(Ua 0),(.slice none 0 0)] w3 λw4=>ldS qf.rep ⟨w.heap.size,0,none⟩ w4 λr=>K r e w4:=by
   intro F3 w3 e G t3 hb hn he h0;refine qD hb (by rw [R];show 0+3<=3;omega) λw4 ak ax a7=>?_;rw [qhz (by rw [R];rfl)] at ak;have c4:Chg (λk=>k=w.heap.size) w3 w4:=Go.Vc.Chg.gg ax;refine qz (r:=qf.rep) (x:=⟨0,0,⟨none,0,0⟩⟩) ak.cells ?_;have t4:SxT base w F F3 G w4:=⟨t3.m.chg c4 λk f e=>hn (e ▸ f),t3.old,t3.chg.trans c4 λi hi e=>by omega,t3.g⟩;have:=hK F3 w4 ⟨0,0,⟨none,0,0⟩⟩;rw [he] at this;exact this t4 λh=>absurd h h0
  simp only [onPtr_some];refine jw (x:=E.full) (m2.tl 8 rfl) (cO (λe=>?_) λe=>?_)
  ·rw [if_pos e] at j;exact C Q aj hnt j (by decide)
  have hf:E.full=false:=e;rw [if_neg (by rw [hf];decide)] at j;refine jw (x:=E.over) (m2.tl 9 rfl) ?_;obtain ⟨G,y⟩:∃G:SxD,G={ E with over:=true }:=⟨_,rfl⟩;have okG:SxOk G:=by rw [y];exact ⟨d.cl,d.cu,d.now,d.xy,d.wh,d.m0,d.fits,d.pl,d.pf,d.nl,d.nr,d.v,d.rep,d.cmd⟩
  rw [<-y] at j;refine m2.st 9 G (by decide) (by rw [y];rfl) (by rw [y];rfl) (by rw [y]) (by rw [y]) okG λw4 ac=>?_;have t4:=Q.trans ac;have m4:=t4.m;have al:Blk w4 w.heap.size qx A:=aj.chg ac.chg hnt;have z4:=ac.chg.size;refine jpO λJ2 ay=>jpO λJ7 az=>?_;have am:E.w≠0->E.over=false->J2 () w4:=by
   intro hw ho;rw [if_neg (by rw [ho];exact λo=>o.elim hw (by decide))] at j;refine ay _ _ ?_;have ad:=t4.trans m4.drew;have I:=ad.m;have ae:E.p.length=4*(E.w*E.h):=by rw [d.pl hf,mul_assoc]
   have an:E.w*E.h<=268435456:=by
    have h1:=d.fits;have h2:=d.m0;rw [mul_assoc] at h1;omega
   have S:G.p=E.p:=by rw [y]
   have J:G.w=E.w:=by rw [y]
   have L:G.h=E.h:=by rw [y]
   have a1:G.clear=E.clear:=by rw [y]
   have a2:qd0 G=qd0 E:=by rw [y];rfl
   have X:Blk w4.drew w.heap.size qx A:=al.drew;have zd:w4.drew.heap.size=w4.heap.size:=rfl;refine lI (x:=(G.w:Int)) (I.tl 3 rfl) (lI (x:=(G.h:Int)) (I.tl 4 rfl) (lSl (x:=N.q) (I.tl 5 rfl) ?_));have ao:∀(r:Slc) (w7:World) (mb:Nat) (z:List Value),Below w4.drew.heap.size w4.drew w7->Go.Vc.Own qo w7 w4.drew.heap.size r G.p->w4.drew.heap.size<=mb->Blk w7 mb qx z->z.length=3->∀w',SxM w' base N G->Go.Vc.Own qo w' w.heap.size r (if G.clear=true then G.p else yC (qd0 G) G.p (G.w*G.h))->Chg (λk=>w.heap.size<=k) w7 w'->K ⟨G.w,G.h,r⟩ 0 w':=by
    intro r w7 mb z T u a8 hz a9 w' mG ap a3;have t7:=ad.trans (SxT.of_ext I T);have tF:SxT base w F N G w':=⟨mG,λk f=>?_,t7.chg.trans a3 λi hi e=>by omega,t7.g⟩
    ·have:=hK N w' ⟨G.w,G.h,r⟩;rw [j] at this;refine this tF λ_=>⟨rfl,rfl,?_,λk f U=>?_⟩
     ·rw [S,J,L,a1,a2] at ap;exact ap
     ·have h1:=(I.below k U).2;have h2:=(u.lt k f).1;omega
    ·exact ad.old k f
   have sz:∀k,sxS N k->k<w4.drew.heap.size:=λk f=>(I.below k f).2;have aq:G.p.length<=900000000000:=by rw [S,ae];omega
   refine ⟨?_,?_⟩
   ·refine Xp I.q.rd aq λr w6 u af=>?_;have m6:=I.ext af;refine ⟨m6.tl 4 rfl,m6.tl 3 rfl,?_⟩;refine nwb λw7 h7 T ba=>?_;have ah:=bT af T;have m7:=I.ext ah;have z6:=af.size;have s:=u.ext T;refine ⟨m7.tl 5 rfl,m7.tl 4 rfl,m7.tl 3 rfl,?_⟩;refine q9c (t:=w.heap.size) (n:=G.w*G.h) (P:=G.p) (B:=w.heap.size) m7 (by rw [S,J,L];exact ae) (by rw [J,L];exact an) (s.base (by omega)) (λk f=>⟨λU=>by have:=sz k U;have:=(s.lt k f).1;omega,by have:=(s.lt k f).1;omega⟩) ⟨A,X.ext ah,R⟩ hnt (λU=>by have:=sz _ U;omega) (by omega) (by omega) (le_refl _) h7 rfl λw' a b c=>ao r w7 w6.heap.size _ ah s (by omega) h7 rfl w' a b c
   ·refine nwb λbb a4 Y a5=>?_;have V:=I.ext Y;refine ⟨V.tl 5 rfl,V.tl 4 rfl,V.tl 3 rfl,?_⟩;refine Xp V.q.rd aq λr ar u Z=>?_;have M:=bT Y Z;have ai:=I.ext M;refine ⟨ai.tl 4 rfl,ai.tl 3 rfl,?_⟩;have l:Go.Vc.Own qo ar w4.drew.heap.size r G.p:=u.base (by omega);have au:=a4.ext Z;refine q9c (t:=w.heap.size) (n:=G.w*G.h) (P:=G.p) (B:=w.heap.size) ai (by rw [S,J,L];exact ae) (by rw [J,L];exact an) (u.base (by omega)) (λk f=>⟨λU=>by have:=sz k U;have:=(l.lt k f).1;omega,by have:=(l.lt k f).1;omega⟩) ⟨A,X.ext M,R⟩ hnt (λU=>by have:=sz _ U;omega) (by omega) (by omega) (le_refl _) au rfl λw' a b c=>ao r ar w4.drew.heap.size _ M l (le_refl _) au rfl w' a b c
  have aa:∀b:Bool,(b=true↔(E.w=0\/E.over=true))->J7 (b,()) w4:=by
   intro b hb;refine az _ _ (cO (λe=>?_) λe=>?_)
   ·rw [if_pos (hb.1 e)] at j;exact C t4 al hnt j (by decide)
   ·have o:¬_:=λo=>by rw [hb.2 o] at e;cases e
    exact am (λh=>o (.inl h)) (by cases ho:E.over with | false=>rfl | true=>exact absurd (.inr ho) o)
  refine lI (x:=(E.w:Int)) (by have:=m4.tl 3 (v:=.int .i64 (G.w:Int)) rfl;rw [y] at this;exact this) ?_;refine cO (λe=>?_) λe=>?_
  ·have e:(E.w:Int)=0:=eq_of_beq e;exact aa true ⟨λ_=>.inl (by omega),λ_=>rfl⟩
  ·have e:¬(E.w:Int)=0:=beq_eq_false_iff_ne.1 e;exact aa _ ⟨.inr,λo=>o.resolve_left (by omega)⟩
 have v1:∃A,Blk w1 w.heap.size qx A/\A.length=3:=⟨_,h1,rfl⟩;simp only [onPtr_some];refine jw (x:=D.full) (t1.m.tl 8 rfl) (cO (λe=>?_) λe=>?_)
 ·have hf:D.full=false:=by simpa using e
  refine jw (x:=D.over) (t1.m.tl 9 rfl) (cO (λe=>?_) λe=>?_)
  ·have ho:D.over=false:=by simpa using e
   rw [if_pos ⟨hf,ho⟩] at hE;refine q3y t1.m hf λN w2 Q=>ab N w2 (by rw [hE];exact t1.trans Q) ⟨_,h1.chg Q.chg O,rfl⟩ (λf=>?_) (by have:=Q.chg.size;omega);rcases Q.old _ f with h3 | h3
   ·exact O h3
   ·omega
  ·have ho:D.over=true:=by simpa using e
   rw [if_neg (λo=>by rw [ho] at o;cases o.2)] at hE;exact ab F w1 (by rw [hE];exact t1) v1 O (by omega)
 ·have hf:D.full=true:=by simpa using e
  rw [if_neg (λo=>by rw [hf] at o;cases o.1)] at hE;exact ab F w1 (by rw [hE];exact t1) v1 O (by omega)
end
def sxO:Option SxF->Nat->Prop
 | some f,k=>sxS f k
 | none,_=>False
def SxO (w:World) (base:Nat):Option SxF->Option SxD->Prop
 | some f,some D=>SxM w base f D
 | none,none=>True
 | _,_=>False
def sxP (o:Option SxF):Option Addr:=o.map λf=>⟨f.g,0,none⟩
section
variable {w w':World} {base:Nat} {f:Option SxF} {d:Option SxD}
theorem SxO.below (h:SxO w base f d) (k:Nat) (hk:sxO f k):base<=k/\k<w.heap.size:=by
 match f,d,h,hk with
 | some f,some D,h,hk=>exact SxM.below h k hk
theorem SxO.chg {X:Nat->Prop} (h:SxO w base f d) (hc:Chg X w w') (hX:∀k,sxO f k->¬X k):SxO w' base f d:=by
 match f,d,h with
 | some f,some D,h=>exact SxM.chg h hc hX
 | none,none,h=>exact h
theorem SxO.typd (h:SxO w base f d) (k:Nat) (hk:sxO f k):typd w k:=by
 match f,d,h,hk with
 | some f,some D,h,.inl e=>subst e;exact ⟨_,_,SxM.blk h,by decide⟩
 | some f,some D,h,.inr (.inl e)=>exact qgn (SxM.q h) (by decide) k e
 | some f,some D,h,.inr (.inr e)=>exact qgn (SxM.nq h) (by decide) k e
end
theorem qyr {f f':Nat->Nat->Prop} {n:Nat} (i0:Nat) (dj:∀i j k,f i k->f j k->i=j) (lt:∀i k,f i k->k<n) (old:∀i k,f' i k->f i k\/n<=k/\i=i0):∀i j k,f' i k->f' j k->i=j:=by
 intro i j k e c;rcases old i k e with b | ⟨b,g⟩
 ·rcases old j k c with a | ⟨a,d⟩
  ·exact dj i j k b a
  ·have:=lt i k b;omega
 ·rcases old j k c with a | ⟨a,d⟩
  ·have:=lt j k a;omega
  ·rw [g,d]
structure TmF where
 tg:Nat
 sg:Nat
 SF:ScF
 eg:Nat
 KF:KF
 pg:Nat
 dF:Option SxF
 cq:Slc
 rq:Slc
structure TS where
 c:qY
 S:Sc
 E:KE
 n:Nat
 d:Option SxD
 cmd:List UInt8
 long:Bool
 rep:List UInt8
 f0:Int
 f1:Int
def qzi (F:TmF) (T:TS):List Value:=[.int .i64 T.c.Rows,.int .i64 T.c.Cols,.int .i64 T.c.CellW,.int .i64 T.c.CellH,.int .i64 T.c.Back,.int .i64 T.c.Quota,.pointer (some ⟨F.sg,0,none⟩),.pointer (some ⟨F.eg,0,none⟩),.pointer (some ⟨F.pg,0,none⟩),.pointer (sxP F.dF),.slice F.cq.a F.cq.n F.cq.c,.bool T.long,.slice F.rq.a F.rq.n F.rq.c,.int .i64 T.f0,.int .i64 T.f1]
def kV (F:TmF) (k:Nat):Prop:=k=F.tg\/scS F.sg F.SF k\/vC F.eg F.KF k\/F.cq.blk=some k\/F.rq.blk=some k\/sxO F.dF k
def qx1 (F:TmF) (E:KE):Nat->Nat->Prop
 | 0,k=>k=F.tg
 | 1,k=>scS F.sg F.SF k
 | 2,k=>vC F.eg F.KF k\/ka E.S k
 | 3,k=>F.cq.blk=some k
 | 4,k=>F.rq.blk=some k
 | 5,k=>sxO F.dF k
 | _,_=>False
structure TermM (w:World) (base:Nat) (F:TmF) (T:TS):Prop where
 blk:Blk w F.tg Ko (qzi F T)
 hg:base<=F.tg
 sc:ScM w base F.sg F.SF T.S
 en:EngM w base F.eg F.KF T.E T.n
 cq:Go.Vc.Own qo w base F.cq T.cmd
 rq:Go.Vc.Own qo w base F.rq T.rep
 dx:SxO w base F.dF T.d
 dj:∀i j k,qx1 F T.E i k->qx1 F T.E j k->i=j
 nl:∀k,F.KF.LS k->typd w k
 tab:Tab w
 b4:4<=base
section
variable {w w':World} {base:Nat} {F F':TmF} {T T':TS}
theorem qzn {w:World} {base g n:Nat} {F:KF} {E:KE} (h:EngM w base g F E n) {k:Nat} (hk:ka E.S k):base<=k/\∃cs,Blk w k qF cs:=by
 obtain ⟨p,a,b⟩:=hk;exact (h.st.img p a).blk k b
theorem TermM.foot_lt (h:TermM w base F T):∀i k,qx1 F T.E i k->k<w.heap.size
 | 0,k,hk=>by rw [show k=F.tg from hk];exact h.blk.lt
 | 1,k,hk=>(h.sc.below k hk).2
 | 2,k,.inl hk=>(h.en.below k hk).2
 | 2,k,.inr hk=>by obtain ⟨_,b,a⟩:=qzn h.en hk;exact a.lt
 | 3,k,hk=>(h.cq.lt k hk).2
 | 4,k,hk=>(h.rq.lt k hk).2
 | 5,k,hk=>(h.dx.below k hk).2
theorem TermM.below (h:TermM w base F T):∀k,kV F k->base<=k/\k<w.heap.size:=by
 rintro k (rfl | hk | hk | hk | hk | hk)
 ·exact ⟨h.hg,h.blk.lt⟩
 ·exact h.sc.below k hk
 ·exact h.en.below k hk
 ·exact h.cq.lt k hk
 ·exact h.rq.lt k hk
 ·exact h.dx.below k hk
theorem TermM.farE (h:TermM w base F T):far (vC F.eg F.KF) w:=by
 rintro k a (rfl | (rfl | rfl) | (rfl | hk) | hk) hb
 ·exact h.en.blk.ne_t hb (by decide) rfl
 ·exact h.en.st.blk.ne_t hb (by decide) rfl
 ·exact h.en.st.map.ne_blk hb rfl
 ·exact h.en.tb.blk.ne_t hb (by decide) rfl
 ·exact qI h.en.tb.own hb (by decide) k hk rfl
 ·exact (h.nl k hk).not a hb
theorem TermM.far (h:TermM w base F T):far (kV F) w:=by
 rintro k a (rfl | hk | hk | hk | hk | hk) hb
 ·exact h.blk.ne_t hb (by decide) rfl
 ·exact h.sc.notC k a hk hb
 ·exact h.farE k a hk hb
 ·exact qI h.cq hb (by decide) k hk rfl
 ·exact qI h.rq hb (by decide) k hk rfl
 ·exact (h.dx.typd k hk).not a hb
theorem TermM.keep {X:Nat->Prop} (h:TermM w base F T) (hc:Chg X w w') (hX:∀k,kV F k->¬X k) (hi:∀k,ka T.E.S k->¬X k) (hf:Go.Proofs.YtjhgepnpnapnoaaGreatDoor.far X w) (ht:Tab w'):TermM w' base F T :=
 ⟨h.blk.chg hc (hX _ (.inl rfl)),h.hg,h.sc.keep hc (λk a=>hX k (.inr (.inl a))) hf,h.en.chgS hc (λk a=>hX k (.inr (.inr (.inl a)))) hi,h.cq.chg hc λk a=>hX k (.inr (.inr (.inr (.inl a)))),h.rq.chg hc λk a=>hX k (.inr (.inr (.inr (.inr (.inl a))))),
  h.dx.chg hc λk a=>hX k (.inr (.inr (.inr (.inr (.inr a))))),h.dj,λk a=>(h.nl k a).chg hc (hX k (.inr (.inr (.inl (.inr (.inr (.inr a))))))),ht,h.b4⟩
theorem TermM.ext (h:TermM w base F T) (hB:Uc w w'):TermM w' base F T:=h.keep (Chg.of_ext (S:=λ_=>False) hB) (λ_ _ h=>h) (λ_ _ h=>h) (λ_ _ h=>h.elim) (h.tab.ext hB)
theorem TermM.drew (h:TermM w base F T):TermM w.drew base F T:=h.ext ((Below.refl _ w).drew)
theorem TermM.base_le (h:TermM w base F T):base<=w.heap.size:=Nat.le_trans h.hg (Nat.le_of_lt h.blk.lt)
structure TmT (base:Nat) (w:World) (F F':TmF) (T':TS) (w':World):Prop where
 m:TermM w' base F' T'
 old:∀k,kV F' k->kV F k\/w.heap.size<=k
 chg:Chg (kV F) w w'
 tg:F'.tg=F.tg
 pg:F'.pg=F.pg
theorem TmT.refl (h:TermM w base F T):TmT base w F F T w:=⟨h,λk a=>.inl a,Chg.refl _ _,rfl,rfl⟩
theorem TmT.trans {w1 w2:World} {F1 F2:TmF} {T1 T2:TS} (h:TmT base w F F1 T1 w1) (h2:TmT base w1 F1 F2 T2 w2):TmT base w F F2 T2 w2:=by
 have c:=h.chg.size;refine ⟨h2.m,λk b=>?_,h.chg.trans h2.chg λi d b=>?_,h2.tg.trans h.tg,h2.pg.trans h.pg⟩
 ·rcases h2.old k b with a | a
  ·exact h.old k a
  ·right;omega
 ·rcases h.old i b with a | a
  ·exact a
  ·omega
theorem TmT.of_ext (h:TermM w base F T) (hB:Uc w w'):TmT base w F F T w':=⟨h.ext hB,λk a=>.inl a,Chg.of_ext hB,rfl,rfl⟩
theorem TmT.drew {F1:TmF} {T1:TS} {w1:World} (h:TmT base w F F1 T1 w1):TmT base w F F1 T1 w1.drew:=h.trans (TmT.of_ext h.m ((Below.refl _ w1).drew))
theorem TmT.ext {F1:TmF} {T1:TS} {w1 w2:World} (h:TmT base w F F1 T1 w1) (hB:Uc w1 w2):TmT base w F F1 T1 w2:=h.trans (TmT.of_ext h.m hB)
theorem TermM.belowB (h:TermM w base F T) (hT:TmT base w F F' T' w'):Below base w w':=hT.chg.below h.base_le λi b a=>by have:=(h.below i a).1;omega
theorem qbv {X:Nat->Prop} (h:TermM w base F T) (hc:Chg X w w') (hX:∀k,X k->base<=k):Tab w':=h.tab.below4 ((hc.below h.base_le λi b a=>by have:=hX i a;omega).mono (by have:=h.b4;omega))
theorem TermM.putD (h:TermM w base F T) {F':TmF} {T':TS} (hb:Blk w' F.tg Ko (qzi F' T')) (hc:Chg (λk=>k=F.tg) w w') (e1:F'.tg=F.tg) (e2:F'.sg=F.sg) (e3:F'.SF=F.SF) (e4:F'.eg=F.eg) (e5:F'.KF=F.KF) (e0:F'.pg=F.pg) (s1:T'.S=T.S) (s2:T'.E=T.E) (s3:T'.n=T.n)
  (cq:Go.Vc.Own qo w base F'.cq T'.cmd) (rq:Go.Vc.Own qo w base F'.rq T'.rep) (dx:SxO w base F'.dF T'.d) (bc:∀k,F'.cq.blk=some k->F.cq.blk=some k) (br:∀k,F'.rq.blk=some k->F.rq.blk=some k) (bd:∀k,sxO F'.dF k->sxO F.dF k):TmT base w F F' T' w':=by
 obtain ⟨tg,sg,l,eg,m,pg,o,p,q⟩:=F';obtain ⟨v,x,y,z,A,f,c,g,r,s⟩:=T';dsimp only at *;subst e1 e2 e3 e4 e5 s1 s2 s3;have t:Tab w':=qbv h hc λk e=>by rw [e];exact h.hg
 have b:∀j k,j≠0->qx1 F T.E j k->k≠F.tg:=λj k u a e=>u (h.dj j 0 k a e);refine ⟨⟨hb,h.hg,h.sc.keep hc (λk a e=>b 1 k (by decide) a e) (λk B e a=>by subst e;exact h.blk.ne_t a (by decide) rfl),h.en.chgS hc (λk a e=>b 2 k (by decide) (.inl a) e) (λk a e=>b 2 k (by decide) (.inr a) e),cq.chg hc (qI cq h.blk (by decide)),rq.chg hc (qI rq h.blk (by decide)),
  dx.chg hc (λk a e=>b 5 k (by decide) (bd k a) e),qyr 0 h.dj h.foot_lt (λi k a=>.inl ?_),λk a=>(h.nl k a).chg hc λe=>b 2 k (by decide) (.inl (.inr (.inr (.inr a)))) e,t,h.b4⟩,λk a=>.inl ?_,hc.mono λk _ e=>.inl e,rfl,e0⟩
 ·match i,a with
  | 0,a=>exact a
  | 1,a=>exact a
  | 2,a=>exact a
  | 3,a=>exact bc k a
  | 4,a=>exact br k a
  | 5,a=>exact bd k a
 ·rcases a with a | a | a | a | a | a
  ·exact .inl a
  ·exact .inr (.inl a)
  ·exact .inr (.inr (.inl a))
  ·exact .inr (.inr (.inr (.inl (bc k a))))
  ·exact .inr (.inr (.inr (.inr (.inl (br k a)))))
  ·exact .inr (.inr (.inr (.inr (.inr (bd k a)))))
theorem TermM.put (h:TermM w base F T) {F':TmF} {T':TS} (hb:Blk w' F.tg Ko (qzi F' T')) (hc:Chg (λk=>k=F.tg) w w') (e1:F'.tg=F.tg) (e2:F'.sg=F.sg) (e3:F'.SF=F.SF) (e4:F'.eg=F.eg) (e5:F'.KF=F.KF) (e0:F'.pg=F.pg) (s1:T'.S=T.S) (s2:T'.E=T.E) (s3:T'.n=T.n)
  (cq:Go.Vc.Own qo w base F'.cq T'.cmd) (rq:Go.Vc.Own qo w base F'.rq T'.rep) (bc:∀k,F'.cq.blk=some k->F.cq.blk=some k) (br:∀k,F'.rq.blk=some k->F.rq.blk=some k) (e6:F'.dF=F.dF:=by rfl) (s4:T'.d=T.d:=by rfl):TmT base w F F' T' w' :=
 h.putD hb hc e1 e2 e3 e4 e5 e0 s1 s2 s3 cq rq (by rw [e6,s4];exact h.dx) bc br λk a=>by rw [e6] at a;exact a
theorem TermM.screen (h:TermM w base F T) {SF':ScF} {S':Sc} (hT:ScT base F.sg w F.SF SF' S' w'):TmT base w F { F with SF:=SF' } { T with S:=S' } w':=by
 have b:=hT.chg;have d:Tab w':=qbv h b λk a=>(h.sc.below k a).1;have c:∀j k,j≠1->qx1 F T.E j k->¬scS F.sg F.SF k:=λj k f a e=>f (h.dj j 1 k a e);refine ⟨⟨h.blk.chg b (c 0 F.tg (by decide) rfl),h.hg,hT.m,h.en.chgS b (λk a=>c 2 k (by decide) (.inl a)) (λk a=>c 2 k (by decide) (.inr a)),h.cq.chg b (λk a=>c 3 k (by decide) a),h.rq.chg b (λk a=>c 4 k (by decide) a),
  h.dx.chg b (λk a=>c 5 k (by decide) a),qyr 1 h.dj h.foot_lt (λi k a=>?_),λk a=>(h.nl k a).chg b (c 2 k (by decide) (.inl (.inr (.inr (.inr a))))),d,h.b4⟩,λk a=>?_,b.mono λk _ a=>.inr (.inl a),rfl,rfl⟩
 ·match i,a with
  | 0,a=>exact .inl a
  | 1,a=>exact (hT.old k a).imp id λh=>⟨h,rfl⟩
  | 2,a=>exact .inl a
  | 3,a=>exact .inl a
  | 4,a=>exact .inl a
  | 5,a=>exact .inl a
 ·rcases a with a | a | a
  ·exact .inl (.inl a)
  ·exact (hT.old k a).imp (λh=>.inr (.inl h)) id
  ·exact .inl (.inr (.inr a))
theorem TermM.engine (h:TermM w base F T) {KF':KF} {E':KE} {n':Nat} (hT:EngT base F.eg w F.KF KF' E' n' w') (hi:∀k,ka E'.S k->ka T.E.S k\/w.heap.size<=k):TmT base w F { F with KF:=q2y w' KF' } { T with E:=E',n:=n' } w':=by
 have hT:=hT.trim;have b:=hT.chg;have d:Tab w':=qbv h b λk a=>(h.en.below k a).1;have c:∀j k,j≠2->qx1 F T.E j k->¬vC F.eg F.KF k:=λj k f a e=>f (h.dj j 2 k a (.inl e));refine ⟨⟨h.blk.chg b (c 0 F.tg (by decide) rfl),h.hg,h.sc.keep b (λk a=>c 1 k (by decide) a) h.farE,hT.m,h.cq.chg b (λk a=>c 3 k (by decide) a),h.rq.chg b (λk a=>c 4 k (by decide) a),
  h.dx.chg b (λk a=>c 5 k (by decide) a),qyr 2 h.dj h.foot_lt (λi k a=>?_),λk a=>a.2,d,h.b4⟩,λk a=>?_,b.mono λk _ a=>.inr (.inr (.inl a)),rfl,rfl⟩
 ·match i,a with
  | 0,a=>exact .inl a
  | 1,a=>exact .inl a
  | 2,.inl a=>exact (hT.old k a).imp .inl λh=>⟨h,rfl⟩
  | 2,.inr a=>exact (hi k a).imp .inr λh=>⟨h,rfl⟩
  | 3,a=>exact .inl a
  | 4,a=>exact .inl a
  | 5,a=>exact .inl a
 ·rcases a with a | a | a | a
  ·exact .inl (.inl a)
  ·exact .inl (.inr (.inl a))
  ·exact (hT.old k a).imp (λh=>.inr (.inr (.inl h))) id
  ·exact .inl (.inr (.inr (.inr a)))
theorem TermM.sixel (h:TermM w base F T) {f f':SxF} {D':SxD} (e:F.dF=some f) (hT:SxT base w f f' D' w'):TmT base w F { F with dF:=some f' } { T with d:=some D' } w':=by
 have c:=hT.chg;have b:∀k,sxS f k->sxO F.dF k:=λk a=>by rw [e];exact a
 have n:Tab w':=qbv h c λk a=>(h.dx.below k (b k a)).1;have l:∀j k,j≠5->qx1 F T.E j k->¬sxS f k:=λj k o a p=>o (h.dj j 5 k a (b k p));have q:sxP (some f')=sxP F.dF:=by rw [e];show some (⟨f'.g,0,none⟩:Addr)=some ⟨f.g,0,none⟩;rw [hT.g]
 have r:=h.blk.chg c (l 0 F.tg (by decide) rfl);refine ⟨⟨?_,h.hg,h.sc.keep c (λk a=>l 1 k (by decide) a) (λk s a=>(h.dx.typd k (b k a)).not s),h.en.chgS c (λk a=>l 2 k (by decide) (.inl a)) (λk a=>l 2 k (by decide) (.inr a)),h.cq.chg c (λk a=>l 3 k (by decide) a),h.rq.chg c (λk a=>l 4 k (by decide) a),
  hT.m,qyr 5 h.dj h.foot_lt (λi k a=>?_),λk a=>(h.nl k a).chg c (l 2 k (by decide) (.inl (.inr (.inr (.inr a))))),n,h.b4⟩,λk a=>?_,c.mono λk _ a=>.inr (.inr (.inr (.inr (.inr (b k a))))),rfl,rfl⟩
 ·have:qzi { F with dF:=some f' } { T with d:=some D' }=qzi F T:=by unfold qzi;dsimp only;rw [q]
  rw [this];exact r
 ·match i,a with
  | 0,a=>exact .inl a
  | 1,a=>exact .inl a
  | 2,a=>exact .inl a
  | 3,a=>exact .inl a
  | 4,a=>exact .inl a
  | 5,a=>exact (hT.old k a).imp (b k) λh=>⟨h,rfl⟩
 ·rcases a with a | a | a | a | a | a
  ·exact .inl (.inl a)
  ·exact .inl (.inr (.inl a))
  ·exact .inl (.inr (.inr (.inl a)))
  ·exact .inl (.inr (.inr (.inr (.inl a))))
  ·exact .inl (.inr (.inr (.inr (.inr (.inl a)))))
  ·exact (hT.old k a).imp (λh=>.inr (.inr (.inr (.inr (.inr (b k h)))))) id
theorem TermM.row (h:TermM w base F T) (i0:Nat) {q0 q:Slc} (h0:∀k,q0.blk=some k->qx1 F T.E i0 k/\kV F k/\typd w k) (hi:i0=3\/i0=4) {xs:List UInt8} (ho:Go.Vc.Own qo w' base q xs) (hc:Chg (λk=>q0.blk=some k) w w') (hq:q.blk=q0.blk\/q.blk=some w.heap.size) {F':TmF} {T':TS}
  (hF:F'=(if i0=3 then { F with cq:=q } else { F with rq:=q })) (hT:T'=(if i0=3 then { T with cmd:=xs } else { T with rep:=xs })) {K:Ub}
  (hK:∀w2,TmT base w F F' T' w2->K w2):stK ((⟨F.tg,0,none⟩:Addr).add (if i0=3 then 10 else 12)) [(.slice q.a q.n q.c)] w' K:=by
 have G:=hc.size;have A:∀k,q0.blk=some k->k≠F.tg:=λk b e=>by have o:=h.dj i0 0 k (h0 k b).1 e;omega
 have B:=h.blk.chg hc (λe=>A _ e rfl);have f:∀k,q.blk=some k->q0.blk=some k\/w.heap.size<=k:=λk b=>by
  rcases hq with e | e
  ·exact .inl (e ▸ b)
  ·rw [e] at b;cases b;exact .inr (le_refl _)
 have go:∀w2,Blk w2 F.tg Ko (qzi F' T')->Chg (λk=>k=F.tg) w' w2->TmT base w F F' T' w2:=by
  intro w2 d p;have g:Chg (λk=>q0.blk=some k\/k=F.tg) w w2:=(hc.mono λk _ e=>.inl e).trans p λk _ e=>.inr e;have l:∀j k,j≠i0->j≠0->qx1 F T.E j k->¬(q0.blk=some k\/k=F.tg):=λj k o C b e=>e.elim (λe=>o (h.dj j i0 k b (h0 k e).1)) λe=>C (h.dj j 0 k b e);have r:=h.sc.keep g (λk b=>l 1 k (by omega) (by decide) b) (λk D e b=>e.elim (λe=>(h0 k e).2.2.not D b) λe=>by subst e;exact h.blk.ne_t b (by decide) rfl);have s:=h.en.chgS g (λk b=>l 2 k (by omega) (by decide) (.inl b)) (λk b=>l 2 k (by omega) (by decide) (.inr b));have t:=h.dx.chg g (λk b=>l 5 k (by omega) (by decide) b);have u:∀k,F.KF.LS k->typd w2 k:=λk b=>(h.nl k b).chg g (l 2 k (by omega) (by decide) (.inl (.inr (.inr (.inr b)))));have v:Tab w2:=qbv h g λk e=>e.elim (λe=>(h.below k (h0 k e).2.1).1) λe=>by rw [e];exact h.hg
  have x:=ho.chg p λk b e=>(f k b).elim (λo=>A k o e) λo=>by have:=h.blk.lt;omega
  have y:Chg (kV F) w w2:=g.mono λk _ e=>e.elim (λe=>(h0 k e).2.1) λe=>.inl e;rcases hi with rfl | rfl
  ·rw [if_pos rfl] at hF hT;subst hF hT;refine ⟨⟨d,h.hg,r,s,x,h.rq.chg g (λk b=>l 4 k (by decide) (by decide) b),t,qyr 3 h.dj h.foot_lt (λi k b=>?_),u,v,h.b4⟩,λk b=>?_,y,rfl,rfl⟩
   ·match i,b with
    | 0,b=>exact .inl b
    | 1,b=>exact .inl b
    | 2,b=>exact .inl b
    | 3,b=>exact (f k b).imp (λe=>(h0 k e).1) λe=>⟨e,rfl⟩
    | 4,b=>exact .inl b
    | 5,b=>exact .inl b
   ·rcases b with b | b | b | b | b
    ·exact .inl (.inl b)
    ·exact .inl (.inr (.inl b))
    ·exact .inl (.inr (.inr (.inl b)))
    ·exact (f k b).imp (λe=>(h0 k e).2.1) id
    ·exact .inl (.inr (.inr (.inr (.inr b))))
  ·rw [if_neg (by decide)] at hF hT;subst hF hT;refine ⟨⟨d,h.hg,r,s,h.cq.chg g (λk b=>l 3 k (by decide) (by decide) b),x,t,qyr 4 h.dj h.foot_lt (λi k b=>?_),u,v,h.b4⟩,λk b=>?_,y,rfl,rfl⟩
   ·match i,b with
    | 0,b=>exact .inl b
    | 1,b=>exact .inl b
    | 2,b=>exact .inl b
    | 3,b=>exact .inl b
    | 4,b=>exact (f k b).imp (λe=>(h0 k e).1) λe=>⟨e,rfl⟩
    | 5,b=>exact .inl b
   ·rcases b with b | b | b | b | b | b
    ·exact .inl (.inl b)
    ·exact .inl (.inr (.inl b))
    ·exact .inl (.inr (.inr (.inl b)))
    ·exact .inl (.inr (.inr (.inr (.inl b))))
    ·exact (f k b).imp (λe=>(h0 k e).2.1) id
    ·exact .inl (.inr (.inr (.inr (.inr (.inr b)))))
 rw [qC];rcases hi with rfl | rfl
 ·rw [if_pos rfl] at hF hT ⊢;refine qD B (by show 0+10+1<=15;omega) λw2 d m z=>hK w2 (go w2 ?_ (Chg.gg m));subst hF hT;exact d
 ·rw [if_neg (by decide)] at hF hT ⊢;refine qD B (by show 0+12+1<=15;omega) λw2 d m z=>hK w2 (go w2 ?_ (Chg.gg m));subst hF hT;exact d
theorem TermM.replied (h:TermM w base F T) {q:Slc} {xs:List UInt8} (ho:Go.Vc.Own qo w' base q (T.rep++xs)) (hc:Chg (λk=>F.rq.blk=some k) w w') (hq:q.blk=F.rq.blk\/q.blk=some w.heap.size) {K:Ub}
  (hK:∀w2,TmT base w F { F with rq:=q } { T with rep:=T.rep++xs } w2->K w2):stK ((⟨F.tg,0,none⟩:Addr).add 12) [(.slice q.a q.n q.c)] w' K :=
 h.row 4 (q0:=F.rq) (λk b=>⟨b,.inr (.inr (.inr (.inr (.inl b)))),qgn h.rq (by decide) k b⟩) (.inr rfl) ho hc hq rfl rfl hK
theorem TermM.told (h:TermM w base F T) {q:Slc} {xs:List UInt8} (ho:Go.Vc.Own qo w' base q (T.cmd++xs)) (hc:Chg (λk=>F.cq.blk=some k) w w') (hq:q.blk=F.cq.blk\/q.blk=some w.heap.size) {K:Ub}
  (hK:∀w2,TmT base w F { F with cq:=q } { T with cmd:=T.cmd++xs } w2->K w2):stK ((⟨F.tg,0,none⟩:Addr).add 10) [(.slice q.a q.n q.c)] w' K :=
 h.row 3 (q0:=F.cq) (λk b=>⟨b,.inr (.inr (.inr (.inl b))),qgn h.cq (by decide) k b⟩) (.inl rfl) ho hc hq rfl rfl hK
end
def wht:List UInt8:=[229,229,229,255]
def zme:List UInt8:=[0,0,0,255]
def at0:qA:=⟨0,0,0⟩
section
variable {w w':World}
theorem qsa (c:qs) {K:qt->Ub} (hK:∀w',Uc w w'->K ⟨c.e0,c.e1,c.e2,255⟩ w'):zz c w K:=by
 refine qvf _ ?_;refine nwb λl f b g=>nwb λm h d i=>?_;have a:=f.ext d;refine ⟨⟨by decide,by decide⟩,lI (x:=c.e0) (a.cells 0 _ rfl) ⟨⟨by decide,by decide⟩,lI (x:=c.e1) (a.cells 1 _ rfl) ⟨⟨by decide,by decide⟩,lI (x:=c.e2) (a.cells 2 _ rfl) ?_⟩⟩⟩;refine zN (r:=qt.rep) (x:=⟨c.e0,c.e1,c.e2,255⟩) h rfl rfl λj e k=>hK j ?_;exact b1o (bT b d) e b.size
theorem q6f {K:qs->Ub} (hK:∀w',Uc w w'->K ⟨229,229,229⟩ w'):VH 15066597 w K:=by
 refine qu1 _ ?_;refine nwb λg c a d=>⟨by decide,by decide,?_⟩;refine zN (r:=qs.rep) (x:=⟨229,229,229⟩) c (by kernel_rfl) rfl λe b f=>hK e ?_;exact b1o a b (le_refl _)
theorem qw8 (fore:Bool) {K:qs->Ub} (hK:∀w',Uc w w'->K (if fore then ⟨229,229,229⟩ else ⟨0,0,0⟩) w'):qbm 0 fore w K:=by
 refine qxk _ _ ?_;refine nwb λj g b h=>?_;refine jpO λk i=>jpO λl d=>?_;refine qx3 _ ?_;refine cT rfl (cF rfl (cT rfl (d _ _ ?_)));cases fore
 ·refine cT rfl ?_;refine zN (r:=qs.rep) (x:=⟨0,0,0⟩) g rfl rfl λe a f=>hK e (b1o b a (le_refl _))
 ·refine cF rfl (cT rfl (q6f λm c=>?_));refine zN (r:=qs.rep) (x:=⟨229,229,229⟩) (g.ext c) rfl rfl λe a f=>hK e (b1o (bT b c) a (le_refl _))
theorem qtj {K:qs->qs->Ub} (hK:∀w',Uc w w'->K ⟨229,229,229⟩ ⟨0,0,0⟩ w'):VI at0 w K:=by
 refine qvm _ ?_;refine nwb λT y h E=>nwb λU z c F=>nwb λA G d H=>?_;have a:=(y.ext c).ext d;have B:=h.size;have V:=c.size;have W:=y.lt;have X:=z.lt;refine lI (x:=0) (a.drew.cells 0 _ rfl) (lI (x:=0) (a.drew.cells 1 _ rfl) ?_);refine qw8 true λw4 i=>⟨(a.drew.ext i).cells 1 _ rfl,qw8 false λI n=>?_⟩;have b:Uc A I:=bT (bT (bdw A) i) n;have o:=a.ext b;have p:=(z.ext d).ext b;have q:=G.ext b;refine xR p rfl λY J e L=>?_;have s:=q.chg e (by omega);refine xR s rfl λC D f M=>?_;have g:=(o.chg e (by omega)).chg f (by omega);have j:=J.chg f (by omega);have N:Uc w C:=b1o (b1o (bT (bT (bT h c) d) b) e B) f (by omega);refine jpO λZ t=>?_;refine lI (x:=0) (g.cells 2 _ rfl) (cF (by kernel_rfl) (t _ _ ?_));refine jpO λJ2 u=>?_;refine lI (x:=0) (g.cells 2 _ rfl) (cF (by kernel_rfl) (u _ _ ?_));refine jpO λJ3 v=>?_;refine lI (x:=0) (g.cells 2 _ rfl) (cF (by kernel_rfl) (v _ _ ?_));refine qz (r:=qs.rep) (x:=⟨229,229,229⟩) j.drew.cells (qz (r:=qs.rep) (x:=⟨0,0,0⟩) D.drew.cells ?_);refine xR j.drew rfl λw8 O k P=>?_;have l:=D.drew.chg k (by omega);refine ⟨l.cells,xR l rfl λQ R m S=>?_⟩;refine qz (r:=qs.rep) (x:=⟨229,229,229⟩) (O.chg m (by omega)).cells (qz (r:=qs.rep) (x:=⟨0,0,0⟩) R.cells ?_);exact hK Q (b1o (b1o (bT N (bdw C)) k B) m (by omega))
theorem qf9 {α:Type} {xs:List α} {k:Nat} (hk:k<xs.length):∃x,xs[k]?=some x/\∀h,xs[((k:Int)).toNat]'h=x:=⟨xs[k],List.getElem?_eq_getElem hk,λ_=>rfl⟩
abbrev Cel:=zl
def Xn:Cel:=⟨0,0,at0⟩
def kn (L:List (List Cel)) (row col:Nat):Cel:=(L.getD row []).getD col Xn
structure ScnM (w:World) (B:Nat) (s:qy) (R C cw ch:Nat) (L:List (List Cel)):Prop where
 rows:s.Rows=R
 cols:s.Cols=C
 ecw:s.CellW=cw
 ech:s.CellH=ch
 lim:1<=R/\R<=1000/\1<=C/\C<=1000/\1<=cw/\cw<=64/\1<=ch/\ch<=64
 ls:∃ls,Rd slE w s.Lines ls/\ls.length=L.length/\∀(i:Nat) q xs,ls[i]?=some q->L[i]?=some xs->Rd zD w q xs/\∀a,q.a=some a->a.block<B
 lo:∀a,s.Lines.a=some a->a.block<B
theorem ScnM.keep {B:Nat} {s:qy} {R C cw ch:Nat} {L:List (List Cel)} {S:Nat->Prop} (h:ScnM w B s R C cw ch L) (hc:Chg S w w') (hS:∀k,S k->B<=k):ScnM w' B s R C cw ch L:=by
 obtain ⟨j,l,m,b⟩:=h.ls;exact ⟨h.rows,h.cols,h.ecw,h.ech,h.lim,⟨j,l.chg hc λa c d=>by have:=h.lo a c;have:=hS _ d;omega,m,λi q e f g=>⟨(b i q e f g).1.chg hc λa c d=>by have:=(b i q e f g).2 a c;have:=hS _ d;omega,(b i q e f g).2⟩⟩,h.lo⟩
theorem ScnM.ext {B:Nat} {s:qy} {R C cw ch:Nat} {L:List (List Cel)} (h:ScnM w B s R C cw ch L) (hB:Uc w w'):ScnM w' B s R C cw ch L:=h.keep (Chg.of_ext (S:=λ_=>False) hB) λ_ h=>h.elim
theorem q6y {B:Nat} {s:qy} {R C cw ch:Nat} {L:List (List Cel)} (h:ScnM w B s R C cw ch L) (row col:Nat) {K:Cel->Ub} (hK:∀w',Uc w w'->K (kn L row col) w'):JE s row col w K:=by
 refine ql3 _ _ _ ?_;refine nwb λz J c M=>nwb λA N d O=>?_;have a:=J.ext d;have D:=bT c d;have P:=h.ext D;obtain ⟨E,F,l2,Q⟩:=P.ls;have hn:=F.n;have b:∀v:Cel,v=kn L row col->stK ⟨z.heap.size,0,none⟩ (zl.rep.cells v) A λw4=>ldS zl.rep ⟨z.heap.size,0,none⟩ w4 λr=>K r w4:=by
  rintro v rfl;exact zN (r:=zl.rep) (x:=kn L row col) N rfl rfl λS l T=>hK S (b1o D l c.size)
 refine jpO λJ1 m=>?_;refine lSl (x:=s.Lines) (a.cells 4 _ rfl) (cO (λe=>?_) λe=>?_)
 ·have e:=oTq e;refine b Xn ?_;unfold kn;rw [show L.getD row []=[] by rw [List.getD_eq_getElem?_getD,List.getElem?_eq_none (by omega)];rfl];rfl
 have e:=oFq e;have U:row<E.length:=by omega
 have o:row<L.length:=by omega
 obtain ⟨q,V,p⟩:=qf9 (xs:=E) (k:=row) U;have G:L[row]?=some L[row]:=List.getElem?_eq_getElem o;have H:=(Q row q _ V G).1;have I:L.getD row []=L[row]:=by rw [List.getD_eq_getElem?_getD,G];rfl
 have f:∀{X:Slc->Prop},X q->ixK s.Lines row 1 λt=>zW t A X:=by
  intro X W;refine F.ix (i:=(row:Int)) (k:=1) rfl (by omega) (by omega) λg=>?_;rw [p] at g;exact lSl (x:=q) (by simpa using g 0 _ rfl) W
 refine lSl (x:=s.Lines) (a.cells 4 _ rfl) (f ?_);have Y:=H.n;refine cO (λj=>?_) λj=>?_
 ·have j:=oTq j;refine b Xn ?_;unfold kn;rw [I,List.getD_eq_getElem?_getD,List.getElem?_eq_none (by omega)];rfl
 have j:=oFq j;refine m _ _ (lSl (x:=s.Lines) (a.cells 4 _ rfl) (f ?_));have u:col<L[row].length:=by omega
 obtain ⟨v,Z,y⟩:=get_of (xs:=L[row]) (k:=col) u;refine H.ix (i:=(col:Int)) (k:=5) rfl (by omega) (by omega) λg=>?_;rw [y] at g;refine qz (r:=zl.rep) (x:=v) g ?_;refine b v ?_;unfold kn;rw [I,List.getD_eq_getElem?_getD,Z];rfl
def zjr (g:List UInt8->Nat->Nat->Cel->List UInt8) (L:List (List Cel)) (row:Nat) (P:List UInt8):Nat->List UInt8
 | 0=>P
 | j+1=>g (zjr g L row P j) row j (kn L row j)
def qwj (g:List UInt8->Nat->Nat->Cel->List UInt8) (L:List (List Cel)) (C:Nat) (P:List UInt8):Nat->List UInt8
 | 0=>P
 | i+1=>zjr g L i (qwj g L C P i) C
theorem qxd {B base:Nat} {s:qy} {R C cw ch W H:Nat} {L:List (List Cel)} {m:qf} {P:List UInt8} {g:List UInt8->Nat->Nat->Cel->List UInt8} {fv:Value} (h:ScnM w B s R C cw ch L) (hM:MatM w base m W H P) (hb:B<=base)
  (hf:∀{w1:World} {P1:List UInt8} (row col:Nat) {K:Ub},row<R->col<C->MatM w1 base m W H P1->Chg (λk=>m.P.blk=some k) w w1->(∀w2,MatM w2 base m W H (g P1 row col (kn L row col))->Chg (λk=>m.P.blk=some k) w1 w2->K w2) ->
   j7 Go.Proofs.YtjhgepnpnapnoaaGreatDoor.C fv [(Ua row),(Ua col),(.agg #[(.int .i32 (kn L row col).R),(Ua (kn L row col).Kind),(Ua (kn L row col).A.Fg),(Ua (kn L row col).A.Bg),(Ua (kn L row col).A.Flags)])] [] w1 K)
  {K:Ub} (hK:∀w',MatM w' base m W H (qwj g L C P R)->Chg (λk=>m.P.blk=some k) w w'->K w'):yK s fv w K:=by
 refine ql2 _ _ ?_;refine nwb λw1 h1 hB1 hs1=>?_;obtain ⟨gm,ha,hbm⟩:=hM.some_;have gl:=(hM.own.lt gm hbm);have l1:=h1.lt;have lim:=h.lim;refine lI (x:=(R:Int)) (by rw [<-h.rows];exact h1.cells 0 _ rfl) ?_;have keepS:∀{w3},Chg (λk=>m.P.blk=some k) w1 w3->Blk w3 w.heap.size zo (qy.rep.cells s):=λhc=>h1.chg hc λe=>by rw [hbm] at e;cases e;omega
 have keepL:∀{w3},Chg (λk=>m.P.blk=some k) w1 w3->ScnM w3 B s R C cw ch L:=λhc=>(h.ext hB1).keep hc λk e=>by rw [hbm] at e;cases e;omega
 have c01:Chg (λk=>m.P.blk=some k) w w1:=Chg.of_ext hB1;refine lpR (λ(st:Int×Unit) w2=>∃i:Nat,st.1=(i:Int)/\i<=R/\MatM w2 base m W H (qwj g L C P i)/\Chg (λk=>m.P.blk=some k) w1 w2) (λst=>R-st.1.toNat) ⟨0,rfl,zero_le _,hM.ext hB1,Chg.refl _ _⟩ ?_;rintro ⟨i0,u⟩ w2 ⟨i,hi,hiR,hM2,hc2⟩ I hI;dsimp only at hi ⊢;subst hi;refine cO (λe=>?_) λe=>?_
 ·have hlt:i<R:=by have:=oTq e;omega
  refine lI (x:=(C:Int)) (by rw [<-h.cols];exact (keepS hc2).cells 1 _ rfl) ?_;refine lpR (λ(st:Int×Unit) w3=>∃j:Nat,st.1=(j:Int)/\j<=C/\MatM w3 base m W H (zjr g L i (qwj g L C P i) j)/\Chg (λk=>m.P.blk=some k) w1 w3) (λst=>C-st.1.toNat) ⟨0,rfl,zero_le _,hM2,hc2⟩ ?_;rintro ⟨j0,u2⟩ w3 ⟨j,hj,hjC,hM3,hc3⟩ I2 hI2;dsimp only at hj ⊢;subst hj;refine cO (λe=>?_) λe=>?_
  ·have hjt:j<C:=by have:=oTq e;omega
   refine qz (r:=qy.rep) (x:=s) (keepS hc3).cells ?_;refine q6y (keepL hc3) i j λw4 hB4=>?_;have hc4:Chg (λk=>m.P.blk=some k) w1 w4:=hc3.trans (Chg.of_ext hB4) λ_ _ h=>h;refine hf i j hlt hjt (hM3.ext hB4) (c01.trans hc4 λ_ _ h=>h) λw5 hM5 hc5=>?_;rw [qM (x:=(j:Int)+1) (by omega)];exact hI2 _ _ ⟨j+1,by simp,by omega,hM5,hc4.trans hc5 λ_ _ h=>h⟩ (by dsimp only;omega)
  ·have:j=C:=by have:=oFq e;omega
   subst this;rw [qM (x:=(i:Int)+1) (by omega)];exact hI _ _ ⟨i+1,by simp,by omega,hM3,hc3⟩ (by dsimp only;omega)
 ·have:i=R:=by have:=oFq e;omega
  subst this;exact hK w2 hM2 (c01.trans hc2 λ_ _ h=>h)
end
theorem zoq:zla wht ⟨229,229,229,255⟩:=⟨rfl,rfl⟩
theorem zmw:zla zme ⟨0,0,0,255⟩:=⟨rfl,rfl⟩
def zg5 (L:List (List Cel)):Prop:=∀r c,(kn L r c).A=at0
def q5g (W H cw ch:Nat) (P:List UInt8) (row col:Nat) (c:Cel):List UInt8:=q33 P W H ((col*cw:Nat):Int) ((row*ch:Nat):Int) cw ch zme
section
variable {w w':World} {B base:Nat} {s:qy} {R C0 cw ch W H:Nat} {L:List (List Cel)} {m:qf} {P:List UInt8}
theorem q9d {a b:Nat} (ha:a<=1000) (hb:b<=64):IntKind.i64.wrap ((a:Int)*(b:Int))=((a*b:Nat):Int)/\a*b<=64000:=by
 have h:a*b<=1000*64:=Nat.mul_le_mul ha hb;rw [show (a:Int)*(b:Int)=((a*b:Nat):Int) by simp];exact ⟨qM (by omega),h⟩
theorem q5a (h:ScnM w B s R C0 cw ch L) (hb:zg5 L) (hM:MatM w base m W H P) (hB:B<=base) {K:qf->Ub} (hK:∀w',MatM w' base m W H (qwj (q5g W H cw ch) L C0 P R)->Chg (λk=>m.P.blk=some k) w w'->K m w'):Qq ⟨s⟩ m w K:=by
 refine qgb _ _ ?_;refine nwb λw1 h1 j an=>nwb λw2 h2 n ao=>nwb λw3 h3 q ap=>?_;have Z:=bT (bT j n) q;have z:=(h1.ext n).ext q;have C:=h2.ext q;obtain ⟨gm,ha,u⟩:=hM.some_;have gl:=hM.own.lt gm u;have aq:=h.lim;refine qz (r:=qy.rep) (x:=s) (z.sub 0 _ rfl) ?_;have U:∀{b:Nat} {t:TypeId} {vs:List Value} {wa wb:World},Blk wa b t vs->Chg (λk=>m.P.blk=some k) wa wb->w.heap.size<=b->Blk wb b t vs:=λhb hc ar=>hb.chg hc λe=>by rw [u] at e;cases e;omega
 refine qxd (g:=q5g W H cw ch) (h.ext Z) (hM.ext Z) hB (λ{w4 P4} row col {K4} hr hc c d hK4=>?_) λw4 c d=>?_
 ·have D:=U z d (le_refl _);have E:=U C d j.size;refine Go.Vc.callR_plain (by kernel_rfl) ?_;refine Calls.mono (show Xe (row:Int) (col:Int) (kn L row col) ⟨w1.heap.size,0,none⟩ ⟨w.heap.size,0,none⟩ w4 K4 from ?_) ?_
  ·refine qcb _ _ _ _ _ ?_;refine nwb λw5 h5 v aa=>?_;refine qz (r:=qA.rep) (x:=at0) (by have:=h5.sub 2 (qA.rep.cells (kn L row col).A) rfl;rw [hb] at this;exact this) ?_;refine qtj λw6 y=>?_;refine nwb λw7 h7 F au=>nwb λw8 h8 G av=>?_;have ab:=h7.ext G;refine xR ab rfl λw9 h9 I aw=>?_;have ac:=h8.chg I (by have:=h7.lt;omega);refine xR ac rfl λJ ad M am=>?_;have ae:=bT (bT v y) (bT F G);have af:Uc w4 J:=b1o (b1o ae I (bT v y).size) M (by have:=(bT (bT v y) F).size;omega);have l:=bT af (bdw J);have o:=D.ext l;have ah:=E.ext l;refine qz (r:=qf.rep) (x:=m) ah.cells ?_;have V:∀{wx},Blk wx w.heap.size xo (qP.rep.cells ⟨s⟩)->wx.cell? (((⟨w.heap.size,0,none⟩:Addr).add 0).add 2)=some (Ua cw):=λhx=>by rw [<-h.ecw,jU];exact hx.cells 2 _ rfl
   have X:∀{wx},Blk wx w.heap.size xo (qP.rep.cells ⟨s⟩)->wx.cell? (((⟨w.heap.size,0,none⟩:Addr).add 0).add 3)=some (Ua ch):=λhx=>by rw [<-h.ech,jU];exact hx.cells 3 _ rfl
   refine lI (x:=(cw:Int)) (V o) (lI (x:=(ch:Int)) (X o) (lI (x:=(cw:Int)) (V o) (lI (x:=(ch:Int)) (X o) ?_)));refine qz (r:=qs.rep) (x:=⟨0,0,0⟩) ad.drew.cells ?_;refine qsa _ λax N=>?_;have p:=bT l N;have f:=D.ext p;have O:=E.ext p;refine ⟨X f,V f,X f,V f,O.cells,?_⟩;obtain ⟨e1,b1⟩:=q9d (a:=col) (b:=cw) (by omega) (by omega);obtain ⟨e2,b2⟩:=q9d (a:=row) (b:=ch) (by omega) (by omega);rw [e1,e2];exact qwm (c.ext p) (by omega) (by omega) (by omega) (by omega) zmw λai Q T=>hK4 ai Q ((Chg.of_ext p).trans T λ_ _ h=>h)
  ·rintro e w' ⟨rfl,Y⟩;exact ⟨rfl,Y⟩
 ·have aj:=U C d j.size;have ak:=U h3 d (by have:=(bT j n).size;omega);refine qz (r:=qf.rep) (x:=m) aj.cells ?_;refine zN (r:=qf.rep) (x:=m) ak rfl rfl λw5 al aa=>?_;have z4:=d.size;have l3:=(bT j n).size;have l4:=h3.lt;have c5:Chg (λk=>k=w2.heap.size) w4 w5:=al;refine hK w5 ⟨c.hw,c.hh,c.own.chg c5 (λk Y e=>by rw [u] at Y;cases Y;omega),c.len,c.lim⟩ ?_;refine (Chg.of_ext (S:=λk=>m.P.blk=some k) Z).trans (S':=λk=>m.P.blk=some k\/k=w2.heap.size) ((d.mono λ_ _ h=>.inl h).trans c5 λ_ _ e=>.inr e) λi hi e=>?_;rcases e with e | e
  ·exact e
  ·omega
end
def zmj (lay:List UInt8->Int->Int->Int->Int->List UInt8->List UInt8) (P:List UInt8) (r:Int) (wx hx:Nat):List UInt8 :=
 if r>32 then
  if (wx+1)/2>2/\(hx+1)/2>2 then lay (lay P ((wx/4:Nat):Int) ((hx/4:Nat):Int) (((wx+1)/2:Nat):Int) (((hx+1)/2:Nat):Int) wht) ((wx/4+r.toNat%((wx+1)/2):Nat):Int) ((hx/4+r.toNat/256%((hx+1)/2):Nat):Int) 1 1 zme
  else lay P ((wx/4:Nat):Int) ((hx/4:Nat):Int) (((wx+1)/2:Nat):Int) (((hx+1)/2:Nat):Int) wht
 else P
section
variable {w w':World} {B base:Nat} {s:qy} {R C0 cw ch W H:Nat} {L:List (List Cel)} {m:qf} {P:List UInt8}
def agC (c:qt):Value:=.agg #[(.int .u8 c.e0),(.int .u8 c.e1),(.int .u8 c.e2),(.int .u8 c.e3)]
theorem zi7 {lay:List UInt8->Int->Int->Int->Int->List UInt8->List UInt8} {fv:Value} (r:Int) (hr:0<=r/\r<=1114111) (wx hx:Nat) (hw:1<=wx/\wx<=128) (hh:1<=hx/\hx<=64) (hM:MatM w base m W H P)
  (hf:∀{w1:World} {P1:List UInt8} (x y bw bh:Int) (c:qt) (cb:List UInt8) {K:Ub},0<=x/\x<=1000->0<=y/\y<=1000->0<=bw/\bw<=1000->0<=bh/\bh<=1000->zla cb c->MatM w1 base m W H P1->Chg (λk=>m.P.blk=some k) w w1->(∀w2,MatM w2 base m W H (lay P1 x y bw bh cb)->Chg (λk=>m.P.blk=some k) w1 w2->K w2) ->
   j7 Go.Proofs.YtjhgepnpnapnoaaGreatDoor.C fv [(Ua x),(Ua y),(Ua bw),(Ua bh),agC c] [] w1 K)
  {K:Ub} (hK:∀w',MatM w' base m W H (zmj lay P r wx hx)->Chg (λk=>m.P.blk=some k) w w'->K w'):qmv r wx hx at0 fv w K:=by
 refine q1a _ _ _ _ _ ?_;obtain ⟨gm,ha,aj⟩:=hM.some_;have gl:=hM.own.lt gm aj;refine nwb λw1 h1 ak a8=>?_;refine qz (r:=qA.rep) (x:=at0) h1.cells (qtj λw2 U=>?_);refine nwb λw3 h3 V a9=>nwb λw4 h4 Y bb=>?_;refine xR (h3.ext Y) rfl λw5 h5 Z bc=>?_;have l3:=h3.lt;have ap:=h4.chg Z (by omega);refine xR ap rfl λw6 h6 aa bd=>?_;have z1:=ak.size;have z2:=U.size;have z3:=V.size;have l4:=h4.lt;have l1:=h1.lt;have aq:=h5.chg aa (by omega);have ar:=((((h1.ext U).ext V).ext Y).chg Z (by omega)).chg aa (by omega);have B6:Uc w w6:=b1o (b1o (bT (bT ak U) (bT V Y)) Z (by omega)) aa (by omega);have kp:∀{b:Nat} {t:TypeId} {vs:List Value} {M n:World},Blk M b t vs->Chg (λk=>m.P.blk=some k) M n->w.heap.size<=b->Blk n b t vs:=λI A be=>I.chg A λe=>by rw [aj] at e;cases e;omega
 refine jpO λJ1 au=>?_;have av:∀(J L:Nat) s,w.heap.size<=J->w.heap.size<=L->Blk s J qK (qt.rep.cells ⟨229,229,229,255⟩)->Blk s L qK (qt.rep.cells ⟨0,0,0,255⟩)->Blk s w.heap.size xm (qA.rep.cells at0)->Uc w s->J1 (⟨J,0,none⟩,⟨L,0,none⟩,()) s:=by
  intro J L s lf lb ab ac aw B7;refine au _ _ ?_;dsimp only;refine jpO λJ2 ax=>?_;have v:∀w8,MatM w8 base m W H (zmj lay P r wx hx)->Chg (λk=>m.P.blk=some k) s w8->J2 () w8:=by
   intro w8 O E;have al:=kp aw E (le_refl _);refine ax _ _ (jpO λJ3 ay=>?_);refine lI (x:=0) (al.cells 2 _ rfl) (cF (by kernel_rfl) (ay _ _ ?_));exact lI (x:=0) (al.cells 2 _ rfl) (cF (by kernel_rfl) (hK w8 O ((Chg.of_ext B7).trans E λ_ _ h=>h)))
  have am:Chg (λk=>m.P.blk=some k) w s:=Chg.of_ext B7;unfold zmj at v;refine cO (λe=>?_) λe=>?_
  ·have e:=oTq e;rw [if_pos e] at v;refine ⟨by decide,by decide,by decide,by decide,?_⟩;refine qz (r:=qt.rep) (x:=⟨229,229,229,255⟩) ab.cells ?_;have e1:IntKind.i64.wrap ((wx:Int).tdiv 4)=((wx/4:Nat):Int):=by
    rw [show (wx:Int).tdiv 4=((wx/4:Nat):Int) from rfl];exact qM (by omega)
   have e2:IntKind.i64.wrap ((hx:Int).tdiv 4)=((hx/4:Nat):Int):=by
    rw [show (hx:Int).tdiv 4=((hx/4:Nat):Int) from rfl];exact qM (by omega)
   have e3:IntKind.i64.wrap ((IntKind.i64.wrap ((wx:Int)+1)).tdiv 2)=(((wx+1)/2:Nat):Int):=by
    rw [qM (x:=(wx:Int)+1) (by omega),show ((wx:Int)+1)=((wx+1:Nat):Int) by simp,show ((wx+1:Nat):Int).tdiv 2=(((wx+1)/2:Nat):Int) from rfl];exact qM (by omega)
   have e4:IntKind.i64.wrap ((IntKind.i64.wrap ((hx:Int)+1)).tdiv 2)=(((hx+1)/2:Nat):Int):=by
    rw [qM (x:=(hx:Int)+1) (by omega),show ((hx:Int)+1)=((hx+1:Nat):Int) by simp,show ((hx+1:Nat):Int).tdiv 2=(((hx+1)/2:Nat):Int) from rfl];exact qM (by omega)
   simp only [e1,e2,e3,e4];refine hf _ _ _ _ ⟨229,229,229,255⟩ wht (by omega) (by omega) (by omega) (by omega) zoq (hM.ext B7) am λw8 O E=>?_;refine jpO λJ4 az=>?_;have R:∀b:Bool,b=decide ((wx+1)/2>2/\(hx+1)/2>2)->J4 (b,()) w8:=by
    intro b I;refine az _ _ (cO (λe=>?_) λe=>?_)
    ·have e:b=true:=e;rw [e] at I;have I:=oTq I.symm;rw [if_pos I] at v;refine ⟨by omega,by decide,by omega,?_⟩;have an:=(kp ac E lb).drew;refine qz (r:=qt.rep) (x:=⟨0,0,0,255⟩) an.cells ?_;obtain ⟨u,a3⟩:∃u:Nat,r=u:=⟨r.toNat,by omega⟩;subst a3;simp only [Int.toNat_natCast] at v;have e5:IntKind.i64.wrap (u:Int)=(u:Int):=qM (by omega);have m1:(u:Int).tmod (((wx+1)/2:Nat):Int)=((u%((wx+1)/2):Nat):Int):=rfl;have m2:(u:Int).tdiv 256=((u/256:Nat):Int):=rfl;have e6:IntKind.i64.wrap ((u/256:Nat):Int)=((u/256:Nat):Int):=qM (by omega);have m3:((u/256:Nat):Int).tmod (((hx+1)/2:Nat):Int)=((u/256%((hx+1)/2):Nat):Int):=rfl;have bf:u%((wx+1)/2)<(wx+1)/2:=Nat.mod_lt _ (by omega);have bg:u/256%((hx+1)/2)<(hx+1)/2:=Nat.mod_lt _ (by omega);rw [e5,m1,m2,e6,m3];have a1:((wx/4:Nat):Int)+((u%((wx+1)/2):Nat):Int)=((wx/4+u%((wx+1)/2):Nat):Int):=by simp
     have a2:((hx/4:Nat):Int)+((u/256%((hx+1)/2):Nat):Int)=((hx/4+u/256%((hx+1)/2):Nat):Int):=by simp
     rw [a1,a2];generalize u%((wx+1)/2)=q1 at *;generalize u/256%((hx+1)/2)=q2 at *;rw [qM (x:=((wx/4+q1:Nat):Int)) (by omega),qM (x:=((hx/4+q2:Nat):Int)) (by omega)];have ao:Chg (λk=>m.P.blk=some k) w8 w8.drew:=Chg.of_ext (bdw w8);refine hf _ _ _ _ ⟨0,0,0,255⟩ zme (by omega) (by omega) (by omega) (by omega) zmw (O.ext (bdw w8)) ((am.trans E λ_ _ h=>h).trans ao λ_ _ h=>h) λw9 a4 a5=>?_;exact v w9 a4 ((E.trans ao λ_ _ h=>h).trans a5 λ_ _ h=>h)
    ·have e:b=false:=e;rw [e] at I;have I:=oFq I.symm;rw [if_neg I] at v;exact v w8 O E
   refine cO (λe=>?_) λe=>?_
   ·have e:=oTq e;refine R _ ?_;by_cases h2:(hx+1)/2>2
    ·rw [dTq (p:=(wx+1)/2>2/\_) ⟨by omega,h2⟩,dTq (by omega)]
    ·rw [dFq (p:=(wx+1)/2>2/\_) (λhh=>h2 hh.2),dFq (by omega)]
   ·have e:=oFq e;exact R _ (by rw [dFq];rintro ⟨h,_⟩;omega)
  ·have e:=oFq e;rw [if_neg e] at v;exact v s (hM.ext B7) (Chg.refl _ _)
 have ad:=aq.drew;have ae:=h6.drew;refine qz (r:=qs.rep) (x:=⟨229,229,229⟩) ad.cells (qz (r:=qs.rep) (x:=⟨0,0,0⟩) ae.cells ?_);have af:=ar.drew;have i:=bT B6 (bdw w6);have a6:w6.drew.heap.size=w6.heap.size:=rfl;have z6:=B6.size;generalize w6.drew=s at ad ae af i a6 ⊢;have ca:∀{wx},Uc s wx->qG wx ⟨w2.heap.size,0,none⟩ (qs.rep.cells ⟨229,229,229⟩):=λN=>(ad.ext N).cells;have cb:∀{wx},Uc s wx->qG wx ⟨w3.heap.size,0,none⟩ (qs.rep.cells ⟨0,0,0⟩):=λN=>(ae.ext N).cells;have l:∀(J L:Nat) wx,s.heap.size<=J->s.heap.size<=L->J≠L->Blk wx J qK [(.int .u8 0),(.int .u8 0),(.int .u8 0),(.int .u8 0)]->Blk wx L qK [(.int .u8 0),(.int .u8 0),(.int .u8 0),(.int .u8 0)]->Uc s wx ->
   stK ⟨J,0,none⟩ (qt.rep.cells ⟨229,229,229,255⟩) wx λS=>stK ⟨L,0,none⟩ (qt.rep.cells ⟨0,0,0,255⟩) S λwz=>J1 (⟨J,0,none⟩,⟨L,0,none⟩,()) wz:=by
  intro J L wx lf lb ne ab ac N;refine xR ab rfl λS hy ah bi=>?_;refine xR (ac.chg ah λe=>ne e.symm) rfl λwz hz ai bj=>?_;have bk:=af.lt;refine av J L wz (by omega) (by omega) (hy.chg ai ne) hz (((af.ext N).chg ah (by omega)).chg ai (by omega)) (b1o (b1o (bT i N) ah (by omega)) ai (by omega))
 have B:∀{wx} {X:qt->Ub},(∀S,Uc wx S->X ⟨229,229,229,255⟩ S)->zz ⟨229,229,229⟩ wx X:=λh=>qsa _ h;have g:∀{wx} {X:qt->Ub},(∀S,Uc wx S->X ⟨0,0,0,255⟩ S)->zz ⟨0,0,0⟩ wx X:=λh=>qsa _ h;have z:∀{M:World} (_:Uc s M) {X:Addr->Ub},(∀n,Blk n M.heap.size qK [(.int .u8 0),(.int .u8 0),(.int .u8 0),(.int .u8 0)]->Uc M n->Uc s n->X ⟨M.heap.size,0,none⟩ n) ->
   nw qK [(.int .u8 0),(.int .u8 0),(.int .u8 0),(.int .u8 0)] M λt n=>qG n ⟨w3.heap.size,0,none⟩ (qs.rep.cells ⟨0,0,0⟩)/\qG n ⟨w2.heap.size,0,none⟩ (qs.rep.cells ⟨229,229,229⟩)/\X t n :=
  λN _ h=>nwb λn I Q bl=>⟨cb (bT N Q),ca (bT N Q),h n I Q (bT N Q)⟩
 have T:Uc s s:=Below.refl _ s;refine ⟨B λM o=>⟨cb o,?_,?_,?_⟩,z T λM j a7 o=>⟨?_,?_⟩,z T λM j a7 o=>⟨?_,?_⟩⟩
 ·refine g λn a=>?_;have Bb:=bT o a;refine ⟨z Bb λG A d F=>z F λD q f i=>?_,z Bb λG A d F=>z F λD q f i=>?_⟩
  ·exact l _ _ D Bb.size F.size (by have:=A.lt;omega) (A.ext f) q i
  ·exact l _ _ D F.size Bb.size (by have:=A.lt;omega) q (A.ext f) i
 ·refine z o λG A d F=>⟨g λn a=>z (bT F a) λD q f i=>?_,z F λD q f i=>g λn a=>?_⟩
  ·exact l _ _ D o.size (bT F a).size (by have:=A.lt;have:=a.size;omega) ((A.ext a).ext f) q i
  ·exact l _ _ n o.size F.size (by have:=A.lt;omega) ((A.ext f).ext a) (q.ext a) (bT i a)
 ·refine z o λG A d F=>⟨g λn a=>z (bT F a) λD q f i=>?_,z F λD q f i=>g λn a=>?_⟩
  ·exact l _ _ D (bT F a).size o.size (by have:=A.lt;have:=a.size;omega) q ((A.ext a).ext f) i
  ·exact l _ _ n F.size o.size (by have:=A.lt;omega) (q.ext a) ((A.ext f).ext a) (bT i a)
 ·refine B λn a=>⟨cb (bT o a),g λG d=>z (bT (bT o a) d) λD q f i=>?_,z (bT o a) λD q f i=>g λG d=>?_⟩
  ·exact l _ _ D T.size (bT (bT o a) d).size (by have:=j.lt;have:=(bT a d).size;omega) (((j.ext a).ext d).ext f) q i
  ·exact l _ _ G T.size (bT o a).size (by have:=j.lt;have:=a.size;omega) (((j.ext a).ext f).ext d) (q.ext d) (bT i d)
 ·refine z o λD q f i=>B λn a=>⟨cb (bT i a),g λG d=>?_⟩;exact l _ _ G T.size o.size (by have:=j.lt;omega) (((j.ext f).ext a).ext d) ((q.ext a).ext d) (bT (bT i a) d)
 ·refine B λn a=>⟨cb (bT o a),g λG d=>z (bT (bT o a) d) λD q f i=>?_,z (bT o a) λD q f i=>g λG d=>?_⟩
  ·exact l _ _ D (bT (bT o a) d).size T.size (by have:=j.lt;have:=(bT a d).size;omega) q (((j.ext a).ext d).ext f) i
  ·exact l _ _ G (bT o a).size T.size (by have:=j.lt;have:=a.size;omega) (q.ext d) (((j.ext a).ext f).ext d) (bT i d)
 ·refine z o λD q f i=>B λn a=>⟨cb (bT i a),g λG d=>?_⟩;exact l _ _ G o.size T.size (by have:=j.lt;omega) ((q.ext a).ext d) (((j.ext f).ext a).ext d) (bT (bT i a) d)
end
def q56 (W H cw ch C0:Nat) (P:List UInt8) (row col:Nat) (c:Cel):List UInt8 :=
 if c.R=0 then P else if c.Kind=2 then P
 else zmj (λP x y bw bh k=>q33 P W H (((col*cw:Nat):Int)+x) (((row*ch:Nat):Int)+y) bw bh k) P c.R (if c.Kind=1/\col+1<C0 then cw*2 else cw) ch
def zdn (L:List (List Cel)):Prop:=∀r c,0<=(kn L r c).R/\(kn L r c).R<=1114111
section
variable {w w':World} {B base:Nat} {s:qy} {R C0 cw ch W H:Nat} {L:List (List Cel)} {m:qf} {P:List UInt8}
theorem q7f (h:ScnM w B s R C0 cw ch L) (hb:zg5 L) (hch:zdn L) (hM:MatM w base m W H P) (hB:B<=base) {K:qf->Ub} (hK:∀w',MatM w' base m W H (qwj (q56 W H cw ch C0) L C0 P R)->Chg (λk=>m.P.blk=some k) w w'->K m w'):Zb ⟨s⟩ m w K:=by
 refine qh5 _ _ ?_;refine nwb λw1 h1 l ay=>nwb λw2 h2 q az=>nwb λw3 h3 D a1=>?_;have B3:=bT (bT l q) D;have T:=(h1.ext q).ext D;have U:=h2.ext D;obtain ⟨gm,ha,E⟩:=hM.some_;have gl:=hM.own.lt gm E;have a2:=h.lim;refine qz (r:=qy.rep) (x:=s) (T.sub 0 _ rfl) ?_;have v:∀{b:Nat} {t:TypeId} {vs:List Value} {wa wb:World},Blk wa b t vs->Chg (λk=>m.P.blk=some k) wa wb->w.heap.size<=b->Blk wb b t vs:=λhb hc V=>hb.chg hc λe=>by rw [E] at e;cases e;omega
 refine qxd (g:=q56 W H cw ch C0) (h.ext B3) (hM.ext B3) hB (λ{w4 P4} row col {K4} hr hc j d hK4=>?_) λw4 j d=>?_
 ·have af:=v T d (le_refl _);have ah:=v U d l.size;refine Go.Vc.callR_plain (by kernel_rfl) ?_;refine Calls.mono (show X6 (row:Int) (col:Int) (kn L row col) ⟨w.heap.size,0,none⟩ ⟨w1.heap.size,0,none⟩ w4 K4 from ?_) ?_
  ·refine qdy _ _ _ _ _ ?_;refine nwb λw5 h5 X ai=>nwb λw6 h6 F a3=>nwb λw7 M G a4=>?_;have N:=bT (bT X F) G;have aj:=(h5.ext F).ext G;have Y:=h6.ext G;have u:=af.ext N;have ak:=ah.ext N;have I:=j.ext N;obtain ⟨c,al⟩:∃c,c=kn L row col:=⟨_,rfl⟩;have hA:=hb row col;have hR:=hch row col;rw [<-al] at M hK4 hA hR;refine jpO λJ1 am=>?_;unfold q56 at hK4;refine lI (x:=c.R) (M.cells 0 _ rfl) (cO (λe=>?_) λe=>?_)
   ·rw [if_pos (eq_of_beq e)] at hK4;exact hK4 w7 I (Chg.of_ext N)
   rw [if_neg (beq_eq_false_iff_ne.1 e)] at hK4;refine lI (x:=c.Kind) (M.cells 1 _ rfl) (cO (λe=>?_) λe=>?_)
   ·rw [if_pos (eq_of_beq e)] at hK4;exact hK4 w7 I (Chg.of_ext N)
   rw [if_neg (beq_eq_false_iff_ne.1 e)] at hK4;refine am _ _ ?_;have c2:∀{wx},Blk wx w.heap.size xf (qP.rep.cells ⟨s⟩)->wx.cell? (((⟨w.heap.size,0,none⟩:Addr).add 0).add 2)=some (Ua cw):=λO=>by rw [<-h.ecw,jU];exact O.cells 2 _ rfl
   have c3:∀{wx},Blk wx w.heap.size xf (qP.rep.cells ⟨s⟩)->wx.cell? (((⟨w.heap.size,0,none⟩:Addr).add 0).add 3)=some (Ua ch):=λO=>by rw [<-h.ech,jU];exact O.cells 3 _ rfl
   have c1:∀{wx},Blk wx w.heap.size xf (qP.rep.cells ⟨s⟩)->wx.cell? (((⟨w.heap.size,0,none⟩:Addr).add 0).add 1)=some (Ua C0):=λO=>by rw [<-h.cols,jU];exact O.cells 1 _ rfl
   refine lI (x:=(cw:Int)) (c2 u) ?_;refine jpO λJ2 an=>?_;have Z:∀Q:Nat,1<=Q/\Q<=128->Q=(if c.Kind=1/\col+1<C0 then cw*2 else cw)->J2 ((Q:Int),()) w7:=by
    intro Q ao ap;rw [<-ap] at hK4;refine an _ _ ?_;refine lI (x:=c.R) (M.cells 0 _ rfl) (lI (x:=(ch:Int)) (c3 u) ?_);refine qz (r:=qA.rep) (x:=at0) (by have:=M.sub 2 (qA.rep.cells c.A) rfl;rw [hA] at this;exact this) ?_;refine zi7 (lay:=λP x y bw bh k=>q33 P W H (((col*cw:Nat):Int)+x) (((row*ch:Nat):Int)+y) bw bh k) c.R hR Q ch ao (by omega) I (λ{w8 P8} x y bw bh k kb {K8} O hy hbw hbh z J n hK8=>?_) λw8 J n=>hK4 w8 J ((Chg.of_ext N).trans n λ_ _ h=>h);refine Go.Vc.callR_plain (by kernel_rfl) ?_;have z5:=X.size;have z6:=F.size;have l4:=d.size;have l3:=B3.size;have V:w.heap.size<=w4.heap.size:=by omega
    refine Calls.mono (show Jt x y bw bh k ⟨w1.heap.size,0,none⟩ ⟨w5.heap.size,0,none⟩ ⟨w.heap.size,0,none⟩ ⟨w4.heap.size,0,none⟩ w8 K8 from ?_) ?_
    ·refine qbl _ _ _ _ _ _ _ _ _ ?_;refine nwb λw9 h9 o a5=>?_;have aa:=(v u n (le_refl _)).ext o;have aq:=(v ak n l.size).ext o;have ar:=(v aj n V).ext o;have ab:=(v Y n (by omega)).ext o;refine qz (r:=qf.rep) (x:=m) aq.cells (lI (x:=(col:Int)) (by simpa using ab.cell 0 rfl) (lI (x:=(cw:Int)) (c2 aa) (lI (x:=(row:Int)) (by simpa using ar.cell 0 rfl) (lI (x:=(ch:Int)) (c3 aa) ?_))));refine qz (r:=qt.rep) (x:=k) h9.cells ?_;obtain ⟨e1,b1⟩:=q9d (a:=col) (b:=cw) (by omega) (by omega);obtain ⟨e2,b2⟩:=q9d (a:=row) (b:=ch) (by omega) (by omega);rw [e1,e2,qM (x:=((col*cw:Nat):Int)+x) (by omega),qM (x:=((row*ch:Nat):Int)+y) (by omega)];exact qwm (J.ext o) (by omega) (by omega) (by omega) (by omega) z λau ac ad=>hK8 au ac ((Chg.of_ext o).trans ad λ_ _ h=>h)
    ·rintro e w' ⟨rfl,z⟩;exact ⟨rfl,z⟩
   refine jpO λJ3 av=>?_;have C:∀b:Bool,b=decide (c.Kind=1/\col+1<C0)->J3 (b,()) w7:=by
    intro b f;refine av _ _ (cO (λe=>?_) λe=>?_)
    ·have e:b=true:=e;rw [e] at f;have f:=oTq f.symm;rw [qM (x:=(cw:Int)*2) (by omega),show (cw:Int)*2=((cw*2:Nat):Int) by simp];exact Z _ (by omega) (by rw [if_pos f])
    ·have e:b=false:=e;rw [e] at f;have f:=oFq f.symm;exact Z _ (by omega) (by rw [if_neg f])
   refine lI (x:=c.Kind) (M.cells 1 _ rfl) (cO (λe=>?_) λe=>?_)
   ·have e:c.Kind=1:=eq_of_beq e;refine lI (x:=(col:Int)) (by simpa using Y.cell 0 rfl) (lI (x:=(C0:Int)) (c1 u) (C _ ?_));rw [qM (x:=(col:Int)+1) (by omega)];by_cases hcC:col+1<C0
    ·rw [dTq (p:=c.Kind=1/\col+1<C0) ⟨e,hcC⟩,dTq (by omega)]
    ·rw [dFq (p:=c.Kind=1/\col+1<C0) (λhh=>hcC hh.2),dFq (by omega)]
   ·have e:¬c.Kind=1:=beq_eq_false_iff_ne.1 e;exact C _ (by rw [dFq];rintro ⟨h,_⟩;exact e h)
  ·rintro e w' ⟨rfl,z⟩;exact ⟨rfl,z⟩
 ·have aw:=v U d l.size;have ax:=v h3 d (by have:=(bT l q).size;omega);refine qz (r:=qf.rep) (x:=m) aw.cells ?_;refine zN (r:=qf.rep) (x:=m) ax rfl rfl λw5 ae ai=>?_;have z4:=d.size;have l3:=(bT l q).size;have l4:=h3.lt;refine hK w5 ⟨j.hw,j.hh,j.own.chg ae (λk z e=>by rw [E] at z;cases z;omega),j.len,j.lim⟩ ?_;refine (Chg.of_ext (S:=λk=>m.P.blk=some k) B3).trans (S':=λk=>m.P.blk=some k\/k=w2.heap.size) ((d.mono λ_ _ h=>.inl h).trans ae λ_ _ e=>.inr e) λi hi e=>?_;rcases e with e | e
  ·exact e
  ·omega
end
def zoy (P:List UInt8) (o:Nat):List UInt8:=P.set o (255-P.getD o 0)
def zel (P:List UInt8) (o:Nat):Nat->List UInt8
 | 0=>P
 | i+1=>zoy (zel P o i) (o+i)
def zgb (P:List UInt8) (W y x0:Nat):Nat->List UInt8
 | 0=>P
 | k+1=>zel (zgb P W y x0 k) (4*(y*W+(x0+k))) 3
def zah (P:List UInt8) (W x0 nx y0:Nat):Nat->List UInt8
 | 0=>P
 | k+1=>zgb (zah P W x0 nx y0 k) W (y0+k) x0 nx
def qo2 (P:List UInt8) (W R C0 cw ch:Nat) (on:Bool) (row col:Int):List UInt8 :=
 if on=true/\(0<=row/\row<R)/\(0<=col/\col<C0) then zah P W (col.toNat*cw) cw (row.toNat*ch) ch else P
theorem qol (P:List UInt8) (o:Nat):∀i,(zel P o i).length=P.length
 | 0=>rfl
 | i+1=>by show (List.set _ _ _).length=_;rw [length_set,qol P o i]
section
variable {w w':World} {B base:Nat} {s:qy} {R C0 cw ch W H:Nat} {L:List (List Cel)} {m:qf} {P:List UInt8}
theorem kf {v lo hi:Int} {K:Bool->Ub} (hK:K (decide (lo<=v/\v<=hi)) w):jl v lo hi w K:=by
 refine qr8 _ _ _ ?_;refine cO (λe=>?_) λe=>?_
 ·have e:=oTq e;rw [show decide (lo<=v/\v<=hi)=decide (v<=hi) by simp;intro _;exact e] at hK;exact hK
 ·have e:=oFq e;rw [show decide (lo<=v/\v<=hi)=false by simp;omega] at hK;exact hK
theorem q1k (h:ScnM w B s R C0 cw ch L) (hW:W=C0*cw) (hH:H=R*ch) (br:-1000000<=s.Row/\s.Row<=1000000) (bc:-1000000<=s.Col/\s.Col<=1000000) (hM:MatM w base m W H P) {K:qf->Ub}
  (hK:∀w',MatM w' base m W H (qo2 P W R C0 cw ch s.Cursor s.Row s.Col)->Chg (λk=>m.P.blk=some k) w w'->K m w'):QV ⟨s⟩ m w K:=by
 refine qg6 _ _ ?_;refine nwb λw1 h1 hB1 hs1=>nwb λw2 h2 hB2 hs2=>nwb λw3 h3 hB3 hs3=>?_;have h13:=(h1.ext hB2).ext hB3;have h23:=h2.ext hB3;refine qz (r:=qy.rep) (x:=s) (h13.sub 0 _ rfl) ?_;refine nwb λw4 h4 hB4 hs4=>xR h4 rfl λw5 h5 hc5 hs5=>?_;have l3:=h3.lt;have l2:=h23.lt;have z12:=(bT hB1 hB2).size;have z4:=hB4.size;have B5:Uc w w5:=b1o (bT (bT (bT hB1 hB2) hB3) hB4) hc5 (by omega);have h25:=(h23.ext hB4).chg hc5 (by omega);have h35:=(h3.ext hB4).chg hc5 (by omega);obtain ⟨gm,ha,hbm⟩:=hM.some_;have gl:=hM.own.lt gm hbm;have lim:=h.lim;have hM5:=hM.ext B5;have kp:∀{b:Nat} {t:TypeId} {vs:List Value} {wa wb:World},Blk wa b t vs->Chg (λk=>m.P.blk=some k) wa wb->w.heap.size<=b->Blk wb b t vs:=λhb hc hle=>hb.chg hc λe=>by rw [hbm] at e;cases e;omega
 have fin:∀w6 P6,MatM w6 base m W H P6->Chg (λk=>m.P.blk=some k) w5 w6->P6=qo2 P W R C0 cw ch s.Cursor s.Row s.Col ->
   ldS qf.rep ⟨w1.heap.size,0,none⟩ w6 λt93=>stK ⟨w2.heap.size,0,none⟩ (qf.rep.cells t93) w6 λw11=>ldS qf.rep ⟨w2.heap.size,0,none⟩ w11 λr=>K r w11:=by
  rintro w6 P6 hM6 hc6 rfl;refine qz (r:=qf.rep) (x:=m) (kp h25 hc6 hB1.size).cells ?_;refine zN (r:=qf.rep) (x:=m) (kp h35 hc6 z12) rfl rfl λw7 hc7 hs7=>?_;have z6:=hc6.size;refine hK w7 ⟨hM6.hw,hM6.hh,hM6.own.chg hc7 (λk hk e=>by rw [hbm] at hk;cases hk;omega),hM6.len,hM6.lim⟩ ?_;refine (Chg.of_ext (S:=λk=>m.P.blk=some k) B5).trans (S':=λk=>m.P.blk=some k\/k=w2.heap.size) ((hc6.mono λ_ _ h=>.inl h).trans hc7 λ_ _ e=>.inr e) λi hi e=>?_;rcases e with e | e
  ·exact e
  ·omega
 refine jpO λJ1 hJ1=>?_;have go:s.Cursor=true->(0<=s.Row/\s.Row<(R:Int))->(0<=s.Col/\s.Col<(C0:Int))->∀w6,Uc w5 w6->J1 () w6:=by
  intro hon hrow hcol w6 hB6;refine hJ1 _ _ ?_;have h56:=h5.ext hB6;have hM6:=hM5.ext hB6;obtain ⟨r,hr⟩:∃r:Nat,s.Row=r:=⟨s.Row.toNat,by omega⟩;obtain ⟨c,hc⟩:∃c:Nat,s.Col=c:=⟨s.Col.toNat,by omega⟩;obtain ⟨e1,b1⟩:=q9d (a:=r) (b:=ch) (by omega) (by omega);obtain ⟨e2,b2⟩:=q9d (a:=c) (b:=cw) (by omega) (by omega);have lr:∀{wx},Blk wx w3.heap.size zo (qy.rep.cells s)->wx.cell? ((⟨w3.heap.size,0,none⟩:Addr).add 9)=some (Ua r):=λhx=>by rw [<-hr];exact hx.cells 9 _ rfl
  have lc:∀{wx},Blk wx w3.heap.size zo (qy.rep.cells s)->wx.cell? ((⟨w3.heap.size,0,none⟩:Addr).add 10)=some (Ua c):=λhx=>by rw [<-hc];exact hx.cells 10 _ rfl
  have lh:∀{wx},Blk wx w3.heap.size zo (qy.rep.cells s)->wx.cell? ((⟨w3.heap.size,0,none⟩:Addr).add 3)=some (Ua ch):=λhx=>by rw [<-h.ech];exact hx.cells 3 _ rfl
  have lw:∀{wx},Blk wx w3.heap.size zo (qy.rep.cells s)->wx.cell? ((⟨w3.heap.size,0,none⟩:Addr).add 2)=some (Ua cw):=λhx=>by rw [<-h.ecw];exact hx.cells 2 _ rfl
  have er:IntKind.i64.wrap (IntKind.i64.wrap ((r:Int)+1)*(ch:Int))=((r*ch+ch:Nat):Int):=by
   rw [qM (x:=(r:Int)+1) (by omega),show ((r:Int)+1)*(ch:Int)=((r*ch+ch:Nat):Int) by rw [Int.add_mul];simp];exact qM (by omega)
  have ec:IntKind.i64.wrap (IntKind.i64.wrap ((c:Int)+1)*(cw:Int))=((c*cw+cw:Nat):Int):=by
   rw [qM (x:=(c:Int)+1) (by omega),show ((c:Int)+1)*(cw:Int)=((c*cw+cw:Nat):Int) by rw [Int.add_mul];simp];exact qM (by omega)
  have inr:r*ch+ch<=H:=by
   rw [hH];have:(r+1)*ch<=R*ch:=Nat.mul_le_mul_right ch (by omega);rw [add_mul] at this;omega
  have inc:c*cw+cw<=W:=by
   rw [hW];have:(c+1)*cw<=C0*cw:=Nat.mul_le_mul_right cw (by omega);rw [add_mul] at this;omega
  obtain ⟨y0,hy0⟩:∃y0,y0=r*ch:=⟨_,rfl⟩;obtain ⟨x0,hx0⟩:∃x0,x0=c*cw:=⟨_,rfl⟩;refine lI (x:=(r:Int)) (lr h56) (lI (x:=(ch:Int)) (lh h56) ?_);rw [e1,<-hy0];rw [<-hy0] at er inr b1;rw [<-hx0] at ec inc b2;have c06:Chg (λk=>m.P.blk=some k) w5 w6:=Chg.of_ext hB6;have hlen:=hM.len;have hlim:=hM.lim;refine lpR (λ(st:Int×Unit) w7=>∃k:Nat,st.1=((y0+k:Nat):Int)/\k<=ch/\MatM w7 base m W H (zah P W x0 cw y0 k)/\Chg (λk=>m.P.blk=some k) w6 w7) (λst=>ch-(st.1.toNat-y0)) ⟨0,rfl,zero_le _,hM6,Chg.refl _ _⟩ ?_;rintro ⟨i,u⟩ w7 ⟨k,hi,hk,hM7,hc7⟩ I hI;dsimp only at hi ⊢;subst hi;have h57:=kp h56 hc7 (by omega);refine lI (x:=(r:Int)) (lr h57) (lI (x:=(ch:Int)) (lh h57) ?_);rw [er];refine cO (λe=>?_) λe=>?_
  ·have hkn:k<ch:=by have:=oTq e;omega
   refine lI (x:=(c:Int)) (lc h57) (lI (x:=(cw:Int)) (lw h57) ?_);rw [e2,<-hx0];refine lpR (λ(st:Int×Unit) w8=>∃j:Nat,st.1=((x0+j:Nat):Int)/\j<=cw/\MatM w8 base m W H (zgb (zah P W x0 cw y0 k) W (y0+k) x0 j)/\Chg (λk=>m.P.blk=some k) w6 w8) (λst=>cw-(st.1.toNat-x0)) ⟨0,rfl,zero_le _,hM7,hc7⟩ ?_;rintro ⟨i2,u2⟩ w8 ⟨j,hi2,hj,hM8,hc8⟩ I2 hI2;dsimp only at hi2 ⊢;subst hi2;have h58:=kp h56 hc8 (by omega);refine lI (x:=(c:Int)) (lc h58) (lI (x:=(cw:Int)) (lw h58) ?_);rw [ec];refine cO (λe=>?_) λe=>?_
   ·have hjn:j<cw:=by have:=oTq e;omega
    have hin:=qrc (W:=W) (H:=H) (x:=x0+j) (y:=y0+k) (by omega) (by omega);obtain ⟨o,ho⟩:∃o,o=4*((y0+k)*W+(x0+j)):=⟨_,rfl⟩;refine lpR (λ(st:Int×Unit) w9=>∃t:Nat,st.1=(t:Int)/\t<=3/\MatM w9 base m W H (zel (zgb (zah P W x0 cw y0 k) W (y0+k) x0 j) o t)/\Chg (λk=>m.P.blk=some k) w6 w9) (λst=>3-st.1.toNat) ⟨0,rfl,by omega,hM8,hc8⟩ ?_;rintro ⟨i3,u3⟩ w9 ⟨t,hi3,ht,hM9,hc9⟩ I3 hI3;dsimp only at hi3 ⊢;subst hi3;refine cO (λe=>?_) λe=>?_
    ·have htn:t<3:=by have:=oTq e;omega
     have hm9:=(kp (h25.ext hB6) hc9 hB1.size).drew;refine lSl (x:=m.P) (hm9.cells 2 _ rfl) (lI (x:=(W:Int)) (by rw [<-hM.hw];exact hm9.cells 0 _ rfl) (lSl (x:=m.P) (hm9.cells 2 _ rfl) (lI (x:=(W:Int)) (by rw [<-hM.hw];exact hm9.cells 0 _ rfl) ?_)));have eidx:IntKind.i64.wrap (IntKind.i64.wrap ((4:Int)*IntKind.i64.wrap (IntKind.i64.wrap (((y0+k:Nat):Int)*(W:Int))+((x0+j:Nat):Int)))+(t:Int))=((o+t:Nat):Int):=by
      have e1:((y0+k:Nat):Int)*(W:Int)=(((y0+k)*W:Nat):Int):=by simp
      rw [e1,ho];generalize (y0+k)*W=q at hin ⊢;rw [qM (x:=((q:Nat):Int)) (by omega),qM (x:=((q:Nat):Int)+((x0+j:Nat):Int)) (by omega),qM (x:=(4:Int)*(((q:Nat):Int)+((x0+j:Nat):Int))) (by omega),qM (by omega)];omega
     rw [eidx];have hl9:=hM9.len;have ho9:=hM9.own.drew;have hot:o+t<(zel (zgb (zah P W x0 cw y0 k) W (y0+k) x0 j) o t).length:=by rw [hl9];omega
     obtain ⟨v,hv,hvs⟩:=qf9 (xs:=zel (zgb (zah P W x0 cw y0 k) W (y0+k) x0 j) o t) (k:=o+t) hot;refine ho9.rd.ix (i:=((o+t:Nat):Int)) (k:=1) rfl (by omega) (by omega) λhcell=>?_;rw [hvs] at hcell;refine zn0 (b:=v) hcell ?_;refine ho9.rd.ix (i:=((o+t:Nat):Int)) (k:=1) rfl (by omega) (by omega) λ_=>?_;have ev:u8.wrap ((255:Int)-(v.toNat:Int))=((255-v).toNat:Int):=by
      have h8:=v.toNat_lt;have e1:(255-v).toNat=255-v.toNat:=by
       rw [UInt8.toNat_sub_of_le]
       ·rfl
       ·rw [UInt8.le_iff_toNat_le];show v.toNat<=255;omega
      rw [e1,show (255:Int)-(v.toNat:Int)=((255-v.toNat:Nat):Int) by omega];exact xN .u8 (by show _<2^8;omega)
     rw [ev];refine ho9.st0 (x:=v) hv (y:=255-v) rfl λw10 ho10 hg10 hs10=>?_;rw [qM (x:=(t:Int)+1) (by omega)];have hc10:Chg (λk=>m.P.blk=some k) w9 w10:=(Chg.of_ext (bdw w9)).trans (Chg.of_grown (S:=λk=>m.P.blk=some k) hg10 λk hk=>hk) λ_ _ h=>h;refine hI3 _ _ ⟨t+1,by simp,by omega,⟨hM9.hw,hM9.hh,?_,by rw [qol,<-qol _ o t];exact hl9,hM9.lim⟩,hc9.trans hc10 λ_ _ h=>h⟩ (by dsimp only;omega);show Go.Vc.Own qo w10 base m.P (List.set _ (o+t) (255-List.getD _ (o+t) 0));rw [List.getD_eq_getElem?_getD,hv];exact ho10
    ·have:t=3:=by have:=oFq e;omega
     subst this;rw [qM (x:=((x0+j:Nat):Int)+1) (by omega)];refine hI2 _ _ ⟨j+1,by simp;omega,by omega,?_,hc9⟩ (by dsimp only;omega);rw [ho] at hM9;exact hM9
   ·have:j=cw:=by have:=oFq e;omega
    subst this;rw [qM (x:=((y0+k:Nat):Int)+1) (by omega)];exact hI _ _ ⟨k+1,by simp;omega,by omega,hM8,hc8⟩ (by dsimp only;omega)
  ·have:k=ch:=by have:=oFq e;omega
   subst this;refine fin w7 _ hM7 (c06.trans hc7 λ_ _ h=>h) ?_;unfold qo2;rw [if_pos ⟨hon,hrow,hcol⟩,hr,hc,Int.toNat_natCast,Int.toNat_natCast,<-hy0,<-hx0]
 have no:¬(s.Cursor=true/\(0<=s.Row/\s.Row<(R:Int))/\(0<=s.Col/\s.Col<(C0:Int)))->P=qo2 P W R C0 cw ch s.Cursor s.Row s.Col:=λhn=>by unfold qo2;rw [if_neg hn]
 refine jw (x:=s.Cursor) (h5.cells 8 _ rfl) (cO (λe=>?_) λe=>?_)
 ·have e:s.Cursor=false:=by simpa using e
  exact fin w5 P hM5 (Chg.refl _ _) (no λhh=>by rw [e] at hh;cases hh.1)
 have eon:s.Cursor=true:=by simpa using e
 refine lI (x:=s.Row) (h5.cells 9 _ rfl) (lI (x:=(R:Int)) (by rw [<-h.rows];exact h5.cells 0 _ rfl) ?_);rw [qM (x:=(R:Int)-1) (by omega)];refine kf (cO (λe=>?_) λe=>?_)
 ·have e:¬(0<=s.Row/\s.Row<=(R:Int)-1):=λhh=>by simp at e;omega
  exact fin w5 P hM5 (Chg.refl _ _) (no λhh=>e ⟨hh.2.1.1,by omega⟩)
 have er:0<=s.Row/\s.Row<=(R:Int)-1:=by simpa using e
 refine lI (x:=s.Col) (h5.cells 10 _ rfl) (lI (x:=(C0:Int)) (by rw [<-h.cols];exact h5.cells 1 _ rfl) ?_);rw [qM (x:=(C0:Int)-1) (by omega)];refine kf (cO (λe=>?_) λe=>?_)
 ·have e:¬(0<=s.Col/\s.Col<=(C0:Int)-1):=λhh=>by simp at e;omega
  exact fin w5 P hM5 (Chg.refl _ _) (no λhh=>e ⟨hh.2.2.1,by omega⟩)
 have ec:0<=s.Col/\s.Col<=(C0:Int)-1:=by simpa using e
 exact go eon ⟨er.1,by omega⟩ ⟨ec.1,by omega⟩ w5 (Below.refl _ _)
end
def zsc:qy:=⟨0,0,0,0,⟨none,0,0⟩,⟨none,0,0⟩,none,0,false,0,0⟩
def scA (s:qy):Value:=.agg #[(Ua s.Rows),(Ua s.Cols),(Ua s.CellW),(Ua s.CellH),(.slice s.Lines.a s.Lines.n s.Lines.c),(.slice s.Places.a s.Places.n s.Places.c),(.map s.Images),(Ua s.Top),(.bool s.Cursor),(Ua s.Row),(Ua s.Col)]
def scI (s:qy) (b:Bool):Value:=.agg #[(Ua s.Rows),(Ua s.Cols),(Ua s.CellW),(Ua s.CellH),(.slice s.Lines.a s.Lines.n s.Lines.c),(.slice s.Places.a s.Places.n s.Places.c),(.map s.Images),(Ua s.Top),(.bool s.Cursor),(Ua s.Row),(Ua s.Col),(.bool b)]
theorem qnn {l:Value} {t:TypeId} {r:Rep} {x:r.T} {b:Bool} {w:World} {K:r.T->Bool->Ub} (hp:qi4 PG (Instr.typeAssert l vd t true)=some (.tuple #[(Kind.struct r).enc x,Kind.bool.enc b])) (hK:K x b w) :
  qep PG (Instr.typeAssert l vd t true) (Kind.struct r) Kind.bool w K:=⟨x,b,w,Xq _ hp w,hK⟩
section
variable {w w':World} {B base:Nat} {s:qy} {R C0 cw ch W H:Nat} {L:List (List Cel)} {m:qf} {P:List UInt8}
theorem zlk {K:ByteArray->Ub} (hK:∀s,K s w):yg (.iface xo (scA s)) w K:=by
 refine Z0 _ ?_;refine qnn (r:=jb.rep) (x:=⟨zsc,false⟩) (b:=false) (by kernel_rfl) (cF rfl ?_);refine qnn (r:=qP.rep) (x:=⟨s⟩) (b:=true) (by kernel_rfl) ?_;exact qnn (r:=qP.rep) (x:=⟨zsc⟩) (b:=false) (by kernel_rfl) (cT rfl (hK _))
theorem zcw {b:Bool} {K:ByteArray->Ub} (hK:∀s,K s w):yg (.iface xJ (scI s b)) w K:=by
 refine Z0 _ ?_;exact qnn (r:=jb.rep) (x:=⟨s,b⟩) (b:=true) (by kernel_rfl) (cT rfl (hK _))
theorem zkh {K:ByteArray->Ub} (hK:∀s,K s w):yg (.iface xf (scA s)) w K:=by
 refine Z0 _ ?_;refine qnn (r:=jb.rep) (x:=⟨zsc,false⟩) (b:=false) (by kernel_rfl) (cF rfl ?_);refine qnn (r:=qP.rep) (x:=⟨zsc⟩) (b:=false) (by kernel_rfl) ?_;exact qnn (r:=qP.rep) (x:=⟨s⟩) (b:=true) (by kernel_rfl) (cF rfl (cT rfl (hK _)))
theorem zkw {K:ByteArray->Ub} (hK:∀s,K s w):yg (.iface vH (scA s)) w K:=by
 refine Z0 _ ?_;refine qnn (r:=jb.rep) (x:=⟨zsc,false⟩) (b:=false) (by kernel_rfl) (cF rfl ?_);refine qnn (r:=qP.rep) (x:=⟨zsc⟩) (b:=false) (by kernel_rfl) ?_;refine qnn (r:=qP.rep) (x:=⟨zsc⟩) (b:=false) (by kernel_rfl) (cF rfl (cF rfl ?_));exact qnn (r:=qP.rep) (x:=⟨s⟩) (b:=true) (by kernel_rfl) (cT rfl (hK _))
theorem zoe (w : World) : (method (PG.types.size + Made.depth) xo (scA s) "Paint").run PG w = .ok (526, scA s) w := Xq _ (by kernel_rfl) w
theorem znb (b : Bool) (w : World) : (method (PG.types.size + Made.depth) xJ (scI s b) "Paint").run PG w = .ok (536, scI s b) w := Xq _ (by kernel_rfl) w
theorem znz (w : World) : (method (PG.types.size + Made.depth) xf (scA s) "Paint").run PG w = .ok (543, scA s) w := Xq _ (by kernel_rfl) w
theorem zna (w : World) : (method (PG.types.size + Made.depth) vH (scA s) "Paint").run PG w = .ok (547, scA s) w := Xq _ (by kernel_rfl) w
def mA (m:qf):Value:=.agg #[(Ua m.W),(Ua m.H),(.slice m.P.a m.P.n m.P.c)]
theorem zl2 {K : qf -> Ub} (h : Qq ⟨s⟩ m w K) : qzy C (.iface xo (scA s)) "Paint" [mA m] [(Kind.struct qf.rep)] w K := ⟨_, _, _, _, rfl, zoe w, by kernel_rfl, h⟩
theorem zdh {b : Bool} {K : qf -> Ub} (h : vJ ⟨s, b⟩ m w K) : qzy C (.iface xJ (scI s b)) "Paint" [mA m] [(Kind.struct qf.rep)] w K := ⟨_, _, _, _, rfl, znb b w, by kernel_rfl, h⟩
theorem zkb {K : qf -> Ub} (h : Zb ⟨s⟩ m w K) : qzy C (.iface xf (scA s)) "Paint" [mA m] [(Kind.struct qf.rep)] w K := ⟨_, _, _, _, rfl, znz w, by kernel_rfl, h⟩
theorem zj9 {K : qf -> Ub} (h : QV ⟨s⟩ m w K) : qzy C (.iface vH (scA s)) "Paint" [mA m] [(Kind.struct qf.rep)] w K := ⟨_, _, _, _, rfl, zna w, by kernel_rfl, h⟩
end
section
variable {w w':World} {base:Nat} {F F':TmF} {T T':TS} {g:Nat} {SF:ScF} {S:Sc}
theorem ze8 (h:ScM w base g SF S) {K:Int->Ub} (hK:∀w',Uc w w'->K S.g.top w'):Ja (some ⟨g,0,none⟩) w K:=by
 refine qip _ ?_;exact qsp h (q3d h.drew.gM (hK _ (zH w)))
theorem zb6 (h:ScM w base g SF S) {K:Int->Int->Ub} (hK:∀w',Uc w w'->K S.g.rows S.g.cols w'):QI (some ⟨g,0,none⟩) w K:=by
 refine qif _ ?_;exact qrh h (hK _ ((Below.refl _ w).drew.drew))
def jI (T:TS):qu:=⟨⟨T.S.alt,T.S.g.top,T.S.g.rows,T.S.g.cols,T.S.c.Row,T.S.c.Col⟩,T.c.CellW,T.c.CellH⟩
theorem qh4 (h:TermM w base F T) {K:qu->Ub} (hK:∀w',Uc w w'->K (jI T) w'):jP (some ⟨F.tg,0,none⟩) w K:=by
 refine qpq _ ?_;simp only [onPtr_some];refine nwb λA q d s=>?_;have l:=h.ext d;refine qS (x:=some ⟨F.sg,0,none⟩) (l.blk.cells 6 _ rfl) (zb6 l.sc λB e=>?_);have m:=bT d e;have n:=h.ext m;refine qS (x:=some ⟨F.sg,0,none⟩) (n.blk.cells 6 _ rfl) (qxc n.sc λC f=>?_);have t:=bT m f;refine jS (vs:=qQ.rep.cells T.S.c) rfl λw4 u g v=>?_;have o:=bT t g;have m4:=(h.ext o).drew;have a:=u.drew;refine qS (x:=some ⟨F.sg,0,none⟩) (m4.blk.cells 6 _ rfl) (qS (x:=some ⟨F.sg,0,none⟩) (m4.blk.cells 6 _ rfl) ?_);refine lI (x:=T.S.c.Row) (a.cells 0 _ rfl) (lI (x:=T.S.c.Col) (a.cells 1 _ rfl) ?_);refine lI (x:=T.c.CellW) (by rw [jU];exact m4.blk.cells 2 _ rfl) (lI (x:=T.c.CellH) (by rw [jU];exact m4.blk.cells 3 _ rfl) ?_);refine q8v m4.sc ⟨by rw [jU];exact m4.blk.cells 3 _ rfl,by rw [jU];exact m4.blk.cells 2 _ rfl,a.cells 1 _ rfl,a.cells 0 _ rfl,m4.blk.cells 6 _ rfl,ze8 m4.sc λD b=>?_⟩;have p:=m4.ext b;have i:=a.ext b;refine ⟨by rw [jU];exact p.blk.cells 3 _ rfl,by rw [jU];exact p.blk.cells 2 _ rfl,i.cells 1 _ rfl,i.cells 0 _ rfl,?_⟩;have j:=(((((q.ext e).ext f).ext g).drew).ext b);have y:=bT (bT o (bdw w4)) b;exact zN (r:=qu.rep) (x:=jI T) j rfl rfl λw8 k z=>hK w8 (b1o y k (le_refl _))
theorem q4r (h:ScM w base g SF S) {K:Slc->Ub} (hK:∀q w',q.n=S.areas.length->ScT base g w SF { SF with ar:=⟨none,0,0⟩ } { S with areas:=[] } w'->K q w'):yM (some ⟨g,0,none⟩) w K:=by
 refine qd6 _ ?_;simp only [onPtr_some];refine lSl (x:=SF.ar) (h.blk.cells 41 _ rfl) ?_;show stK ⟨g,41,none⟩ _ _ _;have c:(qE.rep.cells (scX SF S)).length=42:=rfl;refine qD h.blk (by rw [c];show (41+1:Nat)<=42;omega) λm d f p=>?_;have b:Chg (λi=>i=g) w m:=Chg.of_grown f λk a=>by cases a;rfl
 have o:∀k j,k=g->¬Blk w k zi j:=λk j a l=>h.notC k j (.inl a) l;refine hK SF.ar m h.ar.rd.n ⟨⟨d,h.hg,h.g0.chg b (λk a=>h.of_g k (.inl a)) o,h.g1.chg b (λk a=>h.of_g k (.inr (.inl a))) o,h.st.keep b (h.of_g _ (.inr (.inr (.inl rfl)))) (h.of_g _ (.inr (.inr (.inr (.inl rfl))))),h.hst,h.mo.chg b (h.of_g _ (.inr (.inr (.inr (.inr (.inl rfl)))))),h.pr.chg b (h.of_g _ (.inr (.inr (.inr (.inr (.inr (.inl rfl))))))),h.hm,h.dm,Go.Vc.Own.nil _ _ _,h.dg,h.ok.areas _⟩,?_,b.mono λk _ e=>.inl e⟩;rintro k (a | a | a | a | a | a | a | a)
 ·exact .inl (.inl a)
 ·exact .inl (.inr (.inl a))
 ·exact .inl (.inr (.inr (.inl a)))
 ·exact .inl (.inr (.inr (.inr (.inl a))))
 ·exact .inl (.inr (.inr (.inr (.inr (.inl a)))))
 ·exact .inl (.inr (.inr (.inr (.inr (.inr (.inl a))))))
 ·exact .inl (.inr (.inr (.inr (.inr (.inr (.inr (.inl a)))))))
 ·cases a
theorem qtc {f:Value} {LS:List (List qZ)} (hn:LS.length<=2000)
  (hf:∀(i:Nat) w2 (K:Slc->Bool->Ub),Uc w w2->(∀xs,LS[i]?=some xs->∀q w3,Go.Vc.Own zD w3 w2.heap.size q xs->Uc w2 w3->K q true w3)->(LS.length<=i->∀q w3,Uc w2 w3->K q false w3)->j7 C f [.int .i64 i] [Kind.slice,Kind.bool] w2 K)
  {K:Slc->Ub} (hK:∀q ls w',Go.Vc.Own slE w' w.heap.size q ls->Lines w' w.heap.size ls LS->Uc w w'->K q w'):qbs f w K:=by
 refine qxt _ ?_;refine lpR (λ(st:Slc×Int×Unit) w1=>∃(k:Nat) (ls:List Slc),st.2.1=k/\k<=LS.length/\Go.Vc.Own slE w1 w.heap.size st.1 ls/\Lines w1 w.heap.size ls (LS.take k)/\Uc w w1) (λst=>LS.length-st.2.1.toNat) ⟨0,[],rfl,zero_le _,Go.Vc.Own.nil _ _ _,Lines.nil _ _,Below.refl _ _⟩ ?_;rintro ⟨q,i,u⟩ w1 ⟨k,ls,hi,hk,ho,hl,hB⟩ I hI;dsimp only at hi ho ⊢;subst hi;refine hf k w1 _ hB (λxs hx t w2 ht hB2=>?_) λhge t w2 hB2=>?_
 ·refine cF rfl ?_;have hkl:k<LS.length:=(List.getElem?_eq_some_iff.1 hx).1;have hll:ls.length=k:=by rw [hl.1,length_take];omega
  have B2:=bT hB hB2;have ho2:=ho.ext hB2;have hl2:=hl.ext hB2;refine qgq (E:=slE) qom (y:=t) ho2 rfl B2.size (by rw [hll,show qom.i.bytes=24 by kernel_rfl];omega) (by rw [hll];simp [maxLen];omega) λr w3 hr hc3 hrb=>?_;have hne:∀k',q.blk=some k'->¬∃cs,Blk w2 k' zi cs:=λk' hk' ⟨cs,hcs⟩=>qI ho2 hcs (by decide) k' hk' rfl;have B3:Uc w w3:=B2.trans (hc3.below B2.size λj hj e=>by have:=(ho2.lt j e).1;omega);refine hI _ _ ⟨k+1,ls++[t],by show IntKind.i64.wrap ((k:Int)+1)=_;rw [qM (by omega)];simp,hkl,hr,⟨by rw [length_append,hll,length_take,List.length_singleton];omega,λj s ys hj hy=>?_⟩,B3⟩ (by show LS.length-(IntKind.i64.wrap ((k:Int)+1)).toNat<LS.length-((k:Nat):Int).toNat;rw [qM (by omega)];omega);by_cases hjk:j<k
  ·rw [List.getElem?_append_left (by omega)] at hj;rw [List.getElem?_take_of_lt (by omega)] at hy;have h4:=hl2.2 j s ys hj (by rw [List.getElem?_take_of_lt hjk];exact hy);exact h4.chg hc3 λk' hk' e=>by
    obtain ⟨cs,hcs⟩:=h4.blk_t hk';exact hne k' e ⟨cs,hcs⟩
  ·have hj2:j<(ls++[t]).length:=(List.getElem?_eq_some_iff.1 hj).1;rw [length_append,List.length_singleton,hll] at hj2;have hje:j=k:=by omega
   subst hje;rw [List.getElem?_append_right (by omega),hll,Nat.sub_self] at hj;obtain rfl:t=s:=by simpa using hj
   rw [List.getElem?_take_of_lt (by omega),hx] at hy;obtain rfl:=Option.some.inj hy;exact (ht.base (by have:=hB.size;omega)).chg hc3 λk' hk' e=>by
    obtain ⟨cs,hcs⟩:=ht.blk_t hk';exact hne k' e ⟨cs,hcs⟩
 ·have hke:k=LS.length:=by omega
  refine cT rfl (hK q ls w2 (ho.ext hB2) ?_ (bT hB hB2));have:=hl.ext hB2;rw [hke,List.take_length] at this;exact this
end
end Go.Proofs.YtjhgepnpnapnoaaGreatDoor
