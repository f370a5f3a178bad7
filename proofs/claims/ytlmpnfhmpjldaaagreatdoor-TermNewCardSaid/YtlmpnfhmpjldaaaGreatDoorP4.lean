import Derived.Test.YtlmpnfhmpjldaaaGreatDoorP3
import Derived.Test.YtlmpnfhmpjldaaaGreatDoorP2
import Derived.Shelf.SlIterI.Nil
import Derived.Shelf.SortM.Plain
import Derived.Shelf.SortM.SortNone
import Derived.Test.YtlmpnfhmpjldaaaGreatDoorP1
import Derived.RangeFuncBox
import Derived.RangeFuncLeaves
import Derived.RangeFuncFrom
import Derived.RangeFuncWrites
import Derived.Shelf.Abstract
import Derived.WalkKit
import Derived.OwnWalkIn
import Derived.TacticsInMore
import Derived.LoopNIn
import Derived.LoopIn
import Derived.BigFrameIn
import Derived.BigRegionIn
import Derived.BigGuardIn
import Derived.BigGuardPartIn
import Derived.Scope
import Derived.Laws.Runes
set_option linter.unusedVariables false
namespace Go.Proofs.YtlmpnfhmpjldaaaGreatDoor
open Go.Vc Go.RowKit
set_option maxRecDepth 400000
open IntKind (i64)
open _root_.Nat (le_refl mod_lt)
def q7i (fs:Nat->List UInt8->List UInt8) (P:List UInt8):Nat->List UInt8
 | 0=>P
 | k+1=>fs k (q7i fs P k)
def znh (fi:Bool->List UInt8->List UInt8) (L:List (List Cel)) (C0 R cw ch:Nat) (on:Bool) (row col:Int):Nat->List UInt8->List UInt8
 | 0=>λP=>qaj (QB (C0*cw) (R*ch) cw ch) L C0 P R
 | 1=>fi false
 | 2=>λP=>qaj (qzm (C0*cw) (R*ch) cw ch C0) L C0 P R
 | 3=>fi true
 | _=>λP=>qc8 P (C0*cw) R C0 cw ch on row col
def ze2 (fi:Bool->List UInt8->List UInt8) (L:List (List Cel)) (C0 R cw ch:Nat) (on:Bool) (row col:Int):List UInt8 :=
 q7i (znh fi L C0 R cw ch on row col) (List.replicate (4*(C0*cw)*(R*ch)) 0) 5
def zks (L:List (List Cel)) (C0 R:Nat) (on:Bool) (row col:Int) (c:List UInt8):List UInt8:=ze2 (λab P=>if ab then qfo P 8 c else P) L C0 R 1 1 on row col
section
variable {w w':World} {B base:Nat} {s:qx} {R C0 cw ch W H:Nat} {L:List (List Cel)} {m:qa} {P:List UInt8}
structure LayF (w0:World) (base:Nat) (m:qa) (W H:Nat) (v:Value) (f:List UInt8->List UInt8):Prop where
 nm:∀{w2:World} {K:ByteArray->Ub},(∀s,K s w2)->va v w2 K
 pt : ∀ {w2 : World} {P2 : List UInt8} {K : qa -> Ub}, Chg (λk=> m.P.blk = some k) w0 w2 -> MatM w2 base m W H P2 -> (∀ w3, Chg (λk=> m.P.blk = some k) w2 w3 -> MatM w3 base m W H (f P2) -> K m w3) -> qxe C v "Paint" [mA m] [(Kind.struct qa.rep)] w2 K
theorem zei {fs:Nat->List UInt8->List UInt8} {b n:Nat} {ls:List Value} {t:TypeId} (hb:Blk w b t ls) (hn:ls.length=n) (hn2:n<=1000) (hM:MatM w base m W H P) (hbn:m.P.blk≠some b) (hl:∀(i:Nat) v,ls[i]?=some v->LayF w base m W H v (fs i)) {K:qa->Ub}
  (hK:∀w',MatM w' base m W H (q7i fs P n)->Chg (λk=>m.P.blk=some k) w w'->K m w'):VQ m ⟨some ⟨b,0,none⟩,n,n⟩ w K:=by
 refine qpl _ _ ?_;refine nwb λw1 h1 hB1 hs1=>nwb λw2 h2 hB2 hs2=>?_;have B2:=bT hB1 hB2;obtain ⟨gm,ha,hbm⟩:=hM.some_;have gl:=hM.own.lt gm hbm;have bl:=hb.lt;refine lpR (λ(st:Int×Unit) w3=>∃(i:Nat),st.1=i/\i<=n/\MatM w3 base m W H (q7i fs P i)/\Blk w3 w.heap.size qz (qa.rep.cells m)/\(∃zs,Blk w3 w1.heap.size qz zs/\zs.length=3)/\Blk w3 b t ls/\Chg (λk=>m.P.blk=some k) w w3) (λst=>n-st.1.toNat) ⟨0,rfl,Nat.zero_le _,hM.ext B2,h1.ext hB2,⟨_,h2,rfl⟩,hb.ext B2,Chg.of_ext B2⟩ ?_;rintro ⟨i,u⟩ w3 ⟨k,hi,hk,hM3,hm3,⟨zs,hz3,hzl⟩,hb3,hc3⟩ I hI;dsimp only at hi ⊢;subst hi;refine cO (λe=>?_) λe=>?_
 ·have e:=oTq e;have hkn:k<n:=by omega
  obtain ⟨v,hv⟩:∃v,ls[k]?=some v:=⟨ls[k],List.getElem?_eq_getElem (by omega)⟩;have hlv:=hl k v hv;refine q32 (s:=⟨some ⟨b,0,none⟩,n,n⟩) rfl (by omega) (by show (k:Int)<(n:Int);omega) ?_;refine qmm (x:=v) (by show w3.cell? ((⟨b,0,none⟩:Addr).add (((k:Nat):Int).toNat*1))=some v;rw [Int.toNat_natCast,Nat.mul_one];exact hb3.cells k v hv) ?_;refine jpO λJ2 hJ2=>?_;have key:J2 (true,()) w3:=by
   refine hJ2 _ _ (cT rfl ?_);refine qy (r:=qa.rep) (x:=m) hm3.cells ?_;refine hlv.pt hc3 hM3 λw4 hc4 hM4=>?_;have hm4:Blk w4 w.heap.size qz (qa.rep.cells m):=hm3.chg hc4 (by rw [hbm];intro e;cases e;omega);have hz4:Blk w4 w1.heap.size qz zs:=hz3.chg hc4 (by rw [hbm];intro e;cases e;omega);have hb4:Blk w4 b t ls:=hb3.chg hc4 (λe=>hbn e);refine jH hm4 rfl λw5 hm5 hc5 hs5=>?_;have hM5:MatM w5 base m W H (fs k (q7i fs P k)):=⟨hM4.hw,hM4.hh,hM4.own.chg hc5 (λk hk e=>by rw [hbm] at hk;cases hk;omega),hM4.len,hM4.lim⟩;refine hI _ _ ⟨k+1,by show i64.wrap ((k:Int)+1)=_;rw [qQ (by have:=hb.lt;omega)];simp,by omega,hM5,hm5,⟨zs,hz4.chg hc5 (by omega),hzl⟩,hb4.chg hc5 (by omega),?_⟩ (by show n-(i64.wrap ((k:Int)+1)).toNat<n-((k:Nat):Int).toNat;rw [qQ (by omega)];omega);exact (hc3.trans hc4 λ_ _ h=>h).trans hc5 λi hi e=>by omega
  refine hlv.nm λsn=>?_;refine cO (λ_=>key) λ_=>lSl (x:=m.P) (hm3.cells 2 _ rfl) ?_;have hp:0<m.P.n:=by
   rw [hM3.own.rd.n,hM3.len];have:=hM3.lim;exact Nat.mul_pos (Nat.mul_pos (by decide) (by omega)) (by omega)
  rw [dTq (by omega)];exact key
 ·refine qy (r:=qa.rep) (x:=m) hm3.cells ?_;refine zn (r:=qa.rep) (x:=m) hz3 rfl (by rw [hzl];rfl) λw5 hc5 hs5=>?_;have hkn:k=n:=by have:=oFq e;omega
  subst hkn;refine hK w5 ⟨hM3.hw,hM3.hh,hM3.own.chg hc5 (λk hk e=>by rw [hbm] at hk;cases hk;omega),hM3.len,hM3.lim⟩ (hc3.trans hc5 λi hi e=>by omega)
def zkt (w:World) (s:qx) (W H:Nat) (fi:Bool->List UInt8->List UInt8):Prop :=
 ∀(ab:Bool) {w2:World} {m:qa} {P2:List UInt8} {base:Nat} {K:qa->Ub},(∀k,m.P.blk=some k->w.heap.size<=k)->Uc w w2->MatM w2 base m W H P2->(∀w3,Chg (λk=>m.P.blk=some k) w2 w3->MatM w3 base m W H (fi ab P2)->K m w3)->x7 ⟨s,ab⟩ m w2 K
theorem zlx {fi:Bool->List UInt8->List UInt8} (h:ScnM w B s R C0 cw ch L) (hbr:ze7 L) (hch:q7s L) (himg:zkt w s (C0*cw) (R*ch) fi) (br:-1000000<=s.Row/\s.Row<=1000000) (bc:-1000000<=s.Col/\s.Col<=1000000) (hBw:B<=w.heap.size) (hW2:C0*cw<=16384) (hH2:R*ch<=16384) (hA:C0*cw*(R*ch)<=67108864)
  {K:qa->Int->Ub} (hK:∀m w',MatM w' w.heap.size m (C0*cw) (R*ch) (ze2 fi L C0 R cw ch s.Cursor s.Row s.Col)->Uc w w'->K m 0 w'):qib s w K:=by
 refine qv0 _ ?_;have lim:=h.lim;refine nwb λw1 h1 hB1 hs1=>nwb λw2x h2 hB2 hs2=>?_;have B2:=bT hB1 hB2;have h12:=h1.ext hB2;refine jpO λJ1 hJ1=>jpO λJ2 hJ2=>?_;refine lI (x:=(R:Int)) (by rw [<-h.rows];exact h12.cells 0 _ rfl) (x8 (cF (by rw [dTq (by omega)];rfl) ?_));refine lI (x:=(C0:Int)) (by rw [<-h.cols];exact h12.cells 1 _ rfl) (x8 (cF (by rw [dTq (by omega)];rfl) ?_));refine lI (x:=(cw:Int)) (by rw [<-h.ecw];exact h12.cells 2 _ rfl) (x8 (cF (by rw [dTq (by omega)];rfl) ?_));refine lI (x:=(ch:Int)) (by rw [<-h.ech];exact h12.cells 3 _ rfl) (x8 ?_);rw [dTq (by omega)];refine hJ2 _ _ (cF rfl (hJ1 _ _ ?_));refine lI (x:=(C0:Int)) (by rw [<-h.cols];exact h12.cells 1 _ rfl) (lI (x:=(cw:Int)) (by rw [<-h.ecw];exact h12.cells 2 _ rfl) ?_);refine lI (x:=(R:Int)) (by rw [<-h.rows];exact h12.cells 0 _ rfl) (lI (x:=(ch:Int)) (by rw [<-h.ech];exact h12.cells 3 _ rfl) ?_);rw [(q09 (a:=C0) (b:=cw) (by omega) (by omega)).1,(q09 (a:=R) (b:=ch) (by omega) (by omega)).1];have w1':1<=C0*cw:=Nat.mul_pos (by omega) (by omega);have hh1:1<=R*ch:=Nat.mul_pos (by omega) (by omega);refine q1x w1' hW2 hh1 hH2 hA λt gm w4 ht hta hgm hB4=>?_;have B4:=bT B2 hB4;refine nwb λw5 h5 hB5 hs5=>jH h5 rfl λw6 h6 hc6 hs6=>?_;have l12:=B2.size;have l4:=hB4.size;have B6:Uc w w6:=b1o (bT B4 hB5) hc6 (by omega);have B26:Uc w2x w6:=b1o (bT hB4 hB5) hc6 (by omega);refine cF rfl (qy (r:=qa.rep) (x:=⟨_,_,t⟩) h6.cells ?_);have h16:Blk w6 w.heap.size zf (qx.rep.cells s):=h12.ext B26;have h26:=h2.ext B26;refine qy (r:=qx.rep) (x:=s) h16.cells (qy (r:=qx.rep) (x:=s) h16.cells (qy (r:=qx.rep) (x:=s) h16.cells (qy (r:=qx.rep) (x:=s) h16.cells (qy (r:=qx.rep) (x:=s) h16.cells ?_))));refine nwb λw7 h7 hB7 hs7=>?_;have ht6:Go.Vc.Own qu w7 w2x.heap.size t (List.replicate (4*(C0*cw)*(R*ch)) 0):=((ht.ext hB5).chg hc6 λk hk e=>by have h8:=(ht.lt k hk).2;omega).ext hB7;have h4a:4*(C0*cw)*(R*ch)<=268435456:=by rw [Nat.mul_assoc];omega
 have hM:MatM w7 w2x.heap.size ⟨((C0*cw:Nat):Int),((R*ch:Nat):Int),t⟩ (C0*cw) (R*ch) (List.replicate (4*(C0*cw)*(R*ch)) 0):=⟨rfl,rfl,ht6,by rw [List.length_replicate],⟨w1',hW2,hh1,hH2,h4a⟩⟩;have B7:=bT B6 hB7;have hs7:=h.ext B7;have htb:t.blk=some gm:=by unfold Slc.blk;rw [hta];rfl
 have gl7:=(ht6.lt gm htb).2;have gl4:=(ht.lt gm htb).2;have gt:∀k,t.blk=some k->w.heap.size<=k:=λk hk=>by have:=(ht6.lt k hk).1;omega
 have bl:∀{wx},Chg (λk=>t.blk=some k) w7 wx->Uc w wx:=λhc=>B7.trans (hc.below B7.size λi hi e=>by have:=gt i e;omega);have kp:∀{wx},Chg (λk=>t.blk=some k) w7 wx->ScnM wx B s R C0 cw ch L:=λhc=>hs7.keep hc λk hk=>by rw [htb] at hk;cases hk;omega
 refine zei (fs:=znh fi L C0 R cw ch s.Cursor s.Row s.Col) (n:=5) (m:=⟨((C0*cw:Nat):Int),((R*ch:Nat):Int),t⟩) h7 rfl (by decide) hM (by show t.blk≠_;rw [htb];intro e;cases e;omega) (λi v hv=>?_) λw8 hM8 hc8=>?_
 ·match i,hv with
  | 0,hv =>
   obtain rfl:=Option.some.inj hv;exact ⟨λhK=>zjl hK,λhc hM hK=>zj5 (q4l (kp hc) hbr hM (by omega) λw3 hM3 hc3=>hK w3 hc3 hM3)⟩
  | 1,hv =>
   obtain rfl:=Option.some.inj hv;exact ⟨λhK=>zc6 (s:=s) (b:=false) hK,λhc hM hK=>zdf (himg false gt (bl hc) hM hK)⟩
  | 2,hv =>
   obtain rfl:=Option.some.inj hv;exact ⟨λhK=>zjk hK,λhc hM hK=>zkj (q5u (kp hc) hbr hch hM (by omega) λw3 hM3 hc3=>hK w3 hc3 hM3)⟩
  | 3,hv =>
   obtain rfl:=Option.some.inj hv;exact ⟨λhK=>zc6 (s:=s) (b:=true) hK,λhc hM hK=>zdf (himg true gt (bl hc) hM hK)⟩
  | 4,hv =>
   obtain rfl:=Option.some.inj hv;exact ⟨λhK=>zku hK,λhc hM hK=>zj9 (q1j (kp hc) rfl rfl br bc hM λw3 hM3 hc3=>hK w3 hc3 hM3)⟩
  | i+5,hv=>simp at hv
 have h28:Blk w8 w1.heap.size qz [(Ua 0),(Ua 0),(.slice none 0 0)]:=(h26.ext hB7).chg hc8 (by show t.blk≠_;rw [htb];intro e;cases e;omega);refine zn (r:=qa.rep) (x:=⟨((C0*cw:Nat):Int),((R*ch:Nat):Int),t⟩) h28 rfl rfl λw9 hc9 hs9=>hK _ w9 ?_ ?_
 ·exact ⟨hM8.hw,hM8.hh,(hM8.own.chg hc9 (qF hM8.own h28 (by decide))).base B2.size,hM8.len,hM8.lim⟩
 ·exact b1o (bl hc8) hc9 hB1.size
theorem zhv (hp:s.Places.n=0):zkt w s W H λ_ P=>P:=λab w2 m P2 base K hb hB hM hK=>q1r hp ab hM λw3 hM3 hB3=>hK w3 (Chg.of_ext hB3) hM3
theorem zkw {q:Slc} {c:List UInt8} {r:Nat} (h1:s.CellW=1) (h2:s.CellH=1) (h3:s.Top=0) (hp:Rd qS w s.Places [p7]) (hpn:∀a,s.Places.a=some a->a.block<w.heap.size) (hi:s.Images=some r) (hm:zP qy7 w r [(7,⟨1,1,q⟩)])
  (hq:Rd qu w q c) (hqn:∀a,q.a=some a->a.block<w.heap.size) (hc:c.length=4) (h3c:c.getD 3 0=255) (hW:2<W/\W<=1000) (hH:H<=1000):zkt w s W H λab P=>if ab then qfo P 8 c else P:=λab w2 m P2 base K hb hB hM hK=>
 zas h1 h2 h3 (hp.ext hB) (λa ha e=>by have:=hpn a ha;have:=hb _ e;omega) hi (hm.ext hB) (λe=>by have:=hm.lt;have:=hb _ e;omega) (hq.ext hB) (λa ha e=>by have:=hqn a ha;have:=hb _ e;omega) hc h3c hM hW hH λw3 hM3 hc3=>hK w3 hc3 hM3
end
def q0s (j:Nat):UInt8:=if j%4=3 then 255 else 0
def qki (n:Nat) (P:List UInt8):Prop:=∀j,j<n->P[j]?=some (q0s j)
theorem qki.eq {n:Nat} {P Q:List UInt8} (hP:qki n P) (hQ:qki n Q) (lp:P.length=n) (lq:Q.length=n):P=Q :=
 List.ext_getElem? λj=>by
  by_cases h:j<n
  ·rw [hP j h,hQ j h]
  ·rw [List.getElem?_eq_none (by omega),List.getElem?_eq_none (by omega)]
theorem qki.set {n:Nat} {P:List UInt8} (h:qki n P) (hn:n<P.length) {b:UInt8} (hb:b=q0s n):qki (n+1) (P.set n b):=λj hj=>by
 by_cases e:j=n
 ·subst e;rw [List.getElem?_set_self hn,hb]
 ·rw [List.getElem?_set_ne (by omega)];exact h j (by omega)
def PxB (P:List UInt8) (i:Nat):Prop:=∀k,k<4->P[4*i+k]?=some (q0s k)
theorem PxB.all {n:Nat} {P:List UInt8} (h:∀i,i<n->PxB P i):qki (4*n) P:=λj hj=>by
 have:=h (j/4) (by omega) (j%4) (by omega);rw [show 4*(j/4)+j%4=j by omega] at this;rw [this];unfold q0s;rw [Nat.mod_mod]
theorem zkc {P:List UInt8} {a i:Nat} (hl:4*a+4<=P.length) (h:PxB P i\/i=a):PxB (qfo P (4*a) q41) i:=λk hk=>by
 unfold qfo;have ht:(P.take (4*a)).length=4*a:=by rw [List.length_take];omega
 have hb:(q41:List UInt8).length=4:=rfl;by_cases h1:4*i+k<4*a
 ·rw [List.append_assoc,List.getElem?_append_left (by omega),List.getElem?_take_of_lt h1];exact (h.resolve_right (by omega)) k hk
 by_cases h2:4*i+k<4*a+4
 ·obtain rfl:i=a:=by omega
  rw [List.getElem?_append_left (by rw [List.length_append];omega),List.getElem?_append_right (by omega),ht,Nat.add_sub_cancel_left];obtain rfl | rfl | rfl | rfl:k=0\/k=1\/k=2\/k=3:=by omega
  all_goals rfl
 ·rw [List.getElem?_append_right (by rw [List.length_append];omega),List.length_append,ht,hb,List.getElem?_drop,show 4*a+4+(4*i+k-(4*a+4))=4*i+k by omega];exact (h.resolve_right (by omega)) k hk
section
variable {W H C0 R cw ch i:Nat} {P:List UInt8} {L:List (List Cel)}
theorem q5v {py x0:Nat} (hP:P.length=4*W*H) (hy:py<H):∀n,x0+n<=W->(PxB P i\/∃j,j<n/\i=py*W+(x0+j))->PxB (qol P W py q41 x0 n) i
 | 0,_,h=>h.resolve_right λ⟨j,hj,_⟩=>by omega
 | n+1,hx,h=>by
  refine zkc (by rw [YB hP rfl hy n (by omega)];have:=qpe (W:=W) (H:=H) (x:=x0+n) (y:=py) (by omega) hy;omega) ?_;by_cases e:i=py*W+(x0+n)
  ·exact .inr e
  refine .inl (q5v hP hy n (by omega) (h.imp_right λ⟨j,hj,he⟩=>⟨j,?_,he⟩));by_cases hjn:j=n
  ·subst hjn;exact absurd he e
  ·omega
theorem q65 {x0 nx y0:Nat} (hP:P.length=4*W*H) (hx:x0+nx<=W):∀n,y0+n<=H->(PxB P i\/∃y x,y<n/\x<nx/\i=(y0+y)*W+(x0+x))->PxB (qcm P W q41 x0 nx y0 n) i
 | 0,_,h=>h.resolve_right λ⟨y,_,hy,_⟩=>by omega
 | n+1,hy,h=>by
  refine q5v (Xi hP rfl (.inl hx) n (.inl (by omega))) (by omega) nx hx ?_;by_cases e:∃x,x<nx/\i=(y0+n)*W+(x0+x)
  ·exact .inr e
  refine .inl (q65 hP hx n (by omega) (h.imp_right λ⟨y,x,h1,h2,h3⟩=>⟨y,x,?_,h2,h3⟩));by_cases hyn:y=n
  ·subst hyn;exact absurd ⟨x,h2,h3⟩ e
  ·omega
theorem zgb {row col:Nat} {c:Cel} (hc:col*cw+cw<=W) (hr:row*ch+ch<=H):QB W H cw ch P row col c=qcm P W q41 (col*cw) cw (row*ch) ch:=by
 have lo:∀a:Nat,lo0 (a:Int)=a:=λa=>by unfold lo0;split<;>omega
 have hi:∀a b W:Nat,a+b<=W->hiN (a:Int) (b:Int) W-lo0 (a:Int)=b:=λa b W h=>by rw [lo];unfold hiN;split<;>omega
 unfold QB qux;rw [hi _ _ _ hc,hi _ _ _ hr,lo,lo]
theorem q77 {row:Nat} (hr:row*ch+ch<=H) (hP:P.length=4*W*H):∀n,n*cw<=W->(q3i (QB W H cw ch) L row P n).length=4*W*H/\((PxB P i\/∃col y x,col<n/\y<ch/\x<cw/\i=(row*ch+y)*W+(col*cw+x))->PxB (q3i (QB W H cw ch) L row P n) i)
 | 0,_=>⟨hP,λh=>h.resolve_right λ⟨c,_,_,hc,_⟩=>by omega⟩
 | n+1,hn=>by
  rw [Nat.succ_mul] at hn;obtain ⟨h1,h2⟩:=q77 hr hP n (by omega);refine ⟨q3y h1 rfl,λh=>?_⟩;show PxB (QB W H cw ch _ row n _) i;rw [zgb hn hr];refine q65 h1 hn ch hr ?_;by_cases e:∃y x,y<ch/\x<cw/\i=(row*ch+y)*W+(n*cw+x)
  ·exact .inr e
  refine .inl (h2 (h.imp_right λ⟨c,y,x,hc,hy,hx,he⟩=>⟨c,y,x,?_,hy,hx,he⟩));by_cases hcn:c=n
  ·subst hcn;exact absurd ⟨y,x,hy,hx,he⟩ e
  ·omega
theorem qyr (hC:C0*cw<=W) (hP:P.length=4*W*H):∀n,n*ch<=H->(qaj (QB W H cw ch) L C0 P n).length=4*W*H/\((∃row col y x,row<n/\col<C0/\y<ch/\x<cw/\i=(row*ch+y)*W+(col*cw+x))->PxB (qaj (QB W H cw ch) L C0 P n) i)
 | 0,_=>⟨hP,λ⟨r,_,_,_,hr,_⟩=>by omega⟩
 | n+1,hn=>by
  rw [Nat.succ_mul] at hn;obtain ⟨h1,h2⟩:=qyr hC hP n (by omega);obtain ⟨h3,h4⟩:=q77 (i:=i) (cw:=cw) (L:=L) (row:=n) hn h1 C0 hC;refine ⟨h3,λ⟨r,c,y,x,hr,hc,hy,hx,he⟩=>h4 ?_⟩;by_cases e:r=n
  ·subst e;exact .inr ⟨c,y,x,hc,hy,hx,he⟩
  ·exact .inl (h2 ⟨r,c,y,x,by omega,hc,hy,hx,he⟩)
theorem q6i (hw:0<cw) (hh:0<ch) (hP:P.length=4*(C0*cw)*(R*ch)):(qaj (QB (C0*cw) (R*ch) cw ch) L C0 P R).length=4*(C0*cw*(R*ch))/\qki (4*(C0*cw*(R*ch))) (qaj (QB (C0*cw) (R*ch) cw ch) L C0 P R):=by
 refine ⟨((qyr (i:=0) (le_refl _) hP R (le_refl _)).1).trans (Nat.mul_assoc _ _ _),PxB.all λi hi=>(qyr (le_refl _) hP R (le_refl _)).2 ?_⟩;have hW:0<C0*cw:=Nat.pos_of_ne_zero λe=>by rw [e,Nat.zero_mul] at hi;omega
 have hy:i/(C0*cw)<R*ch:=Nat.div_lt_of_lt_mul hi;have hx:i%(C0*cw)<C0*cw:=mod_lt _ hW;refine ⟨i/(C0*cw)/ch,i%(C0*cw)/cw,i/(C0*cw)%ch,i%(C0*cw)%cw,Nat.div_lt_of_lt_mul (Nat.lt_of_lt_of_eq hy (Nat.mul_comm _ _)),Nat.div_lt_of_lt_mul (Nat.lt_of_lt_of_eq hx (Nat.mul_comm _ _)),mod_lt _ hh,mod_lt _ hw,?_⟩;rw [Nat.div_add_mod',Nat.div_add_mod',Nat.div_add_mod']
theorem qw3 (r c:Nat):xq (List.replicate R (List.replicate C0 vj)) r c=vj:=by
 unfold xq;rw [List.getD_eq_getElem?_getD,List.getD_eq_getElem?_getD,List.getElem?_replicate];split
 ·rw [Option.getD_some,List.getElem?_replicate];split<;>rfl
 ·rfl
theorem q7a {g:List UInt8->Nat->Nat->Cel->List UInt8} (hg:∀P r c,g P r c (xq L r c)=P):∀n,qaj g L C0 P n=P
 | 0=>rfl
 | n+1=>by
  have hC:∀P m,q3i g L n P m=P:=λP m=>by
   induction m with
   | zero=>rfl
   | succ m ih=>exact (hg _ _ _).trans ih
  exact (hC _ _).trans (q7a hg n)
theorem zgh (hw:0<cw) (hh:0<ch) (hR:0<R) (hC:0<C0):∃Q,qki (4*(C0*cw*(R*ch))) Q/\Q.length=4*(C0*cw*(R*ch))/\ze2 (λ_ P=>P) (List.replicate R (List.replicate C0 vj)) C0 R cw ch true 0 0=qm8 Q (C0*cw) 0 cw 0 ch:=by
 obtain ⟨h1,h2⟩:=q6i (L:=List.replicate R (List.replicate C0 vj)) (P:=List.replicate (4*(C0*cw)*(R*ch)) 0) (C0:=C0) (R:=R) hw hh List.length_replicate;refine ⟨_,h2,h1,?_⟩;show qc8 (qaj (qzm (C0*cw) (R*ch) cw ch C0) _ C0 (qaj (QB (C0*cw) (R*ch) cw ch) _ C0 _ R) R) (C0*cw) R C0 cw ch true 0 0=_;rw [q7a λP r c=>by rw [qw3];rfl];unfold qc8;rw [if_pos ⟨rfl,⟨Int.le_refl _,by omega⟩,Int.le_refl _,by omega⟩];show qm8 _ _ (0*cw) cw (0*ch) ch=_;rw [Nat.zero_mul,Nat.zero_mul];rfl
end
theorem q8g {n:Nat} (h:n<=1000) (a:vD):(y1 n a).length=n:=by
 rw [y1,if_neg (by omega)];simp
section
variable {w:World} {base:Nat} {f:Foot} {S:GS}
theorem qgr {n:Int} {a:vD} {K:Slc->Ub} (h:GridM w base f S) (hn:n<=100000)
  (hK:∀s ls w',Go.Vc.Own slE w' w.heap.size s ls->Lines w' w.heap.size ls (List.replicate n.toNat (y1 S.cols a))->Uc w w'->K s w'):kr (some ⟨f.g,0,none⟩) n a w K:=by
 refine qjn _ _ _ ?_;simp only [onPtr_some];refine nwb λw1 hb1 hB1 hs1=>?_;refine lpR (λ(s:Slc×Int×Unit) w2=>∃(k:Nat) (ls:List Slc),s.2.1=k/\(k:Int)<=max n 0/\Go.Vc.Own slE w2 w.heap.size s.1 ls/\Lines w2 w.heap.size ls (List.replicate k (y1 S.cols a))/\Blk w2 w.heap.size zH (qt.rep.cells a)/\Uc w w2/\(∀g,s.1.blk=some g->g≠w.heap.size))
  (λs=>(n-s.2.1).toNat) ⟨0,[],rfl,by omega,Go.Vc.Own.nil _ _ _,Lines.nil _ _,hb1,hB1,λg hg=>by cases hg⟩ ?_
 rintro ⟨s,i,_⟩ w2 ⟨k,ls,rfl,hk,ho,hl,hb,hB,hne⟩ I hI;dsimp only at *;refine cO (λhh=>?_) (λhh=>?_)
 ·have hh:=oTq hh;have hg2:=(h.ext hB).drew;refine lI (x:=(S.cols:Int)) (hg2.blk.cells 2 _ rfl) ?_;refine qy (x:=a) hb.drew.cells ?_;refine zaz λt w3 ho3 hB3=>?_;refine nwb λw4 hb4 hB4 hs4=>?_;have hB24:Uc w2 w4:=((Below.refl _ w2).drew.trans hB3).trans (hB4.mono hB3.size);have hB04:Uc w w4:=hB.trans (hB24.mono hB.size);have hr4:Rd slE w4 ⟨some ⟨w3.heap.size,0,none⟩,1,1⟩ [t]:=Ze (E:=slE) hb4 rfl;have hll:=hl.1;rw [List.length_replicate] at hll;have hbl:=hb.lt;have hs23:w2.heap.size<=w3.heap.size:=hB3.size;have ho4:=ho.ext hB24;refine jz qlx ho4 hr4 hB04.size (by rw [q87];simp;omega) (by simp [maxLen];omega) λq w5 ho5 hg5 hq5=>?_;rw [qQ (by omega)];have notC:∀k cs,s.blk=some k->¬Blk w4 k qR cs:=λk cs hk hc=>by
   obtain ⟨cs',hcs'⟩:=ho4.blk_t hk;exact hc.ne_t hcs' (by decide) rfl
  have hc5:Chg (λk=>s.blk=some k) w4 w5:=Chg.of_grown hg5 λk hk=>hk;have ht4:Go.Vc.Own zi w4 w.heap.size t (y1 S.cols a):=(ho3.base (by have:=hB.size;show w.heap.size<=w2.heap.size;omega)).ext hB4;refine hI _ _ ⟨k+1,ls++[t],by simp,by omega,ho5,?_,?_,hB04.grown hg5 hB04.size λg hg=>(ho.lt g hg).1,?_⟩ (by simp;omega)
  ·rw [List.replicate_succ'];refine Lines.append ((hl.ext hB24).chg hc5 notC) (Lines.one (ht4.chg hc5 λg hg hs=>?_));obtain ⟨cs,hcs⟩:=ht4.blk_t hg;exact notC g cs hs hcs
  ·exact (hb.ext hB24).grown hg5 λe=>hne _ e.symm rfl
  ·intro g hg;rcases hq5 with e | e
   ·rw [e] at hg;exact hne g hg
   ·rw [e] at hg;cases hg;have:=hB24.size;omega
 ·have hh:=oFq hh;have:n.toNat=k:=by omega
  rw [<-this] at hl;exact hK _ _ _ ho hl hB
theorem GridM.newRow {w1 w2:World} {s:Slc} {ls:List Slc} {L:List (List qU)} {top:Int} {B:Nat} (h:GridM w1 base f S) (hrow:Go.Vc.Own slE w1 base s ls) (hl:Lines w1 base ls L) (hne:∀k,s.blk=some k->k≠f.g/\k≠f.r/\f.rs.blk≠some k)
  (hb:Blk w2 f.g yh [.pointer (some ⟨f.r,0,none⟩),.int .i64 S.rows,.int .i64 S.cols,.slice s.a s.n s.c,.int .i64 top]) (hg:w1.grownBy w2 (some f.g)) (_:B<=w1.heap.size):GridM w2 base { f with ls:=s } { S with L:=L,top:=top }:=by
 have hc:Chg (λk=>k=f.g) w1 w2:=Chg.of_grown hg λk hk=>by cases hk;rfl
 have notC:∀k cs,k=f.g->¬Blk w1 k qR cs:=λk cs hk hcs=>h.notC k cs (.inl hk) hcs;obtain ⟨g1,g2,g3⟩:=h.g_ne;refine ⟨hb,h.hg,⟨ls,hrow.chg hc λg hg=>(hne g hg).1,hl.chg hc notC⟩,h.ring.chg hc (λk hk=>?_) notC,λk hk=>(hne k hk).2.2⟩;rcases hk with rfl | hk
 ·exact λe=>g1 e.symm
 ·exact (g3 k hk).1
theorem q7t {a:vD} {K:Ub} (h:GridM w base f S) (hrows:S.rows<=100000) (hbase:base<=w.heap.size)
  (hK:∀f' w',GridM w' base f' { S with L:=List.replicate S.rows (y1 S.cols a) }->f.to f' w.heap.size->Chg (x6 f) w w'->K w'):Xd (some ⟨f.g,0,none⟩) a w K:=by
 refine qkk _ _ ?_;simp only [onPtr_some];refine nwb λw1 hb1 hB1 hs1=>?_;have h1:=(h.ext hB1).drew;refine lI (x:=(S.rows:Int)) (h1.blk.cells 1 _ rfl) ?_;refine qy (x:=a) hb1.drew.cells ?_;refine qgr h1 (by omega) λs ls w2 ho hl hB2=>?_;have hB02:Uc w w2:=hB1.drew.trans (hB2.mono hB1.size);have h2:=h.ext hB02;have hfresh:∀k,s.blk=some k->w.heap.size<=k:=λk hk=>by have:=(ho.lt k hk).1;have:=hB1.size;have e:w1.drew.heap.size=w1.heap.size:=rfl;omega
 rw [qH];refine qB h2.blk (by simp) λw3 hb3 hg3 hs3=>?_;have hsz:w.heap.size<=w1.drew.heap.size:=hB1.size;have h3:=h2.newRow (B:=0) (top:=S.top) (ho.base (by omega)) (L:=List.replicate S.rows (y1 S.cols a)) ⟨hl.1,λi t xs e1 e2=>(hl.2 i t xs e1 e2).base (by omega)⟩ (λk hk=>?_) hb3 hg3 (Nat.zero_le _)
 ·refine hK _ w3 h3 ⟨rfl,rfl,.inr hfresh,.inl rfl⟩ ?_;exact (Chg.of_ext (S:=x6 f) hB02).trans (S':=λk=>k=f.g) (Chg.of_grown hg3 λk hk=>by cases hk;rfl) λi _ hi=>.inl hi
 ·have hk':=hfresh k hk;refine ⟨λe=>?_,λe=>?_,λe=>?_⟩
  ·have:=(h.below k (.inl e)).2;omega
  ·have:=(h.below k (.inr (.inl e))).2;omega
  ·have:=(h.below k (.inr (.inr (.inr e)))).2;omega
end
def gs0 (rows cols most:Nat):GS:=⟨rows,cols,most,List.replicate rows (y1 cols ⟨0,0,0⟩),[],0⟩
def vw (rows cols back:Int):Prop:=¬(1<=rows/\rows<=1000)\/¬(1<=cols/\cols<=1000)\/back<0\/back>16384
theorem q25 {rows cols back:Int} {w:World} {K:Option Addr->Int->Ub} (hK1:vw rows cols back->K none 1 w)
  (hK2:¬vw rows cols back->∀f w',GridM w' w.heap.size f (gs0 rows.toNat cols.toNat back.toNat)->Uc w w'->K (some ⟨f.g,0,none⟩) 0 w'):qhy rows cols back w K:=by
 refine q0g _ _ _ ?_;have size:∀{n:Int} {K:Bool->Ub},K (decide (1<=n/\n<=1000)) w->qcb n w K:=by
  intro n K hk;refine qxk _ ?_;refine cO (λh=>?_) (λh=>?_)
  ·have h:1<=n:=oTq h;have:decide (n<=1000)=decide (1<=n/\n<=1000):=by simp [h]
   rw [this];exact hk
  ·have h:=oFq h;have:decide (1<=n/\n<=1000)=false:=by simp;omega
   rw [this] at hk;exact hk
 refine jpO λJ hJ=>?_;refine size ?_;by_cases h1:1<=rows/\rows<=1000
 ·rw [dTq h1];refine cF rfl (size ?_);by_cases h2:1<=cols/\cols<=1000
  ·rw [dTq h2];refine cF rfl ?_;refine cO (λh3=>hK1 (.inr (.inr (.inl (oTq h3))))) (λh3=>?_);refine cO (λh4=>hK1 (.inr (.inr (.inr (oTq h4))))) (λh4=>?_);have h3:=oFq h3;have h4:=oFq h4;have hgood:¬vw rows cols back:=by unfold vw;omega
   refine hJ _ _ ?_;refine q31 (base:=w.heap.size) (by omega) (by omega) (le_refl _) λw1 hr1 hB1 hs1=>?_;refine nwb λw2 hb2 hB2 hs2=>?_;have hB02:Uc w w2:=hB1.trans (hB2.mono (by omega));have hg2:GridM w2 w.heap.size ⟨w1.heap.size,w.heap.size,⟨none,0,0⟩,⟨none,0,0⟩⟩ ⟨rows.toNat,cols.toNat,back.toNat,[],[],0⟩:=by
    refine ⟨?_,by show w.heap.size<=w1.heap.size;omega,⟨[],Go.Vc.Own.nil _ _ _,Lines.nil _ _⟩,hr1.ext hB2,λk hk=>by cases hk⟩;show Blk w2 w1.heap.size yh [_,.int .i64 ((rows.toNat:Nat):Int),.int .i64 ((cols.toNat:Nat):Int),_,_];rw [show ((rows.toNat:Nat):Int)=rows by omega,show ((cols.toNat:Nat):Int)=cols by omega];exact hb2
   refine q7t (f:=⟨w1.heap.size,w.heap.size,⟨none,0,0⟩,⟨none,0,0⟩⟩) hg2 (by show rows.toNat<=100000;omega) hB02.size λf' w3 hg3 hf hc=>?_;have hg':f'.g=w1.heap.size:=hf.g;have key:=hK2 hgood f' w3 hg3 (hB02.trans (hc.below hB02.size λi hi hs=>by have:=(hg2.below i hs).1;omega));rw [hg'] at key;exact key
  ·rw [dFq h2];exact cT rfl (hK1 (.inr (.inl h2)))
 ·rw [dFq h1];exact cT rfl (hK1 (.inl h1))
end Go.Proofs.YtlmpnfhmpjldaaaGreatDoor
namespace Go.Vc
open Go.RowKit

end Go.Vc
namespace Go.Proofs.YtlmpnfhmpjldaaaGreatDoor
open Go.Vc Go.RowKit
open IntKind (i64)
open _root_.List (drop_zero)
open _root_.Nat (le_refl zero_le)
def Q4 (rows:Nat) (top past n:Int):Prop:=n=0\/top<0\/past<=top\/past>rows
instance (rows:Nat) (top past n:Int):Decidable (Q4 rows top past n):=by unfold Q4;infer_instance
def KA (top past n:Int):Nat:=(min (if n<0 then -n else n) (past-top)).toNat
def qgn (cols:Nat) (L:List (List qU)) (top past n:Int) (a:vD):List (List qU) :=
 let m:=KA top past n
 let b:=List.replicate m (y1 cols a)
 if n>0 then L.take top.toNat++(L.take past.toNat).drop (top.toNat+m)++b++L.drop past.toNat
 else L.take top.toNat++b++(L.take (past.toNat-m)).drop top.toNat++L.drop past.toNat
def K9 (most:Nat) (old:List (List qU)) (xs:List (List qU)):List (List qU):=xs.foldl (qik most) old
def vN (S:GS) (top past n:Int) (a:vD):GS :=
 if Q4 S.rows top past n then S
 else if n>0/\top=0 then { S with L:=qgn S.cols S.L top past n a,old:=K9 S.most S.old (S.L.take (KA top past n)),top:=i64.wrap (S.top+KA top past n) }
 else { S with L:=qgn S.cols S.L top past n a }
def q30 (rows:Nat) (top past n:Int):Int:=if Q4 rows top past n\/n<0\/top≠0 then 0 else KA top past n
theorem q4j (most:Nat) (old:List (List qU)) (L:List (List qU)) (k:Nat) (x:List qU) (h:L[k]?=some x):K9 most old (L.take (k+1))=qik most (K9 most old (L.take k)) x:=by
 rw [K9,List.take_add_one,h,List.foldl_append];rfl
theorem qw4 {α:Type} (l:List α) (a m:Nat):((l.drop a).take m)=(l.take (a+m)).drop a:=by
 rw [List.drop_take];congr 1;omega
theorem zmp {w:World} {base m:Nat} {f:Foot} {S:GS} {p:Slc} {ls:List Slc} {xss:List (List qU)} {Fin:Int×Unit->Ub} (h:GridM w base f S) (hp:Rd slE w p ls) (hpn:ls.length=m) (hl:Lines w base ls xss) (hpf:∀a,p.a=some a->¬x6 f a.block)
  (hmost:S.most<=100000) (hbase:base<=w.heap.size) (hm:m<=100000)
  (hfin:∀i f' w',GridM w' base f' { S with old:=K9 S.most S.old xss }->f.to f' w.heap.size->f'.ls=f.ls->Chg (x6 f) w w'->Fin (i,()) w') :
  zc (σ:=Int×Unit) (λI3 s_2 w12=>
   cond (decide (s_2.1<((p.n:Nat):Int)))
    (
     ixK p s_2.1 1 λt127=>
     zF t127 w12 λt128=>
     ldP ((⟨f.g,0,none⟩:Addr).add 0) w12 λt132=>
     jY t132 t128 w12 λ_ _ w13=>
     I3 ((i64.wrap (s_2.1+(1:Int))),()) w13)
    (Fin s_2 w12)) (0,()) w:=by
 have hpn':p.n=m:=by rw [hp.n,hpn]
 have hxl:xss.length=m:=by rw [<-hl.1,hpn]
 refine lpR (λ(s:Int×Unit) w2=>∃(k:Nat) (f':Foot),s.1=k/\k<=m/\GridM w2 base f' { S with old:=K9 S.most S.old (xss.take k) }/\f.to f' w.heap.size/\f'.ls=f.ls/\Chg (x6 f) w w2) (λs=>m-s.1.toNat) ⟨0,f,rfl,by omega,by simpa [K9] using h,Foot.to.refl _ _,rfl,Chg.refl _ _⟩ ?_;rintro ⟨i,_⟩ w2 ⟨k,f',rfl,hk,h2,hf,hfl,hc⟩ I hI;dsimp only at *;rw [hpn'];refine cO (λhlt=>?_) (λhge=>?_)
 ·have hlt:=oTq hlt;have hp2:Rd slE w2 p ls:=hp.chg hc hpf;have hl2:Lines w2 base ls xss:=hl.chg hc h.notC;refine hp2.ix rfl (by omega) (by omega) λhcell=>?_;have hlk:ls[k]?=some (ls[k]'(by omega)):=List.getElem?_eq_getElem _;have hxk:xss[k]?=some (xss[k]'(by omega)):=List.getElem?_eq_getElem _;refine lSl (x:=ls[k]'(by omega)) (by simpa using hcell 0 _ rfl) ?_;have hb2:=h2.blk;rw [hf.g,hf.r] at hb2;refine qK (x:=some ⟨f.r,0,none⟩) (hb2.cells 0 _ rfl) ?_;have hr2:=h2.ring;rw [hf.r] at hr2;have hsz:=hc.size;refine zej hr2 (hl2.2 k _ _ hlk hxk) hmost (by omega) λu b s' w3 hr3 hc3 hs'=>?_;rw [qQ (by omega)];have sub:∀i,qii f.r f'.rs i->x6 f i\/w.heap.size<=i:=λi hi=>by
   refine hf.old i ?_;rcases hi with e | e
   ·exact .inr (.inl (by rw [e,hf.r]))
   ·exact .inr (.inr (.inr e))
  have hc':Chg (x6 f) w w3:=hc.trans hc3 λi hi hs=>by
   rcases sub i hs with e | e
   ·exact e
   ·omega
  have notr:∀k cs,qii f.r f'.rs k->¬Blk w2 k qR cs:=hr2.notC;obtain ⟨ls',ho',hl'⟩:=h2.row;obtain ⟨g1,g2,g3⟩:=h2.g_ne;refine hI _ _ ⟨k+1,{ f' with rs:=s' },by simp,by omega,⟨?_,h2.hg,⟨ls',ho'.chg hc3 λg hg hs=>?_,hl'.chg hc3 notr⟩,?_,?_⟩,?_,hfl,hc'⟩ (by simp;omega)
  ·refine h2.blk.chg hc3 λe=>?_;rcases e with e | e
   ·exact g1 (by rw [e,hf.r])
   ·exact (g3 _ e).1 rfl
  ·rcases hs with e | e
   ·exact (g2 g hg).2 (by rw [e,hf.r])
   ·exact h2.ne g hg e
  ·show Ja w3 base f'.r s' S.most (K9 S.most S.old (xss.take (k+1)));rw [q4j _ _ _ _ _ hxk,hf.r];exact hr3
  ·intro k' hk' e;rcases hs' with e' | ⟨q,e',hq⟩
   ·rw [e'] at e;exact h2.ne k' hk' e
   ·rw [e'] at e;cases e;have:=(h2.below k' (.inr (.inr (.inl hk')))).2;omega
  ·refine ⟨hf.g,hf.r,hf.ls,?_⟩;rcases hs' with e' | ⟨q,e',hq⟩
   ·rcases hf.rs with e | e
    ·exact .inl (e'.trans e)
    ·exact .inr λk' hk'=>e k' (by rw [<-e'];exact hk')
   ·exact .inr λk' hk'=>by rw [e'] at hk';cases hk';omega
 ·have hge:=oFq hge;have:k=m:=by omega
  subst this;rw [List.take_of_length_le (by omega)] at h2;exact hfin _ f' w2 h2 hf hfl hc
theorem cut_block {x:Option Addr} {l m k:Nat} {a:Addr} (h:cut x l m k=some a):∃b,x=some b/\a.block=b.block:=by
 unfold cut at h;split at h
 ·exact ⟨a,h,rfl⟩
 ·obtain ⟨b,hb,rfl⟩:=Option.map_eq_some_iff.1 h;exact ⟨b,hb,by simp⟩
theorem q4w {w:World} {base:Nat} {f:Foot} {S:GS} {top past n:Int} {a:vD} {K:Int->Ub} (h:GridM w base f S) (hL:S.L.length=S.rows) (hrows:S.rows<=1000) (hmost:S.most<=100000) (hbase:base<=w.heap.size) (hn:-9223372036854775808<=n/\n<=9223372036854775807)
  (hK:∀f' w',GridM w' base f' (vN S top past n a)->f.to f' w.heap.size->Chg (x6 f) w w'->K (q30 S.rows top past n) w'):xp (some ⟨f.g,0,none⟩) top past n a w K:=by
 refine qix _ _ _ _ _ ?_;simp only [onPtr_some];refine nwb λw1 hb1 hB1 hs1=>?_;have h1:=h.ext hB1;refine jpO λJ1 hJ1=>?_;have bad:Q4 S.rows top past n->K 0 w1:=λhb=>by
  have:=hK f w1 (by rw [vN,if_pos hb];exact h1) (Foot.to.refl _ _) (Chg.of_ext hB1)
  rwa [q30,if_pos (.inl hb)] at this
 refine cO (λe=>bad (.inl (eq_of_beq e))) (λe0=>?_);refine cO (λe=>bad (.inr (.inl (oTq e)))) (λe1=>?_);refine cO (λe=>bad (.inr (.inr (.inl (oTq e))))) (λe2=>?_);refine lI (x:=(S.rows:Int)) (h1.blk.cells 1 _ rfl) ?_;refine cO (λe=>bad (.inr (.inr (.inr (oTq e))))) (λe3=>?_);have e0:n≠0:=beq_eq_false_iff_ne.1 e0;have e1:=oFq e1;have e2:=oFq e2;have e3:=oFq e3;have good:¬Q4 S.rows top past n:=by unfold Q4;omega
 refine hJ1 _ _ ?_;rw [qQ (x:=past-top) (by omega),qQ (x:=0-(past-top)) (by omega)];refine jpO λJ2 hJ2=>?_;have hm:(KA top past n:Int)=min (if n<0 then -n else n) (past-top):=by unfold KA;split<;>omega
 unfold vN qgn at hK;unfold q30 at hK;rw [if_neg good] at hK;generalize KA top past n=m at *;have hm0:1<=m:=by split at hm<;>omega
 have hm1:(m:Int)<=past-top:=by split at hm<;>omega
 obtain ⟨tp,rfl⟩:∃tp:Nat,top=tp:=⟨top.toNat,by omega⟩;obtain ⟨ps,rfl⟩:∃ps:Nat,past=ps:=⟨past.toNat,by omega⟩;have main:∀c:Int,(if i64.wrap (0-c)>c then i64.wrap (0-c) else c)=(m:Int)->J2 (c,()) w1:=λc hc=>hJ2 _ _ (by
  dsimp only;rw [hc];obtain ⟨ls,ho,hl⟩:=h1.row;have hll:=hl.1;refine lSl (x:=f.ls) (h1.blk.cells 3 _ rfl) ?_;refine ho.rd.slK3 (l:=tp) (m:=ps) rfl (.inr rfl) rfl rfl (by omega) (by omega) λhpart=>?_;have h1d:=h1.drew;have hod:Go.Vc.Own slE w1.drew base f.ls ls:=ho;have hbd:=hb1.drew;refine cO (λhneg=>?_) (λhpos=>?_)
  ·have hneg:n<0:=by
    have:¬n>0:=by simpa using hneg
    omega
   refine lSl (x:=f.ls) (h1d.blk.cells 3 _ rfl) ?_;refine hod.rd.slK3 (l:=0) (m:=tp) rfl (.inl ⟨rfl,rfl⟩) rfl rfl (by omega) (by omega) λhfront=>?_;refine qy (x:=a) hbd.cells ?_;rw [qQ (x:=(ps:Int)-tp-m) (by omega)];refine hpart.drew.slK (l:=0) (m:=ps-tp-m) rfl (.inl ⟨rfl,rfl⟩) (.inr (by simp;omega)) (by omega) (by simp;omega) λhmid=>?_;refine lSl (x:=f.ls) (h1d.blk.cells 3 _ rfl) ?_;refine hod.rd.slK (l:=ps) (m:=ls.length) rfl (.inr rfl) (.inl ⟨rfl,rfl⟩) (by omega) (le_refl _) λhback=>?_;refine qgr h1d (by omega) λb bls w4 hob hlb hB4=>?_;have hB14:Uc w1 w4:=(Below.refl _ w1).drew.trans hB4;have hB04:Uc w w4:=hB1.trans (hB14.mono hB1.size);have h4:=h1.ext hB14;refine ⟨h4.blk.cells 3 _ rfl,h4.blk.cells 3 _ rfl,?_⟩;refine nwb λw5 hb5 hB5 hs5=>?_;have hB45:Below w1.drew.heap.size w1.drew w5:=hB4.trans (hB5.mono hB4.size);have hA:=zcp (hfront.ext hB45) (hob.rd.ext hB5) (hmid.ext hB45) (hback.ext hB45);have hbl:=hlb.1;rw [List.length_replicate] at hbl;refine qrp ?_ hA ?_ (by simp) λq w6 ho6 hB6=>?_
   ·exact rd_lits (E:=zmu) (ys:=[_,_,_,_]) hb5 (by simp [maxLen]) rfl
   ·simp;omega
   have hB06:Uc w w6:=hB04.trans ((hB5.trans (hB6.mono hB5.size)).mono hB04.size);have hB16:Uc w1 w6:=hB14.trans ((hB5.trans (hB6.mono hB5.size)).mono hB14.size);have hB46:Uc w4 w6:=hB5.trans (hB6.mono hB5.size);have h6:=h1.ext hB16;have hl6:=hl.ext hB16;have hs15:w1.heap.size<=w5.heap.size:=by have:=hB14.size;have:=hB5.size;omega
   have hs01:=hB1.size;have hlb6:Lines w6 base bls (List.replicate m (y1 S.cols a)):=⟨hlb.1,λi t xs x1 x2=>((hlb.2 i t xs x1 x2).ext hB46).base (by show base<=w1.heap.size;omega)⟩;have hfresh:∀k,q.blk=some k->w.heap.size<=k:=λk hk=>by have:=(ho6.lt k hk).1;omega
   have hrow:=ho6.base (base':=base) (by omega);have hlines:=(((hl6.take tp).drop 0).append (hlb6.append (((((hl6.take ps).drop tp).take (ps-tp-m)).drop 0).append (((hl6.take ls.length).drop ps).append (Lines.nil w6 base)))));rw [qH];refine qB h6.blk (by simp) λw7 hb7 hg7 hs7=>?_;have h7:=h6.newRow (B:=0) (top:=S.top) hrow hlines (λk hk=>?_) hb7 hg7 (zero_le _)
   ·have hneg':¬(n>0/\(tp:Int)=0):=by omega
    have hneg2:¬n>0:=by omega
    rw [if_neg hneg',if_neg hneg2,if_pos (.inr (.inl hneg))] at hK;refine hK ⟨f.g,f.r,q,f.rs⟩ w7 ?_ ⟨rfl,rfl,.inr hfresh,.inl rfl⟩ ((Chg.of_ext (S:=x6 f) hB06).trans (S':=λk=>k=f.g) (Chg.of_grown hg7 λk hk=>by cases hk;rfl) λi _ hi=>.inl hi);have e:List.take tp S.L++List.replicate m (y1 S.cols a)++List.drop tp (List.take (ps-m) S.L)++List.drop ps S.L=List.drop 0 (List.take tp S.L)++(List.replicate m (y1 S.cols a)++(List.drop 0 (List.take (ps-tp-m) (List.drop tp (List.take ps S.L)))++(List.drop ps (List.take ls.length S.L)++[]))):=by
     rw [drop_zero,drop_zero,List.append_nil,qw4,List.take_take,hll,List.take_length];rw [show min (tp+(ps-tp-m)) ps=ps-m by omega];simp
    rw [show ((tp:Int)).toNat=tp from rfl,show ((ps:Int)).toNat=ps from rfl,e];exact h7
   ·have hk':=hfresh k hk;refine ⟨λe=>?_,λe=>?_,λe=>?_⟩
    ·have:=(h.below k (.inl e)).2;omega
    ·have:=(h.below k (.inr (.inl e))).2;omega
    ·have:=(h.below k (.inr (.inr (.inr e)))).2;omega
  ·have hpos:n>0:=by simpa using hpos
   refine hpart.drew.slK3 (l:=0) (m:=m) rfl (.inl ⟨rfl,rfl⟩) rfl rfl (by omega) (by simp;omega) λhgone=>?_;refine lSl (x:=f.ls) (h1d.blk.cells 3 _ rfl) ?_;refine hod.rd.slK3 (l:=0) (m:=tp) rfl (.inl ⟨rfl,rfl⟩) rfl rfl (by omega) (by omega) λhfront=>?_;refine hpart.drew.slK (l:=m) (m:=((ls.take ps).drop tp).length) rfl (.inr rfl) (.inl ⟨rfl,rfl⟩) (by simp;omega) (le_refl _) λhrest=>?_;refine qy (x:=a) hbd.cells ?_;refine lSl (x:=f.ls) (h1d.blk.cells 3 _ rfl) ?_;refine hod.rd.slK (l:=ps) (m:=ls.length) rfl (.inr rfl) (.inl ⟨rfl,rfl⟩) (by omega) (le_refl _) λhback=>?_;refine qgr h1d (by omega) λb bls w4 hob hlb hB4=>?_;have hB14:Uc w1 w4:=(Below.refl _ w1).drew.trans hB4;have hB04:Uc w w4:=hB1.trans (hB14.mono hB1.size);have h4:=h1.ext hB14;refine ⟨h4.blk.cells 3 _ rfl,h4.blk.cells 3 _ rfl,?_⟩;refine nwb λw5 hb5 hB5 hs5=>?_;have hB45:Below w1.drew.heap.size w1.drew w5:=hB4.trans (hB5.mono hB4.size);have hA:=zcp (hfront.ext hB45) (hrest.ext hB45) (hob.rd.ext hB5) (hback.ext hB45);have hbl:=hlb.1;rw [List.length_replicate] at hbl;refine qrp ?_ hA ?_ (by simp) λq w6 ho6 hB6=>?_
   ·exact rd_lits (E:=zmu) (ys:=[_,_,_,_]) hb5 (by simp [maxLen]) rfl
   ·simp;omega
   have hB06:Uc w w6:=hB04.trans ((hB5.trans (hB6.mono hB5.size)).mono hB04.size);have hB16:Uc w1 w6:=hB14.trans ((hB5.trans (hB6.mono hB5.size)).mono hB14.size);have hB46:Uc w4 w6:=hB5.trans (hB6.mono hB5.size);have h6:=h1.ext hB16;have hl6:=hl.ext hB16;have hs15:w1.heap.size<=w5.heap.size:=by have:=hB14.size;have:=hB5.size;omega
   have hs01:=hB1.size;have hlb6:Lines w6 base bls (List.replicate m (y1 S.cols a)):=⟨hlb.1,λi t xs x1 x2=>((hlb.2 i t xs x1 x2).ext hB46).base (by show base<=w1.heap.size;omega)⟩;have hfresh:∀k,q.blk=some k->w.heap.size<=k:=λk hk=>by have:=(ho6.lt k hk).1;omega
   have hrow:=ho6.base (base':=base) (by omega);have hlines:=(((hl6.take tp).drop 0).append (((((hl6.take ps).drop tp).take ((ls.take ps).drop tp).length).drop m).append (hlb6.append (((hl6.take ls.length).drop ps).append (Lines.nil w6 base)))));rw [qH];refine qB h6.blk (by simp) λw7 hb7 hg7 hs7=>?_;have hqne:∀k,q.blk=some k->k≠f.g/\k≠f.r/\f.rs.blk≠some k:=λk hk=>by
    have hk':=hfresh k hk;refine ⟨λe=>?_,λe=>?_,λe=>?_⟩
    ·have:=(h.below k (.inl e)).2;omega
    ·have:=(h.below k (.inr (.inl e))).2;omega
    ·have:=(h.below k (.inr (.inr (.inr e)))).2;omega
   have h7:=h6.newRow (B:=0) (top:=S.top) hrow hlines hqne hb7 hg7 (zero_le _);have e:List.take tp S.L++List.drop (tp+m) (List.take ps S.L)++List.replicate m (y1 S.cols a)++List.drop ps S.L=List.drop 0 (List.take tp S.L)++(List.drop m (List.take ((ls.take ps).drop tp).length (List.drop tp (List.take ps S.L)))++(List.replicate m (y1 S.cols a)++(List.drop ps (List.take ls.length S.L)++[]))):=by
    have e1:((ls.take ps).drop tp).length=((S.L.take ps).drop tp).length:=by simp [hll]
    rw [drop_zero,List.append_nil,e1,List.take_length,hll,List.take_length,List.drop_drop];simp
   have hc7:Chg (x6 f) w w7:=(Chg.of_ext (S:=x6 f) hB06).trans (S':=λk=>k=f.g) (Chg.of_grown hg7 λk hk=>by cases hk;rfl) λi _ hi=>.inl hi;rw [if_pos hpos,show ((tp:Int)).toNat=tp from rfl,show ((ps:Int)).toNat=ps from rfl,e] at hK;refine cO (λht=>?_) (λht=>?_)
   ·have ht:(tp:Int)≠0:=by simpa using ht
    rw [if_neg (λhh=>ht hh.2),if_pos (.inr (.inr ht))] at hK;exact hK ⟨f.g,f.r,q,f.rs⟩ w7 h7 ⟨rfl,rfl,.inr hfresh,.inl rfl⟩ hc7
   ·have ht:(tp:Int)=0:=by simpa using ht
    rw [if_pos ⟨hpos,ht⟩,if_neg (by rintro (hh | hh | hh);exact good hh;omega;exact hh ht)] at hK;have hB17:Chg (λk=>k=f.g) w6 w7:=Chg.of_grown hg7 λk hk=>by cases hk;rfl
    obtain ⟨g1,g2,g3⟩:=h1.g_ne;have hgone6:=hgone.ext (w':=w6) (hB45.trans (hB6.mono hB45.size));have hbr:Go.Vc.Own slE w7 base q _:=hrow.chg hB17 λk hk=>(hqne k hk).1;have notr:∀k cs,k=f.g->¬Blk w6 k qR cs:=λk cs hk hc=>h6.notC k cs (.inl hk) hc;have hgone7:Rd slE w7 _ _:=hgone6.chg hB17 λx hx hs=>by
     obtain ⟨y,hy,e1⟩:=cut_block hx;obtain ⟨z,hz,e2⟩:=cut_block hy;exact (g2 z.block (by simp [Slc.blk,hz])).1 (by rw [<-e2,<-e1];exact hs)
    have hlg:=((((hl6.take ps).drop tp).take m).drop 0).chg hB17 notr;refine zmp (f:=⟨f.g,f.r,q,f.rs⟩) (m:=m) h7 hgone7 (by simp;omega) hlg (λx hx hs=>?_) hmost (by have:=hB06.size;have:=hg7.size;omega) (by omega) λi f' w8 h8 hf8 hfl8 hc8=>?_
    ·obtain ⟨y,hy,e1⟩:=cut_block hx;obtain ⟨z,hz,e2⟩:=cut_block hy;have hzb:f.ls.blk=some z.block:=by simp [Slc.blk,hz]
     rw [e1,e2] at hs;rcases hs with e | e | e | e
     ·exact (g2 _ hzb).1 e
     ·exact (g2 _ hzb).2 e
     ·have:=hfresh _ e;have:=(h.below _ (.inr (.inr (.inl hzb)))).2;omega
     ·exact h.ne _ hzb e
    ·have hb8:=h8.blk;have hfg:f'.g=f.g:=hf8.g;rw [hfg] at hb8;refine lI (x:=S.top) (hb8.cells 4 _ rfl) ?_;rw [qH];refine qB hb8 (by simp) λw9 hb9 hg9 hs9=>?_;obtain ⟨ls8,ho8,hl8⟩:=h8.row;obtain ⟨k1,k2,k3⟩:=h8.g_ne;have hto:f.to ⟨f.g,f.r,q,f.rs⟩ w.heap.size:=⟨rfl,rfl,.inr hfresh,.inl rfl⟩;have h9:=h8.newRow (B:=0) (w2:=w9) (top:=i64.wrap (S.top+m)) ho8 hl8 (λk hk=>⟨(k2 k hk).1,(k2 k hk).2,h8.ne k hk⟩) (by rw [hfg];exact hb9) (by rw [hfg];exact hg9) (zero_le _);have hsz7:w.heap.size<=w7.heap.size:=by have:=hB06.size;have:=hg7.size;omega
     refine hK f' w9 ?_ (hto.trans hf8 hsz7) ((hc7.trans hc8 λi hi hs=>?_).trans (S':=λk=>k=f.g) (Chg.of_grown hg9 λk hk=>by cases hk;rfl) λi _ hi=>.inl hi)
     ·have ep:List.take m S.L=List.drop 0 (List.take m (List.drop tp (List.take ps S.L))):=by
       have:tp=0:=by omega
       subst this;rw [drop_zero,drop_zero,List.take_take,Nat.min_eq_left (by omega)]
      rw [ep];exact h9
     ·rcases hto.old i hs with e | e
      ·exact e
      ·omega)
 refine cO (λc1=>main _ ?_) (λc1=>cO (λc2=>main _ ?_) (λc2=>main _ ?_))
 ·have c1:=oTq c1;rw [qQ (by omega)];split at hm<;>split<;>omega
 ·have c2:=oTq c2;rw [qQ (by omega)];split at hm<;>split<;>omega
 ·have c1:=oFq c1;have c2:=oFq c2;rw [qQ (by omega)];split at hm<;>split<;>omega
theorem qkw {cols:Nat} {L:List (List qU)} {rows:Nat} {top past n:Int} {a:vD} (hL:L.length=rows) (h:¬Q4 rows top past n):(qgn cols L top past n a).length=L.length:=by
 unfold Q4 at h;have hm:(KA top past n:Int)=min (if n<0 then -n else n) (past-top):=by unfold KA;split<;>omega
 unfold qgn;dsimp only;generalize KA top past n=m at *;split
 ·simp only [List.length_append,List.length_take,List.length_drop,List.length_replicate];split at hm<;>omega
 ·simp only [List.length_append,List.length_take,List.length_drop,List.length_replicate];split at hm<;>omega
theorem qa4 {S:GS} {top past n:Int} {a:vD} (hL:S.L.length=S.rows):(vN S top past n a).L.length=S.rows/\(vN S top past n a).rows=S.rows/\(vN S top past n a).cols=S.cols/\(vN S top past n a).most=S.most:=by
 unfold vN;split
 ·exact ⟨hL,rfl,rfl,rfl⟩
 ·next h =>
  split
  ·exact ⟨(qkw hL h).trans hL,rfl,rfl,rfl⟩
  ·exact ⟨(qkw hL h).trans hL,rfl,rfl,rfl⟩
section
variable {w w1 w2:World} {base:Nat} {f:Foot} {S:GS}
theorem GridM.setLine {i:Nat} {t:Slc} {xs:List qU} {ls:List Slc} (h:GridM w1 base f S) (hl:Lines w1 base ls S.L) (ht:Go.Vc.Own zi w1 base t xs) (ho:Go.Vc.Own slE w2 base f.ls (ls.set i t)) (hg:w1.grownBy w2 f.ls.blk) :
  GridM w2 base f { S with L:=S.L.set i xs }/\Chg (λk=>f.ls.blk=some k) w1 w2:=by
 have hc5:Chg (λk=>f.ls.blk=some k) w1 w2:=Chg.of_grown hg λk hk=>hk;have notC:∀k cs,f.ls.blk=some k->¬Blk w1 k qR cs:=λk cs hk=>h.notC k cs (.inr (.inr (.inl hk)));obtain ⟨g1,g2,g3⟩:=h.g_ne;refine ⟨⟨h.blk.chg hc5 λe=>(g2 _ e).1 rfl,h.hg,⟨ls.set i t,ho,(hl.chg hc5 notC).set i (ht.chg hc5 λg hg hs=>?_)⟩,h.ring.chg hc5 (λk hk hs=>?_) notC,h.ne⟩,hc5⟩
 ·obtain ⟨cs,hcs⟩:=ht.blk_t hg;exact notC g cs hs hcs
 ·rcases hk with rfl | hk
  ·exact (g2 _ hs).2 rfl
  ·exact h.ne k hs hk
theorem Chg.gg {k:Nat} (h:w1.grownBy w2 (some k)):Chg (λi=>i=k) w1 w2:=Chg.of_grown h λi hi=>by cases hi;rfl
end
section
variable {w:World} {base:Nat} {f:Foot} {S:GS}
theorem callR_plain {C:Cx} {g:Nat} {first cap:Array Value} {args:List Value} {ks:List Kind} {w:World} {K:Go.Vc.Cur ks} (hp:C.plain g=true) (h:qj C.P g (first.toList++args++cap.toList) ks w K) :
  jm C (.func (.func g) first cap) args ks w K:=by
 unfold jm qmj;simp only [hp];exact h
end
def qj9:Int->List Bool->List (Int×Unit)
 | _,[]=>[]
 | i,b::r=>if b then (i,())::qj9 (i+1) r else qj9 (i+1) r
def keysB (B:List Bool):List (Int×Unit):=qj9 0 B
theorem qtr:∀{B:List Bool} {i a:Int} {u:Unit},(a,u)∈qj9 i B↔∃j:Nat,a=i+j/\B[j]?=some true
 | [],i,a,u=>by simp [qj9]
 | b::r,i,a,u=>by
  have ih:=qtr (B:=r) (i:=i+1) (a:=a) (u:=u);have key:(∃j:Nat,a=i+1+j/\r[j]?=some true)↔∃j:Nat,a=i+((j+1:Nat):Int)/\(b::r)[j+1]?=some true:=by
   simp only [List.getElem?_cons_succ];constructor
   ·rintro ⟨j,h,h'⟩;exact ⟨j,by omega,h'⟩
   ·rintro ⟨j,h,h'⟩;exact ⟨j,by omega,h'⟩
  rw [qj9];cases b with
  | true =>
   rw [if_pos rfl,List.mem_cons,ih,key];constructor
   ·rintro (h | ⟨j,h,h'⟩)
    ·exact ⟨0,by cases h;simp,rfl⟩
    ·exact ⟨j+1,h,h'⟩
   ·rintro ⟨j,h,h'⟩;cases j with
    | zero=>exact .inl (by rw [h];simp)
    | succ j=>exact .inr ⟨j,h,h'⟩
  | false =>
   rw [if_neg (by simp),ih,key];constructor
   ·rintro ⟨j,h,h'⟩;exact ⟨j+1,h,h'⟩
   ·rintro ⟨j,h,h'⟩;cases j with
    | zero=>simp at h'
    | succ j=>exact ⟨j,h,h'⟩
theorem qtn:∀(B:List Bool) (i:Int),Srt (qj9 i B)
 | [],i=>.nil
 | b::r,i=>by
  rw [qj9];cases b with
  | true =>
   rw [if_pos rfl];refine List.pairwise_cons.2 ⟨λp hp=>?_,qtn r (i+1)⟩;obtain ⟨a,u⟩:=p;obtain ⟨j,h,_⟩:=qtr.1 hp;show i<a;omega
  | false=>rw [if_neg (by simp)];exact qtn r (i+1)
theorem q2u {B:List Bool} {a:Int} {u:Unit}:(a,u)∈keysB B↔∃j:Nat,a=j/\B[j]?=some true:=by
 unfold keysB;rw [qtr];simp
theorem yu (B:List Bool):Srt (keysB B):=qtn B 0
theorem qry {L M:List (Int×Unit)} (h:Srt L) (h':Srt M) (hm:∀a,(a,())∈L↔(a,())∈M):L=M:=by
 have hp:L.Perm M:=(List.perm_ext_iff_of_nodup h.nodup h'.nodup).2 λp=>by obtain ⟨a,u⟩:=p;exact hm a
 refine hp.eq_of_pairwise (le:=λp q:Int×Unit=>p.1<=q.1) (λa b _ _ h1 h2=>?_) (h.imp λh=>Int.le_of_lt h) (h'.imp λh=>Int.le_of_lt h);obtain ⟨a,u⟩:=a;obtain ⟨b,v⟩:=b;have:a=b:=Int.le_antisymm h1 h2;subst this;rfl
def qxy (j:Nat):Bool:=decide (0<j) && decide (j%8=0)
def ZP (B:List Bool) (n:Nat):List Bool:=(List.range n).map λj=>(B[j]?).getD (qxy j)
@[simp] theorem resz_length (B:List Bool) (n:Nat):(ZP B n).length=n:=by simp [ZP]
theorem qy4 {B:List Bool} {n j:Nat}:(ZP B n)[j]?=if j<n then some ((B[j]?).getD (qxy j)) else none:=by
 unfold ZP;rw [List.getElem?_map];by_cases h:j<n
 ·rw [if_pos h,List.getElem?_range h];rfl
 ·rw [if_neg h,List.getElem?_eq_none (by simpa using h)];rfl
theorem zez (B:List Bool):ZP B B.length=B:=by
 refine List.ext_getElem? λj=>?_;rw [qy4];split
 ·rename_i h;rw [List.getElem?_eq_getElem h];rfl
 ·rename_i h;rw [List.getElem?_eq_none (by omega)]
theorem qag {B:List Bool} {n:Nat} {a:Int} {u:Unit}:(a,u)∈keysB (ZP B n)↔∃j:Nat,a=j/\j<n/\(B[j]?).getD (qxy j)=true:=by
 rw [q2u];constructor
 ·rintro ⟨j,h,h'⟩;rw [qy4] at h';split at h'
  ·rename_i hj;exact ⟨j,h,hj,by simpa using h'⟩
  ·cases h'
 ·rintro ⟨j,h,hj,h'⟩;exact ⟨j,h,by rw [qy4,if_pos hj,h']⟩
theorem zij {B:List Bool} (h:B.length<=1):keysB (ZP B 1)=keysB B:=by
 refine qry (yu _) (yu _) λa=>?_;rw [qag,q2u];constructor
 ·rintro ⟨j,rfl,hj,h'⟩;obtain rfl:j=0:=by omega
  refine ⟨0,rfl,?_⟩;cases hb:B[0]? with
  | none=>rw [hb] at h';cases h'
  | some b=>rw [hb] at h';exact congrArg some h'
 ·rintro ⟨j,rfl,h'⟩;have:j<B.length:=(List.getElem?_eq_some_iff.1 h').1;exact ⟨j,rfl,by omega,by rw [h'];rfl⟩
theorem q2n {B:List Bool} {n:Nat} (h:B.length<=n):(qxy n=true->kC (keysB (ZP B n)) (n:Int) ()=keysB (ZP B (n+1)))/\(qxy n=false->keysB (ZP B n)=keysB (ZP B (n+1))):=by
 have hn:B[n]?=none:=List.getElem?_eq_none h;constructor
 ·intro hd;refine qry (qfp (yu _) _ _) (yu _) λa=>?_;rw [Qk (yu _),qag,qag];constructor
  ·rintro (⟨rfl,_⟩ | ⟨hne,j,rfl,hj,h'⟩)
   ·exact ⟨n,rfl,by omega,by rw [hn];exact hd⟩
   ·exact ⟨j,rfl,by omega,h'⟩
  ·rintro ⟨j,rfl,hj,h'⟩;by_cases e:j=n
   ·exact .inl ⟨by rw [e],rfl⟩
   ·exact .inr ⟨by omega,j,rfl,by omega,h'⟩
 ·intro hd;refine qry (yu _) (yu _) λa=>?_;rw [qag,qag];constructor
  ·rintro ⟨j,rfl,hj,h'⟩;exact ⟨j,rfl,by omega,h'⟩
  ·rintro ⟨j,rfl,hj,h'⟩;refine ⟨j,rfl,?_,h'⟩;have:j≠n:=λe=>by subst e;rw [hn] at h';rw [show (none:Option Bool).getD (qxy j)=qxy j from rfl,hd] at h';cases h'
   omega
theorem zis {B:List Bool} {n m:Nat} (h:n<=m):(keysB (ZP B m)).filter (λp=>decide (p.1<(n:Int)))=keysB (ZP B n):=by
 refine qry ((yu _).filter _) (yu _) λa=>?_;rw [List.mem_filter,qag,qag];constructor
 ·rintro ⟨⟨j,rfl,hj,h'⟩,hlt⟩;have:=oTq hlt;exact ⟨j,rfl,by simp at this;omega,h'⟩
 ·rintro ⟨j,rfl,hj,h'⟩;exact ⟨⟨j,rfl,by omega,h'⟩,by simp;omega⟩
end Go.Proofs.YtlmpnfhmpjldaaaGreatDoor
set_option maxRecDepth 100000
namespace Go.Proofs
open Go.RowKit Go.Maps Go.Sort Go.Shelf Go.Vc
def Tryz.keysB_ren:Go.Shelf.Ren:=⟨λ| 7=>348 | 10=>410 | n=>n,λ| 23=>160 | 26=>3 | 3=>4 | 28=>203 | 0=>0 | 27=>202 | 33=>187 | 4=>4 | n=>n,λ| n=>n⟩
theorem Tryz.keysB:Go.Proofs.SlLaysZI.n7 Tryz.prog Tryz.keysB_ren:={
 mixed:=by kernel_rfl
 f7:=⟨Tryz.f348.name,by decide,Tryz.func348.trans (congrArg some (by kernel_rfl))⟩
 f10:=⟨Tryz.f410.name,by decide,Tryz.func410.trans (congrArg some (by kernel_rfl))⟩
 t0:=Tryz.underlying0
 a0:=Tryz.isAgg0
 z0:=Tryz.sizeOf0
 v0:=Tryz.zeroValue0
 t4:=Tryz.underlying4
 a4:=Tryz.isAgg4
 z4:=Tryz.sizeOf4
 v4:=Tryz.zeroValue4
 t23:=Tryz.underlying160
 a23:=Tryz.isAgg160
 z23:=Tryz.sizeOf160
 v23:=Tryz.zeroValue160
 t26:=Tryz.underlying3
 a26:=Tryz.isAgg3
 z26:=Tryz.sizeOf3
 v26:=Tryz.zeroValue3
 t27:=Tryz.underlying202
 a27:=Tryz.isAgg202
 z27:=Tryz.sizeOf202
 v27:=Tryz.zeroValue202
 t28:=Tryz.underlying203
 a28:=Tryz.isAgg203
 z28:=Tryz.sizeOf203
 v28:=Tryz.zeroValue203
 t33:=Tryz.underlying187
 a33:=Tryz.isAgg187
 z33:=Tryz.sizeOf187
 v33:=Tryz.zeroValue187 }
namespace YtlmpnfhmpjldaaaGreatDoor
section
variable {V:Type} {enc:V->Value} {w:World} {r:Nat} {L:List (Int×V)}
theorem q7w (hM:zP enc w r L) (hl:L.length<=maxLen) {B:Nat} (hB:w.cell? ⟨B,0,none⟩=some (.map (some r))) (n:Nat) (hn:1<=n) :
  SeqGives Fence.wide n Tryz.prog 410 #[.pointer (some ⟨B,0,none⟩)] encZ (λss=>ss.Perm (L.map (·.1))) L.length w:=by
 obtain ⟨E,c,hE,hp,hs⟩:=hM;have hlen:=qsz hp;obtain ⟨D0,hD,hsz,hpk⟩:=zdl hE (by omega);have hBl:B<w.heap.size:=by
  unfold World.cell? at hB;cases h:w.heap[B]? with
  | none=>rw [h] at hB;cases hB
  | some o=>exact (Array.getElem?_eq_some_iff.1 h).1
 have h:=AnyZI.keys_gives (ρ:=Tryz.keysB_ren) { Tryz.keysB with } Fence.wide n trivial rfl hn B r E.length D0 w hBl hB hD;rw [hsz,hlen] at h;have hpp:(E.map (·.k)).Perm (L.map (·.1)):=by
  have:=hp.map (·.1);unfold vM at this
  rwa [List.map_map] at this
 intro l J W hW hJ hY h0;refine (h l J W hW hJ hY h0).mono ?_;rintro e W' ⟨hv,xs,hxs,hJx⟩;exact ⟨hv,xs,(hxs.trans hpk).trans hpp,hJx⟩
theorem q80 {m:Option Nat} {w:World} {K:Value->Ub}
  (hK:K (.func (.func 410) #[] #[.pointer (some ⟨w.heap.size,0,none⟩)]) (w.alloc (.cells #[.map m] 160))):kD m w K:=by
 have h:=callsIn_wide.1 (AnyZI.keys_in Tryz.keysB Fence.wide 5 trivial rfl m w);refine Calls.mono (R:=λe w'=>e=.returned (.func (.func 410) #[] #[.pointer (some ⟨w.heap.size,0,none⟩)])/\w'=w.alloc (.cells #[.map m] 160)) h ?_;rintro e w' ⟨rfl,rfl⟩;exact ⟨_,rfl,hK⟩
theorem q1q {B:Nat} {K:Slc->Ub} (hM:zP enc w r L) (hl:L.length<=1000000) (hB:w.cell? ⟨B,0,none⟩=some (.map (some r)))
  (hK:∀q w',Go.Vc.Own jG w' w.heap.size q (L.map (·.1))->Uc w w'->K q w'):vo (.func (.func 410) #[] #[.pointer (some ⟨B,0,none⟩)]) w K:=by
 have h:=callsIn_wide.1 (AnyZI.sorted_in Tryz.sortedA Fence.wide 5 trivial trivial trivial trivial rfl (by omega) (Tryz.sortsA _) (enters_of Tryz.func133 (by kernel_rfl) rfl) 410 #[.pointer (some ⟨B,0,none⟩)] trivial (enters_of Tryz.func410 (by kernel_rfl) rfl) _ L.length (by unfold maxLen;omega) (by omega) w (q7w hM (by unfold maxLen;omega) hB 2 (by omega)));refine Calls.mono h ?_;rintro e w' ⟨v,ss,rfl,hS,hrow,_,hb⟩;rw [q6v hM.srt hS] at hrow;rw [show ss.length=(L.map (·.1)).length from hS.length_eq] at hrow;obtain ⟨q,rfl,hq⟩:=qph hrow;exact ⟨q,rfl,hK q w' hq hb⟩
end
end YtlmpnfhmpjldaaaGreatDoor
end Go.Proofs
namespace Go.Proofs.YtlmpnfhmpjldaaaGreatDoor
open Go.Vc Go.RowKit
set_option maxRecDepth 100000
open _root_.Int (toNat_natCast)
open IntKind (i64)
open Lib (itoa)
open _root_.List (length_append length_cons length_nil mem_append mem_cons mem_singleton)
open _root_.Nat (le_refl zero_le)
def q76:Unit->Value:=λ_=>.bool true
structure StopsM (w:World) (g r:Nat) (B:List Bool):Prop where
 blk:Blk w g Zm [.int .i64 (B.length:Int),.map (some r)]
 map:zP q76 w r (keysB B)
theorem zds:PG.underlying zy=some (.map zz qce):=by kernel_rfl
theorem zdv:PG.underlying zz=some (.int .i64):=by kernel_rfl
theorem zl2:∀w,(zeroValue qce).run PG w=.ok (.bool false) w:=Tryz.zeroValue4
theorem Zj {a:Addr} {K:Addr->Prop} (h:K a):qG (some a) K:=h
theorem zgv {x:Int} (h:-9223372036854775808<=x/\x<=9223372036854775807):i64.wrap x=x:=qQ h
section
variable {w w':World} {g r:Nat} {B:List Bool}
theorem StopsM.keep {Sx:Nat->Prop} (h:StopsM w g r B) (hc:Chg Sx w w') (hg:¬Sx g) (hr:¬Sx r):StopsM w' g r B:=⟨h.blk.chg hc hg,h.map.chg hc hr⟩
theorem zk3 (B:List Bool):(keysB B).length<=B.length:=by
 unfold keysB;have:∀(B:List Bool) (i:Int),(qj9 i B).length<=B.length:=by
  intro B
  induction B with
  | nil=>intro i;simp [qj9]
  | cons b r ih =>
   intro i;rw [qj9];have:=ih (i+1);split<;>simp<;>omega
 exact this B 0
theorem q5p {L:List (Int×Unit)} (h:zP q76 w r L) {col:Int} (hc:-9223372036854775808<=col/\col<=9223372036854775807) {K:Option Value->Ub}
  (hK:∀w',zP q76 w' r (kC L col ())->Chg (λk=>k=r) w w'->w'.heap.size=w.heap.size->K none w'):qng PG (Instr.mapUpdate zy (.map (some r)) (Ua col) (.bool true)) w K:=by
 obtain ⟨w',h1,h2,h3,h4⟩:=h.update zds zdv hc ();exact ⟨w',h1,hK w' h2 h3 h4⟩
theorem q8o {L:List (Int×Unit)} (h:zP q76 w r L) (col:Int) {K:Value->Ub}
  (hK:∀v w',zP q76 w' r (Go.Vc.delL L col)->Chg (λk=>k=r) w w'->w'.heap.size=w.heap.size->K v w'):jq PG (Builtin.delete_ #[zy,zz] qg7 #[(.map (some r)),(Ua col)]) Kind.raw w K:=by
 obtain ⟨w',h1,h2,h3,h4⟩:=h.delete zds zdv col qg7;exact ⟨.tuple #[],w',h1,hK _ w' h2 h3 h4⟩
end
section
variable {w w':World} {g r:Nat} {B:List Bool}
theorem zjw {x:Int} {L:List (Int×Unit)} (hb:Blk w g Zm [.int .i64 x,.map (some r)]) (hm:zP q76 w r L) (hl:L.length<=1000) {K:Slc->Ub}
  (hK:∀q w',Go.Vc.Own jG w' w.heap.size q (L.map (·.1))->Uc w w'->K q w'):Kl (some ⟨g,0,none⟩) w K:=by
 refine qm1 _ ?_;refine Zj (xP (x:=some r) (hb.cells 1 _ rfl) (q80 ?_));have hB:Uc w (w.alloc (.cells #[.map (some r)] 160)):=(Below.refl _ w).alloc (le_refl _) _;have hs:(w.alloc (.cells #[.map (some r)] 160)).heap.size=w.heap.size+1:=by show (w.heap.push _).size=_;simp
 have hb:Blk (w.alloc (.cells #[.map (some r)] 160)) w.heap.size 160 [.map (some r)]:=Blk.new w 160 [.map (some r)];refine q1q (hm.ext hB) (by omega) (hb.cell 0 rfl) λq w' hq hB'=>?_;exact hK q w' (hq.base (by omega)) (hB.trans (hB'.mono (by omega)))
theorem zdj {m:Nat} (h:1<=m):((m:Int).tmod 8==0)=qxy m:=by
 unfold qxy;rw [show ((m:Int).tmod 8)=((m%8:Nat):Int) by rw [Int.ofNat_tmod];rfl];rw [dTq (by omega),Bool.true_and];by_cases e:m%8=0
 ·rw [e];rfl
 ·rw [dFq e];simp;omega
theorem q4a (h:StopsM w g r B) (hl:B.length<=1000) (cols:Int) {K:Int->Ub} (hE:(cols<1\/1000<cols)->K 1 w)
  (hK:∀w',1<=cols->cols<=1000->StopsM w' g r (ZP B cols.toNat)->Chg (λk=>k=g\/k=r) w w'->K 0 w'):QO (some ⟨g,0,none⟩) cols w K:=by
 refine qgb _ _ ?_;refine jpO λJ hJ=>?_;refine cO (λh1=>hE (.inl (oTq h1))) λh1=>?_;refine cO (λh2=>hE (.inr (oTq h2))) λh2=>?_;have h1:=oFq h1;have h2:=oFq h2;obtain ⟨n,rfl⟩:∃n:Nat,cols=n:=⟨cols.toNat,by omega⟩;rw [toNat_natCast] at hK;refine hJ _ _ ?_;refine Zj (lI (x:=(B.length:Int)) (h.blk.cells 0 _ rfl) ?_);refine lpR (λ(s:Int×Unit) w2=>∃m:Nat,s.1=m/\1<=m/\B.length<=m/\(m<=n\/m<=B.length\/m=1)/\Blk w2 g Zm [.int .i64 (B.length:Int),.map (some r)]/\zP q76 w2 r (keysB (ZP B m))/\Chg (λk=>k=r) w w2)
  (λs=>n-s.1.toNat) ?_ ?_
 ·have hm0:∃m:Nat,(if (1:Int)>(B.length:Int) then (1:Int) else (B.length:Int))=m/\1<=m/\B.length<=m/\(m<=B.length\/m=1)/\keysB (ZP B m)=keysB B:=by
   split
   ·exact ⟨1,rfl,le_refl _,by omega,.inr rfl,zij (by omega)⟩
   ·exact ⟨B.length,rfl,by omega,le_refl _,.inl (le_refl _),by rw [zez]⟩
  obtain ⟨m,e,hm1,hm2,hm3,hm4⟩:=hm0;exact ⟨m,e,hm1,hm2,.inr hm3,h.blk,by rw [hm4];exact h.map,Chg.refl _ _⟩
 rintro ⟨i,u⟩ w2 ⟨m,hi,hm1,hm2,hm3,hb2,hmp2,hc2⟩ I hI;dsimp only at hi ⊢;subst hi;have hne:=hmp2.ne_blk hb2;by_cases hlt:m<n
 ·refine cT (by simp;omega) ⟨by decide,?_⟩;rw [zdj hm1,zgv (by omega)];refine cO (λhd=>?_) λhd=>?_
  ·refine Zj (xP (x:=some r) (hb2.cells 1 _ rfl) (q5p hmp2 (by omega) λw3 hm hc hs=>hI _ _ ⟨m+1,by simp,by omega,by omega,.inl (by omega),hb2.chg hc (λe=>hne e.symm),?_,hc2.trans hc λi _ hi=>hi⟩ (by simp;omega)));rw [<-(q2n hm2).1 hd];exact hm
  ·refine hI _ _ ⟨m+1,by simp,by omega,by omega,.inl (by omega),hb2,?_,hc2⟩ (by simp;omega);rw [<-(q2n hm2).2 hd];exact hmp2
 ·refine cF (by simp;omega) ?_;have hmle:(keysB (ZP B m)).length<=1000:=by
   have:=zk3 (ZP B m);rw [resz_length] at this;omega
  refine zjw hb2 hmp2 hmle λq w4 hq hB4=>?_;obtain ⟨P,hP⟩:∃P,keysB (ZP B m)=P:=⟨_,rfl⟩;have hsP:Srt P:=by rw [<-hP];exact yu _
  rw [hP] at hmp2 hq hmle;have hcut:P.filter (λp=>decide (p.1<(n:Int)))=keysB (ZP B n):=by rw [<-hP];exact zis (by omega)
  have hqn:=hq.rd.n;rw [List.length_map] at hqn;have hlt2:=hb2.lt;have hlr:=hmp2.lt;refine lpR (λ(s:Int×Unit) w5=>∃k:Nat,s.1=k/\k<=P.length/\Blk w5 g Zm [.int .i64 (B.length:Int),.map (some r)]/\Go.Vc.Own jG w5 w2.heap.size q (P.map (·.1))/\Chg (λk=>k=r) w2 w5 /\
    ∃L,zP q76 w5 r L/\∀a,(a,())∈L↔(a,())∈P/\(a<n\/a ∉ (P.map (·.1)).take k))
   (λs=>P.length-s.1.toNat) ⟨0,rfl,zero_le _,hb2.ext hB4,hq,Chg.of_ext hB4,P,hmp2.ext hB4,λa=>by simp⟩ ?_
  rintro ⟨i,u⟩ w5 ⟨k,hi,hk,hb5,hq5,hc5,L,hL,hmem⟩ I2 hI2;dsimp only at hi ⊢;subst hi;have hne5:=hL.ne_blk hb5;by_cases hlk:k<P.length
  ·refine cT (by simp;omega) ?_;refine hq5.rd.ix (k:=1) rfl (by omega) (by simp;omega) λhcell=>?_;obtain ⟨x,hx,hx'⟩:=Go.Vc.get_of (xs:=P.map (·.1)) (k:=k) (by simpa using hlk);rw [hx' _] at hcell;refine lI (x:=x) (by simpa using hcell 0 _ rfl) ?_;have htk:(P.map (·.1)).take (k+1)=(P.map (·.1)).take k++[x]:=by rw [List.take_add_one,hx];rfl
   rw [zgv (by omega)];refine cO (λhge=>?_) λhge=>?_
   ·have hge:=oTq hge;refine Zj (xP (x:=some r) (hb5.cells 1 _ rfl) (q8o hL x λv w6 hm6 hc6 hs6=>hI2 _ _ ⟨k+1,by simp,by omega,hb5.chg hc6 (λe=>hne5 e.symm),hq5.chg hc6 (λj hj e=>?_),hc5.trans hc6 λi _ hi=>hi,_,hm6,λa=>?_⟩ (by simp;omega)))
    ·have:=(hq5.lt j hj).1;omega
    ·rw [qlc,hmem a,htk,mem_append,mem_singleton];constructor
     ·rintro ⟨hne,hp,ho⟩;exact ⟨hp,ho.imp id λho hh=>hh.elim ho hne⟩
     ·rintro ⟨hp,ho⟩;refine ⟨λe=>?_,hp,ho.imp id λho hh=>ho (.inl hh)⟩;rcases ho with ho | ho
      ·omega
      ·exact ho (.inr e)
   ·have hge:=oFq hge;refine hI2 _ _ ⟨k+1,by simp,by omega,hb5,hq5,hc5,L,hL,λa=>?_⟩ (by simp;omega);rw [hmem a,htk,mem_append,mem_singleton];constructor
    ·rintro ⟨hp,ho⟩;refine ⟨hp,?_⟩;by_cases e:a=x
     ·exact .inl (by omega)
     ·exact ho.imp id λho hh=>hh.elim ho e
    ·rintro ⟨hp,ho⟩;exact ⟨hp,ho.imp id λho hh=>ho (.inl hh)⟩
  ·refine cF (by simp;omega) (Zj ?_);rw [add_zero];refine qB hb5 (by simp) λw7 hb7 hg7 hs7=>?_;have hL':L=keysB (ZP B n):=by
    rw [<-hcut];refine qry hL.srt (hsP.filter _) λa=>?_;rw [hmem a,List.mem_filter,List.take_of_length_le (by simp;omega)];constructor
    ·rintro ⟨hp,ho⟩;refine ⟨hp,?_⟩;rcases ho with ho | ho
     ·simpa using ho
     ·exact absurd (List.mem_map.2 ⟨_,hp,rfl⟩) ho
    ·rintro ⟨hp,ho⟩;exact ⟨hp,.inl (by simpa using ho)⟩
   rw [hL'] at hL;refine hK w7 (by omega) (by omega) ⟨by rw [resz_length];exact hb7,hL.chg (Go.Vc.Chg.gg hg7) hne5⟩ ?_;exact ((q48 hc2 (S:=λk=>k=g\/k=r) (.inr rfl)).trans (q48 hc5 (S:=λk=>k=g\/k=r) (.inr rfl)) λi _ hi=>hi).trans (q48 (Go.Vc.Chg.gg hg7) (S:=λk=>k=g\/k=r) (.inl rfl)) λi _ hi=>hi
theorem zf4 (cols:Int) {w:World} {K:Option Addr->Int->Ub} (hE:∀w',Uc w w'->(cols<1\/1000<cols)->K none 1 w')
  (hK:∀g r w',1<=cols->cols<=1000->w.heap.size<=g->w.heap.size<=r->StopsM w' g r (ZP [] cols.toNat)->Uc w w'->K (some ⟨g,0,none⟩) 0 w'):qp4 cols w K:=by
 refine q0q _ ?_;unfold quk nwM;have hB1:Uc w (w.alloc (.map #[] 0)):=(Below.refl _ w).alloc (le_refl _) _;have hs1:(w.alloc (.map #[] 0)).heap.size=w.heap.size+1:=by show (w.heap.push _).size=_;simp
 refine nwb λw2 hb2 hB2 hs2=>?_;have h2:StopsM w2 (w.alloc (.map #[] 0)).heap.size w.heap.size []:=⟨hb2,(zP.new w).ext hB2⟩;have hB12:=hB1.trans (hB2.mono (by omega));refine q4a h2 (by simp) cols (λhc=>cT rfl (hE w2 hB12 hc)) λw3 h1 h2' h3 hc3=>cF rfl ?_;refine hK _ _ w3 h1 h2' (by omega) (le_refl _) h3 (hB12.trans (hc3.below (by omega) λi hi e=>?_));rcases e with e | e<;>omega
end
def w64 (x:Int):Int:=i64.wrap x
abbrev Cur:=qA
abbrev Sav:=vB
def Kw:Cur:=⟨0,0,false,⟨0,0,0⟩,false,⟨66,66⟩,0⟩
def qji:Sav:=⟨⟨0,0,false,⟨0,0,0⟩,false,⟨0,0⟩,0⟩,false⟩
structure Sc where
 g0:GS
 g1:GS
 alt:Bool
 c:Cur
 s0:Sav
 s1:Sav
 modes:List (Int×Bool)
 priv:List (Int×Bool)
 top:Int
 past:Int
 stops:List Bool
 char:Int
 areas:List zZ
namespace Sc
def g (S:Sc):GS:=if S.alt then S.g1 else S.g0
def withG (S:Sc) (G:GS):Sc:=if S.alt then { S with g1:=G } else { S with g0:=G }
def mode (S:Sc) (n:Int):Bool:=(zA S.modes n).getD false
def pmode (S:Sc) (n:Int):Bool:=(zA S.priv n).getD false
def blank (S:Sc):vD:=⟨0,S.c.A.Bg,0⟩
def dry (S:Sc):Sc:={ S with c:={ S.c with Wrap:=false } }
def setCol (S:Sc) (col:Int):Sc:={ S with c:={ S.c with Col:=col } }
end Sc
def q6o (v lo hi:Int):Int:=if hi<(if lo>v then lo else v) then hi else (if lo>v then lo else v)
namespace Sc
def to (S:Sc) (row col:Int):Sc:={ S with c:={ S.c with Row:=q6o row 0 (w64 ((S.g.rows:Int)-1)),Col:=q6o col 0 (w64 ((S.g.cols:Int)-1)),Wrap:=false } }
def scroll (S:Sc) (top past n:Int):Sc:=S.withG (vN S.g top past n S.blank)
def index (S:Sc):Sc:=if S.c.Row=w64 (S.past-1) then S.dry.scroll S.top S.past 1 else S.dry.to (w64 (S.c.Row+1)) S.c.Col
def change (S:Sc) (f:List qU->List qU):Sc:=if 0<=S.c.Row/\S.c.Row<(S.g.rows:Int) then S.withG { S.g with L:=S.g.L.set S.c.Row.toNat (ZB (f (S.g.L.getD S.c.Row.toNat [])) S.g.cols) } else S
end Sc
def isW (r:Int):Bool:=decide (0<=r) && decide (r<=1114111) && (decide (r<55296) || decide (r>57343))
def inW (r:Int) (l:List (Int×Int)):Bool:=l.any λp=>decide (p.1<=r) && decide (r<=p.2)
def qyj:List (Int×Int):=[(0,31),(127,159),(768,879),(8203,8207),(65024,65039)]
def q88:List (Int×Int):=[(4352,4447),(11904,42191),(44032,55203),(63744,64255),(65072,65135),(65280,65376),(65504,65510),(127744,129791),(131072,262141)]
def qbk (r:Int):Int:=if isW r=false\/inW r qyj=true then 0 else if inW r q88=true then 2 else 1
def qkn:List Int:=[160,9670,9618,9225,9228,9229,9226,176,177,9252,9227,9496,9488,9484,9492,9532,9146,9147,9472,9148,9149,9500,9508,9524,9516,9474,8804,8805,960,8800,163,183]
def qw7 (set b:Int):Int:=if set=48/\95<=b/\b<=126 then qkn.getD (b-95).toNat 0 else b
namespace Sc
def putL (S:Sc) (r w:Int) (xs:List qU):List qU:=q7c (if S.mode 4 then qhq xs S.c.Col w S.c.A else xs) S.c.Col r w S.c.A
def laid (S:Sc) (r w:Int) (wrap:Bool):Sc :=
 let S1:=(S.change (S.putL r w)).setCol (w64 (S.c.Col+w))
 if S1.c.Col>=(S.g.cols:Int) then { S1 with c:={ S1.c with Col:=w64 ((S.g.cols:Int)-1),Wrap:=wrap } } else S1
def next (S:Sc):Sc:=(S.to S.c.Row 0).index
def layX (S1:Sc) (wrap:Bool):Sc:=if S1.c.Wrap=true/\wrap=true then S1.next else S1
def layY (S2:Sc) (cols:Nat) (r w:Int) (wrap:Bool):Sc :=
 if w64 (S2.c.Col+w)>(cols:Int) then
  (if w>(cols:Int) then S2 else if wrap then S2.next.laid r w wrap else (S2.setCol (w64 ((cols:Int)-w))).laid r w wrap)
 else S2.laid r w wrap
def lay (S:Sc) (r:Int):Sc:=if qbk r=0 then S else layY (layX { S with char:=r } (S.pmode 7)).dry S.g.cols r (qbk r) (S.pmode 7)
def set2 (S:Sc) (i:Int):Int:=if i=0 then S.c.Sets.e0 else S.c.Sets.e1
def print (S:Sc) (r:Int):Sc:=if 0<=r/\r<128 then S.lay (qw7 (S.set2 S.c.Shift) r) else S.lay r
end Sc
def qyd (p:List Int) (i:Nat) (none:Int):Int:=match p[i]? with
 | some v=>if v=0 then none else v
 | Option.none=>none
namespace Sc
end Sc
def k1:List qU:=[⟨0,0,⟨0,0,0⟩⟩,⟨19968,1,⟨0,0,0⟩⟩,⟨0,2,⟨0,0,0⟩⟩,⟨0,0,⟨0,0,0⟩⟩]
def k2:List qU:=[⟨0,0,⟨0,0,0⟩⟩,⟨0,0,⟨0,0,0⟩⟩,⟨120,0,⟨1,0,0⟩⟩,⟨0,0,⟨0,0,0⟩⟩]
theorem zfx (n:Int) (a:vD):ZM (y1 n a)=true:=by
 unfold y1;split
 ·rfl
 ·have:=q1s (xs:=[]) rfl n.toNat a;simpa using this
def Plain (xs:List qU):Prop:=∀c∈xs,c.Kind=0
theorem q67 {xs:List qU} (h:Plain xs):ZM xs=true:=qfn.2 λk x hx=>by
 have h0:=h x (List.mem_of_getElem? hx);exact ⟨(Zq hx).2 (.inl h0),λe=>by rw [h0] at e;cases e⟩
theorem qgj {xs:List qU} (h:Plain xs):ju xs=xs:=zk0 (q67 h)
theorem qht (n:Nat) (a:vD):Plain (List.replicate n (xz a)):=λc hc=>by rw [List.eq_of_mem_replicate hc];rfl
theorem Q5 {xs ys:List qU} (h:Plain xs) (h':Plain ys):Plain (xs++ys):=λc hc=>by
 rcases mem_append.1 hc with h1 | h1
 ·exact h c h1
 ·exact h' c h1
theorem qa2 {xs:List qU} (h:Plain xs) (n:Nat):Plain (xs.take n):=λc hc=>h c (List.mem_of_mem_take hc)
theorem qqe {xs:List qU} (h:Plain xs) (n:Nat):Plain (xs.drop n):=λc hc=>h c (List.mem_of_mem_drop hc)
def a0:vD:=⟨0,0,0⟩
theorem zfw {xs:List qU} (h:Plain xs) {col k c:Int} {a:vD} (hc:qcx xs.length col k=c) (h0:c≠0) :
  qhq xs col k a=xs.take col.toNat++List.replicate c.toNat (xz a)++(xs.take (xs.length-c.toNat)).drop col.toNat:=by
 unfold qhq;rw [hc];dsimp only;rw [if_neg h0,qgj h];exact qgj (Q5 (Q5 (qa2 h _) (qht _ _)) (qqe (qa2 h _) _))
theorem zof {xs:List qU} (h:Plain xs) {col n:Int} {a:vD} (hcol:0<=col) (hcl:col<xs.length) (hn:1<=n) :
  delL (qhq xs col n a) col n a=xs.take (xs.length-(min n (xs.length-col)).toNat)++List.replicate (min n (xs.length-col)).toNat (xz a)/\(qhq xs col n a).length=xs.length:=by
 have hm:qcx xs.length col n=min n (xs.length-col):=by rw [qcx,if_neg (by omega)]
 have e1:=zfw h (a:=a) hm (by omega);have hc0:1<=min n ((xs.length:Int)-col):=by omega
 have hc1:min n ((xs.length:Int)-col)<=xs.length-col:=by omega
 generalize min n ((xs.length:Int)-col)=c at *;have hlen:(qhq xs col n a).length=xs.length:=by rw [e1];simp;omega
 refine ⟨?_,hlen⟩;have hp:Plain (qhq xs col n a):=by
  rw [e1];exact Q5 (Q5 (qa2 h _) (qht _ _)) (qqe (qa2 h _) _)
 have e2:delL (qhq xs col n a) col n a=ju ((qhq xs col n a).take col.toNat++(qhq xs col n a).drop (col+c).toNat++List.replicate c.toNat (xz a)):=by
  unfold delL;rw [hlen,hm];dsimp only;rw [if_neg (by omega),qgj hp]
 rw [e2,qgj (Q5 (Q5 (qa2 hp _) (qqe hp _)) (qht _ _))];congr 1;have hl1:(xs.take col.toNat).length=col.toNat:=by simp;omega
 have hl2:(xs.take col.toNat++List.replicate c.toNat (xz a)).length=(col+c).toNat:=by simp;omega
 have t1:(qhq xs col n a).take col.toNat=xs.take col.toNat:=by
  rw [e1,List.append_assoc,List.take_append_of_le_length (by omega),List.take_of_length_le (by omega)]
 have t2:(qhq xs col n a).drop (col+c).toNat=(xs.take (xs.length-c.toNat)).drop col.toNat:=by
  rw [e1,<-hl2,List.drop_left]
 rw [t1,t2];have:xs.take col.toNat=(xs.take (xs.length-c.toNat)).take col.toNat:=by rw [List.take_take,Nat.min_eq_left (by omega)]
 rw [this,List.take_append_drop]
theorem zkx {n:Nat} (h:n<=1000) (a:vD):y1 n a=List.replicate n (xz a):=by
 rw [y1,if_neg (by omega)];simp
theorem q4d {most:Nat} {old:List (List qU)} {x:List qU} (h:old.length<=most):(qik most old x).length<=most:=by
 unfold qik;split
 ·exact h
 ·split
  ·simp;omega
  ·simp;omega
theorem qyb {most:Nat} (xs:List (List qU)):∀{old:List (List qU)},old.length<=most->(K9 most old xs).length<=most:=by
 induction xs with
 | nil=>intro old h;exact h
 | cons x r ih=>intro old h;exact ih (q4d h)
theorem q84 {S:GS} {top past n:Int} {a:vD} (h:S.old.length<=S.most):(vN S top past n a).old.length<=S.most:=by
 unfold vN;split
 ·exact h
 ·split
  ·exact qyb _ h
  ·exact h
structure GOk (S:GS):Prop where
 len:S.L.length=S.rows
 rows:1<=S.rows/\S.rows<=1000
 cols:1<=S.cols/\S.cols<=1000
 L:∀xs∈S.L,ZM xs=true/\xs.length=S.cols/\okR xs
 old:∀xs∈S.old,xs.length<=1000/\okR xs
 olen:S.old.length<=S.most
 most:S.most<=16384
theorem zeo (xs:List qU) (n:Int):ZM (ZB xs n)=true:=by
 unfold ZB;dsimp only;split
 ·exact qxg _
 ·exact q1s (qxg _) _ _
theorem q1y {n:Nat} (h:n<=1000) (a:vD):ZM (y1 n a)=true/\(y1 n a).length=n/\okR (y1 n a):=by
 refine ⟨zfx _ _,q8g h a,?_⟩;rw [zkx h];exact qo4 _ _
theorem zi8 {xs:List qU} {n:Nat} (h0:n<=1000) (h:okR xs):ZM (ZB xs n)=true/\(ZB xs n).length=n/\okR (ZB xs n):=by
 refine ⟨zeo _ _,?_,zjj h _⟩;rw [q8x];omega
theorem zf3 {most:Nat} {old:List (List qU)} {x y:List qU} (h:y∈qik most old x):y∈old\/y=x:=by
 unfold qik at h;split at h
 ·exact .inl h
 ·split at h
  ·rcases mem_append.1 h with h | h
   ·exact .inl h
   ·exact .inr (mem_singleton.1 h)
  ·rcases mem_append.1 h with h | h
   ·exact .inl (List.mem_of_mem_tail h)
   ·exact .inr (mem_singleton.1 h)
theorem q5w {most:Nat} (xs:List (List qU)):∀{old:List (List qU)} {y:List qU},y∈K9 most old xs->y∈old\/y∈xs:=by
 induction xs with
 | nil=>intro old y h;exact .inl h
 | cons x r ih =>
  intro old y h;rcases ih (old:=qik most old x) h with h | h
  ·rcases zf3 h with h | h
   ·exact .inl h
   ·exact .inr (by simp [h])
  ·exact .inr (by simp [h])
section
variable {S:GS}
theorem GOk.set (h:GOk S) (i:Nat) {xs:List qU} (hx:ZM xs=true/\xs.length=S.cols/\okR xs):GOk { S with L:=S.L.set i xs }:=by
 refine ⟨by show (S.L.set i xs).length=_;rw [List.length_set];exact h.len,h.rows,h.cols,λys hy=>?_,h.old,h.olen,h.most⟩;rcases List.mem_or_eq_of_mem_set hy with hy | hy
 ·exact h.L ys hy
 ·rw [hy];exact hx
theorem q68 {cols:Nat} {L:List (List qU)} {top past n:Int} {a:vD} {xs:List qU} (h:xs∈qgn cols L top past n a):xs∈L\/xs=y1 cols a:=by
 unfold qgn at h;dsimp only at h;split at h
 ·simp only [mem_append] at h;rcases h with ((h | h) | h) | h
  ·exact .inl (List.mem_of_mem_take h)
  ·exact .inl (List.mem_of_mem_take (List.mem_of_mem_drop h))
  ·exact .inr (List.eq_of_mem_replicate h)
  ·exact .inl (List.mem_of_mem_drop h)
 ·simp only [mem_append] at h;rcases h with ((h | h) | h) | h
  ·exact .inl (List.mem_of_mem_take h)
  ·exact .inr (List.eq_of_mem_replicate h)
  ·exact .inl (List.mem_of_mem_take (List.mem_of_mem_drop h))
  ·exact .inl (List.mem_of_mem_drop h)
theorem GOk.scroll (h:GOk S) (top past n:Int) (a:vD):GOk (vN S top past n a):=by
 obtain ⟨hl,hr,hc,hm⟩:=qa4 (top:=top) (past:=past) (n:=n) (a:=a) h.len;have hold:=q84 (top:=top) (past:=past) (n:=n) (a:=a) h.olen;refine ⟨by rw [hl,hr],by rw [hr];exact h.rows,by rw [hc];exact h.cols,λxs hx=>?_,λxs hx=>?_,by rw [hm];exact hold,by rw [hm];exact h.most⟩
 ·rw [hc];have:xs∈S.L\/xs=y1 S.cols a:=by
   unfold vN at hx;split at hx
   ·exact .inl hx
   ·split at hx<;>exact q68 hx
  rcases this with hx | rfl
  ·exact h.L xs hx
  ·exact q1y h.cols.2 a
 ·have:xs∈S.old\/xs∈S.L:=by
   unfold vN at hx;split at hx
   ·exact .inl hx
   ·split at hx
    ·rcases q5w _ hx with hx | hx
     ·exact .inl hx
     ·exact .inr (List.mem_of_mem_take hx)
    ·exact .inl hx
  rcases this with hx | hx
  ·exact h.old xs hx
  ·obtain ⟨_,h2,h3⟩:=h.L xs hx;exact ⟨by rw [h2];exact h.cols.2,h3⟩
theorem GOk.new {rows cols most:Nat} (hr:1<=rows/\rows<=1000) (hc:1<=cols/\cols<=1000) (hm:most<=16384):GOk (gs0 rows cols most):=by
 refine ⟨by simp [gs0],hr,hc,λxs hx=>?_,(λxs hx=>by cases hx),zero_le _,hm⟩;rw [List.eq_of_mem_replicate hx];exact q1y hc.2 _
end
theorem GridM.ty {w:World} {base:Nat} {f:Foot} {S:GS} (h:GridM w base f S):∀k,x6 f k->∃t cs,Blk w k t cs/\(t=yh\/t=qY\/t=zr):=by
 obtain ⟨ls,ho,hl⟩:=h.row;obtain ⟨at_,gone,ls',xss,hb,ho',hl',hbr,e,hm,ha⟩:=h.ring;rintro k (rfl | rfl | hk | hk)
 ·exact ⟨_,_,h.blk,.inl rfl⟩
 ·exact ⟨_,_,hb,.inr (.inl rfl)⟩
 ·obtain ⟨cs,hcs⟩:=ho.blk_t hk;exact ⟨_,_,hcs,.inr (.inr rfl)⟩
 ·obtain ⟨cs,hcs⟩:=ho'.blk_t hk;exact ⟨_,_,hcs,.inr (.inr rfl)⟩
set_option maxRecDepth 400000
def q39:Bool->Value:=λb=>.bool b
structure ScF where
 f0:Foot
 f1:Foot
 tg:Nat
 tr:Nat
 mm:Nat
 mp:Nat
 ar:Slc
def ScF.f (F:ScF) (alt:Bool):Foot:=if alt then F.f1 else F.f0
def ScF.put (F:ScF) (alt:Bool) (f:Foot):ScF:=if alt then { F with f1:=f } else { F with f0:=f }
def scX (F:ScF) (S:Sc):qC:=⟨⟨some ⟨F.f0.g,0,none⟩,some ⟨F.f1.g,0,none⟩⟩,if S.alt then 1 else 0,S.c,⟨S.s0,S.s1⟩,some F.mm,some F.mp,S.top,S.past,some ⟨F.tg,0,none⟩,S.char,F.ar⟩
def scS (g:Nat) (F:ScF) (k:Nat):Prop:=k=g\/x6 F.f0 k\/x6 F.f1 k\/k=F.tg\/k=F.tr\/k=F.mm\/k=F.mp\/F.ar.blk=some k
structure ScOk (S:Sc):Prop where
 g0:GOk S.g0
 g1:GOk S.g1
 rows:S.g1.rows=S.g0.rows
 cols:S.g1.cols=S.g0.cols
 row:0<=S.c.Row/\S.c.Row<(S.g0.rows:Int)
 col:0<=S.c.Col/\S.c.Col<(S.g0.cols:Int)
 shift:S.c.Shift=0\/S.c.Shift=1
 sh0:S.s0.c.Shift=0\/S.s0.c.Shift=1
 sh1:S.s1.c.Shift=0\/S.s1.c.Shift=1
 top:0<=S.top/\S.top<S.past/\S.past<=(S.g0.rows:Int)
 marg:2<=S.g0.rows->S.top+2<=S.past
 stops:S.stops.length=S.g0.cols
structure ScM (w:World) (base g:Nat) (F:ScF) (S:Sc):Prop where
 blk:Blk w g zw (qC.rep.cells (scX F S))
 hg:base<=g
 g0:GridM w base F.f0 S.g0
 g1:GridM w base F.f1 S.g1
 st:StopsM w F.tg F.tr S.stops
 hst:base<=F.tg/\base<=F.tr
 mo:zP q39 w F.mm S.modes
 pr:zP q39 w F.mp S.priv
 hm:base<=F.mm/\base<=F.mp
 dm:F.mm≠F.mp/\F.tr≠F.mm/\F.tr≠F.mp
 ar:Go.Vc.Own qnp w base F.ar S.areas
 dg:∀k,x6 F.f0 k->¬x6 F.f1 k
 ok:ScOk S
section
variable {w w':World} {base g:Nat} {F:ScF} {S S':Sc}
theorem qwt {f:Foot} {G:GS} (h:GridM w base f G) {k:Nat} (hk:x6 f k) {t:TypeId} {cs:List Value} (hb:Blk w k t cs):t=yh\/t=qY\/t=zr:=by
 obtain ⟨t',cs',hb',ht⟩:=h.ty k hk;by_cases e:t=t'
 ·rw [e];exact ht
 ·exact absurd rfl (hb.ne_t hb' e)
theorem KI {V:Type} {enc:V->Value} {r:Nat} {L:List (Int×V)} (h:zP enc w r L) {k:Nat} {t:TypeId} {cs:List Value} (hb:Blk w k t cs):k≠r:=λe=>h.ne_blk hb e.symm
theorem ScM.of_g (h:ScM w base g F S):∀k,(x6 F.f0 k\/x6 F.f1 k\/k=F.tg\/k=F.tr\/k=F.mm\/k=F.mp\/F.ar.blk=some k)->k≠g:=by
 rintro k (hk | hk | rfl | rfl | rfl | rfl | hk) rfl
 ·have:=qwt h.g0 hk h.blk;revert this;decide
 ·have:=qwt h.g1 hk h.blk;revert this;decide
 ·exact h.blk.ne_t h.st.blk (by decide) rfl
 ·exact KI h.st.map h.blk rfl
 ·exact KI h.mo h.blk rfl
 ·exact KI h.pr h.blk rfl
 ·obtain ⟨cs,hcs⟩:=h.ar.blk_t hk;exact h.blk.ne_t hcs (by decide) rfl
theorem ScM.gridF (h:ScM w base g F S) (alt:Bool):∃G,GridM w base (F.f alt) G:=by
 cases alt
 ·exact ⟨_,h.g0⟩
 ·exact ⟨_,h.g1⟩
theorem ScM.of_grid (h:ScM w base g F S) (alt:Bool):∀k,x6 (F.f alt) k->k≠g/\¬x6 (F.f (!alt)) k/\k≠F.tg/\k≠F.tr/\k≠F.mm/\k≠F.mp/\F.ar.blk≠some k:=by
 intro k hk;obtain ⟨G,hG⟩:=h.gridF alt;obtain ⟨t,cs,hb,ht⟩:=hG.ty k hk;refine ⟨h.of_g k (by cases alt;exact .inl hk;exact .inr (.inl hk)),?_,?_,KI h.st.map hb,KI h.mo hb,KI h.pr hb,?_⟩
 ·cases alt
  ·exact h.dg k hk
  ·exact λhk'=>h.dg k hk' hk
 ·rintro rfl;exact hb.ne_t h.st.blk (by rcases ht with rfl | rfl | rfl<;>decide) rfl
 ·intro e;obtain ⟨cs',hcs⟩:=h.ar.blk_t e;exact hb.ne_t hcs (by rcases ht with rfl | rfl | rfl<;>decide) rfl
theorem ScM.notC (h:ScM w base g F S):∀k cs,scS g F k->¬Blk w k qR cs:=by
 rintro k cs (rfl | hk | hk | rfl | rfl | rfl | rfl | hk) hb
 ·exact h.blk.ne_t hb (by decide) rfl
 ·exact h.g0.notC k cs hk hb
 ·exact h.g1.notC k cs hk hb
 ·exact h.st.blk.ne_t hb (by decide) rfl
 ·exact KI h.st.map hb rfl
 ·exact KI h.mo hb rfl
 ·exact KI h.pr hb rfl
 ·obtain ⟨cs',hcs⟩:=h.ar.blk_t hk;exact hcs.ne_t hb (by decide) rfl
theorem ScM.keep {T:Nat->Prop} (h:ScM w base g F S) (hc:Chg T w w') (hT:∀k,scS g F k->¬T k) (hC:∀k cs,T k->¬Blk w k qR cs):ScM w' base g F S :=
 ⟨h.blk.chg hc (hT _ (.inl rfl)),h.hg,h.g0.chg hc (λk hk=>hT k (.inr (.inl hk))) hC,h.g1.chg hc (λk hk=>hT k (.inr (.inr (.inl hk)))) hC,
  h.st.keep hc (hT _ (.inr (.inr (.inr (.inl rfl))))) (hT _ (.inr (.inr (.inr (.inr (.inl rfl)))))),h.hst,h.mo.chg hc (hT _ (.inr (.inr (.inr (.inr (.inr (.inl rfl))))))),
  h.pr.chg hc (hT _ (.inr (.inr (.inr (.inr (.inr (.inr (.inl rfl)))))))),h.hm,h.dm,h.ar.chg hc λk hk=>hT k (.inr (.inr (.inr (.inr (.inr (.inr (.inr hk))))))),h.dg,h.ok⟩
theorem ScM.ext (h:ScM w base g F S) (hB:Uc w w'):ScM w' base g F S:=h.keep (Chg.of_ext (S:=λ_=>False) hB) (λ_ _ h=>h) λ_ _ h=>h.elim
theorem ScM.drew (h:ScM w base g F S):ScM w.drew base g F S:=h.ext ((Below.refl _ w).drew)
theorem ScM.below (h:ScM w base g F S):∀k,scS g F k->base<=k/\k<w.heap.size:=by
 rintro k (rfl | hk | hk | rfl | rfl | rfl | rfl | hk)
 ·exact ⟨h.hg,h.blk.lt⟩
 ·exact h.g0.below k hk
 ·exact h.g1.below k hk
 ·exact ⟨h.hst.1,h.st.blk.lt⟩
 ·exact ⟨h.hst.2,h.st.map.lt⟩
 ·exact ⟨h.hm.1,h.mo.lt⟩
 ·exact ⟨h.hm.2,h.pr.lt⟩
 ·exact h.ar.lt k hk
theorem ScM.struct (h:ScM w base g F S) (hc:Chg (λk=>k=g) w w') (hb:Blk w' g zw (qC.rep.cells (scX F S'))) (e0:S'.g0=S.g0) (e1:S'.g1=S.g1) (es:S'.stops=S.stops) (em:S'.modes=S.modes) (ep:S'.priv=S.priv) (ea:S'.areas=S.areas) (ok:ScOk S'):ScM w' base g F S':=by
 have hC:∀k cs,k=g->¬Blk w k qR cs:=λk cs hk hcs=>h.notC k cs (.inl hk) hcs;refine ⟨hb,h.hg,?_,?_,?_,h.hst,?_,?_,h.hm,h.dm,?_,h.dg,ok⟩
 ·rw [e0];exact h.g0.chg hc (λk hk=>h.of_g k (.inl hk)) hC
 ·rw [e1];exact h.g1.chg hc (λk hk=>h.of_g k (.inr (.inl hk))) hC
 ·rw [es];exact h.st.keep hc (h.of_g _ (.inr (.inr (.inl rfl)))) (h.of_g _ (.inr (.inr (.inr (.inl rfl)))))
 ·rw [em];exact h.mo.chg hc (h.of_g _ (.inr (.inr (.inr (.inr (.inl rfl))))))
 ·rw [ep];exact h.pr.chg hc (h.of_g _ (.inr (.inr (.inr (.inr (.inr (.inl rfl)))))))
 ·rw [ea];exact h.ar.chg hc λk hk=>h.of_g k (.inr (.inr (.inr (.inr (.inr (.inr hk))))))
theorem ScM.grid (h:ScM w base g F S) {f':Foot} {G':GS} (hg:GridM w' base f' G') (hto:(F.f S.alt).to f' w.heap.size) (hc:Chg (x6 (F.f S.alt)) w w') (ok:ScOk (S.withG G')):ScM w' base g (F.put S.alt f') (S.withG G'):=by
 have hC:∀k cs,x6 (F.f S.alt) k->¬Blk w k qR cs:=λk cs hk hcs=>h.notC k cs (by cases hS:S.alt<;>rw [hS] at hk;exact .inr (.inl hk);exact .inr (.inr (.inl hk))) hcs;have hp:=h.of_grid S.alt;have hstep:∀k,x6 f' k->x6 (F.f S.alt) k\/w.heap.size<=k:=hto.old;have hgf:=hto.g;have hblk:=h.blk.chg hc λe=>(hp g e).1 rfl;have hst:=h.st.keep hc (λe=>(hp _ e).2.2.1 rfl) (λe=>(hp _ e).2.2.2.1 rfl);have hmo:=h.mo.chg hc (λe=>(hp _ e).2.2.2.2.1 rfl);have hpr:=h.pr.chg hc (λe=>(hp _ e).2.2.2.2.2.1 rfl);have har:=h.ar.chg hc λk hk e=>(hp k e).2.2.2.2.2.2 hk;cases hS:S.alt
 ·rw [hS] at hp hstep hgf hc hC;have e1:S.withG G'={ S with g0:=G' }:=by unfold Sc.withG;rw [hS];rfl
  rw [e1] at ok ⊢;refine ⟨?_,h.hg,hg,h.g1.chg hc (λk hk e=>(hp k e).2.1 hk) hC,hst,h.hst,hmo,hpr,h.hm,h.dm,har,λk hk hk'=>?_,ok⟩
  ·have e2:scX (F.put false f') { S with g0:=G' }=scX F S:=by
    unfold scX ScF.put;dsimp only;rw [if_neg (by decide)];dsimp only;rw [hgf];rfl
   rw [e2];exact hblk
  ·rcases hstep k hk with h2 | h2
   ·exact h.dg k h2 hk'
   ·have:=(h.g1.below k hk').2;omega
 ·rw [hS] at hp hstep hgf hc hC;have e1:S.withG G'={ S with g1:=G' }:=by unfold Sc.withG;rw [hS];rfl
  rw [e1] at ok ⊢;refine ⟨?_,h.hg,h.g0.chg hc (λk hk e=>(hp k e).2.1 hk) hC,hg,hst,h.hst,hmo,hpr,h.hm,h.dm,har,λk hk hk'=>?_,ok⟩
  ·have e2:scX (F.put true f') { S with g1:=G' }=scX F S:=by
    unfold scX ScF.put;dsimp only;rw [if_pos rfl];dsimp only;rw [hgf];rfl
   rw [e2];exact hblk
  ·rcases hstep k hk' with h2 | h2
   ·exact h.dg k hk h2
   ·have:=(h.g0.below k hk).2;omega
structure ScT (base g:Nat) (w:World) (F F':ScF) (S':Sc) (w':World):Prop where
 m:ScM w' base g F' S'
 old:∀k,scS g F' k->scS g F k\/w.heap.size<=k
 chg:Chg (scS g F) w w'
theorem ScT.refl (h:ScM w base g F S):ScT base g w F F S w:=⟨h,λk hk=>.inl hk,Chg.refl _ _⟩
theorem ScT.trans {w1 w2:World} {F1 F2:ScF} {S1 S2:Sc} (h:ScT base g w F F1 S1 w1) (h2:ScT base g w1 F1 F2 S2 w2):ScT base g w F F2 S2 w2:=by
 have hs:=h.chg.size;refine ⟨h2.m,λk hk=>?_,h.chg.trans h2.chg λi hi hk=>?_⟩
 ·rcases h2.old k hk with h3 | h3
  ·exact h.old k h3
  ·exact .inr (by omega)
 ·rcases h.old i hk with h3 | h3
  ·exact h3
  ·omega
theorem ScT.ext {w1 w2:World} {F1:ScF} {S1:Sc} (h:ScT base g w F F1 S1 w1) (hB:Uc w1 w2):ScT base g w F F1 S1 w2 :=
 h.trans ⟨h.m.ext hB,λk hk=>.inl hk,Chg.of_ext hB⟩
theorem ScT.of_ext (h:ScM w base g F S) (hB:Uc w w'):ScT base g w F F S w':=(ScT.refl h).ext hB
theorem ScT.drew {F1:ScF} {S1:Sc} (h:ScT base g w F F1 S1 w'):ScT base g w F F1 S1 w'.drew:=h.ext ((Below.refl _ w').drew)
theorem ScT.mk_struct (h:ScM w base g F S) (hc:Chg (λk=>k=g) w w') (hb:Blk w' g zw (qC.rep.cells (scX F S'))) (e0:S'.g0=S.g0) (e1:S'.g1=S.g1) (es:S'.stops=S.stops) (em:S'.modes=S.modes) (ep:S'.priv=S.priv) (ea:S'.areas=S.areas) (ok:ScOk S'):ScT base g w F F S' w' :=
 ⟨h.struct hc hb e0 e1 es em ep ea ok,λk hk=>.inl hk,hc.mono λi hi e=>.inl e⟩
theorem ScT.mk_grid (h:ScM w base g F S) {f':Foot} {G':GS} (hg:GridM w' base f' G') (hto:(F.f S.alt).to f' w.heap.size) (hc:Chg (x6 (F.f S.alt)) w w') (ok:ScOk (S.withG G')):ScT base g w F (F.put S.alt f') (S.withG G') w':=by
 refine ⟨h.grid hg hto hc ok,λk hk=>?_,hc.mono λi hi e=>?_⟩
 ·have hstep:=hto.old;revert hk hstep;unfold ScF.put ScF.f;cases S.alt
  ·rintro (rfl | hk | hk | hk) hstep
   ·exact .inl (.inl rfl)
   ·rcases hstep k hk with h2 | h2
    ·exact .inl (.inr (.inl h2))
    ·exact .inr h2
   ·exact .inl (.inr (.inr (.inl hk)))
   ·exact .inl (.inr (.inr (.inr hk)))
  ·rintro (rfl | hk | hk | hk) hstep
   ·exact .inl (.inl rfl)
   ·exact .inl (.inr (.inl hk))
   ·rcases hstep k hk with h2 | h2
    ·exact .inl (.inr (.inr (.inl h2)))
    ·exact .inr h2
   ·exact .inl (.inr (.inr (.inr hk)))
 ·revert e;unfold ScF.f;cases S.alt
  ·exact λe=>.inr (.inl e)
  ·exact λe=>.inr (.inr (.inl e))
theorem ScM.gOk (h:ScM w base g F S):GOk S.g:=by
 unfold Sc.g;cases S.alt
 ·exact h.ok.g0
 ·exact h.ok.g1
theorem ScM.gM (h:ScM w base g F S):GridM w base (F.f S.alt) S.g:=by
 unfold Sc.g ScF.f;cases S.alt
 ·exact h.g0
 ·exact h.g1
theorem ScOk.grows (h:ScOk S):S.g.rows=S.g0.rows/\S.g.cols=S.g0.cols:=by
 unfold Sc.g;cases S.alt
 ·exact ⟨rfl,rfl⟩
 ·exact ⟨h.rows,h.cols⟩
theorem ScOk.gOk (h:ScOk S):GOk S.g:=by
 unfold Sc.g;cases S.alt
 ·exact h.g0
 ·exact h.g1
end
theorem zq (w:World):Uc w w.drew:=(Below.refl _ w).drew
theorem zu {w w1 w2:World} (h:Uc w w1) (h2:Uc w1 w2):Uc w w2:=h.trans (h2.mono h.size)
theorem zbx {zs vs:List Value} (hl:vs.length=zs.length):putL zs 0 vs=vs:=by
 refine List.ext_getElem? λm=>?_;rw [VE vs zs 0 m (by omega)];by_cases hm:m<vs.length
 ·rw [if_pos (by omega)];rfl
 ·rw [if_neg (by omega),List.getElem?_eq_none (by omega),List.getElem?_eq_none (by omega)]
theorem qam {g:Nat} {t:TypeId} {vs us:List Value} {w:World} {K:Ub} (h:Blk w g t vs) (hl:us.length=vs.length) (hK:∀w',Blk w' g t us->Chg (λk=>k=g) w w'->w'.heap.size=w.heap.size->K w'):stK ⟨g,0,none⟩ us w K :=
 qB h (by omega) λw' hb hg hs=>hK w' (by rw [zbx hl] at hb;exact hb) (Chg.gg hg) hs
theorem q71 {r:Rep} {g:Nat} {t:TypeId} {vs us:List Value} {x:r.T} {w:World} {K:r.T->Ub} (h:Blk w g t vs) (hus:r.cells x=us) (hl:us.length=vs.length) (hK:∀w',Chg (λk=>k=g) w w'->w'.heap.size=w.heap.size->K x w') :
  stK ⟨g,0,none⟩ us w λw'=>ldS r ⟨g,0,none⟩ w' λy=>K y w' :=
 qam h hl λw' hb hc hs=>qy (x:=x) (by rw [hus];exact hb.cells) (hK w' hc hs)
theorem xg {w w1 w2:World} {g:Nat} (h:Uc w w1) (hc:Chg (λk=>k=g) w1 w2) (hg:w.heap.size<=g):Uc w w2 :=
 h.trans (hc.below h.size λi hi e=>by omega)
theorem zdb {v lo hi:Int} (h:lo<=hi):lo<=q6o v lo hi/\q6o v lo hi<=hi:=by
 unfold q6o;split<;>split at *<;>omega
theorem qz4 {x:Int} (h:-9223372036854775808<=x/\x<=9223372036854775807):w64 x=x:=qQ h
section
variable {S:Sc}
theorem ScOk.cur (h:ScOk S) {c:Cur} (hr:0<=c.Row/\c.Row<(S.g.rows:Int)) (hc:0<=c.Col/\c.Col<(S.g.cols:Int)) (hs:c.Shift=0\/c.Shift=1):ScOk { S with c:=c }:=by
 obtain ⟨e1,e2⟩:=h.grows;rw [e1] at hr;rw [e2] at hc;exact ⟨h.g0,h.g1,h.rows,h.cols,hr,hc,hs,h.sh0,h.sh1,h.top,h.marg,h.stops⟩
theorem ScOk.rowg (h:ScOk S):0<=S.c.Row/\S.c.Row<(S.g.rows:Int):=by rw [h.grows.1];exact h.row
theorem ScOk.colg (h:ScOk S):0<=S.c.Col/\S.c.Col<(S.g.cols:Int):=by rw [h.grows.2];exact h.col
theorem ScOk.bnd (h:ScOk S):1<=S.g.rows/\S.g.rows<=1000/\1<=S.g.cols/\S.g.cols<=1000:=⟨h.gOk.rows.1,h.gOk.rows.2,h.gOk.cols.1,h.gOk.cols.2⟩
theorem ScOk.to (h:ScOk S) (row col:Int):ScOk (S.to row col):=by
 have hb:=h.bnd;have e1:w64 ((S.g.rows:Int)-1)=(S.g.rows:Int)-1:=qz4 (by omega);have e2:w64 ((S.g.cols:Int)-1)=(S.g.cols:Int)-1:=qz4 (by omega);have h1:=zdb (v:=row) (lo:=0) (hi:=(S.g.rows:Int)-1) (by omega);have h2:=zdb (v:=col) (lo:=0) (hi:=(S.g.cols:Int)-1) (by omega);unfold Sc.to;rw [e1,e2];exact h.cur (by show 0<=q6o _ _ _/\_;dsimp only;omega) (by show 0<=q6o _ _ _/\_;dsimp only;omega) h.shift
theorem ScOk.dry (h:ScOk S):ScOk S.dry:=h.cur h.rowg h.colg h.shift
theorem ScOk.withG (h:ScOk S) {G:GS} (hG:GOk G) (hr:G.rows=S.g.rows) (hc:G.cols=S.g.cols):ScOk (S.withG G):=by
 obtain ⟨e1,e2⟩:=h.grows;unfold Sc.withG;split
 ·exact ⟨h.g0,hG,hr.trans e1,hc.trans e2,h.row,h.col,h.shift,h.sh0,h.sh1,h.top,h.marg,h.stops⟩
 ·have hr':=hr.trans e1;have hc':=hc.trans e2;refine ⟨hG,h.g1,by show S.g1.rows=G.rows;rw [hr',h.rows],by show S.g1.cols=G.cols;rw [hc',h.cols],?_,?_,h.shift,h.sh0,h.sh1,?_,?_,?_⟩
  ·show 0<=S.c.Row/\S.c.Row<(G.rows:Int);rw [hr'];exact h.row
  ·show 0<=S.c.Col/\S.c.Col<(G.cols:Int);rw [hc'];exact h.col
  ·show 0<=S.top/\S.top<S.past/\S.past<=(G.rows:Int);rw [hr'];exact h.top
  ·show 2<=G.rows->_;rw [hr'];exact h.marg
  ·show S.stops.length=G.cols;rw [hc'];exact h.stops
theorem ScOk.scroll (h:ScOk S) (top past n:Int):ScOk (S.scroll top past n):=by
 have hl:=qa4 (top:=top) (past:=past) (n:=n) (a:=S.blank) h.gOk.len;exact h.withG (h.gOk.scroll top past n S.blank) hl.2.1 hl.2.2.1
theorem zct (S:Sc) (G:GS):(S.withG G).g=G:=by
 unfold Sc.withG Sc.g;cases h:S.alt<;>simp
theorem zc0 (S:Sc) (G:GS):(S.withG G).c=S.c:=by unfold Sc.withG;split<;>rfl
end
section
variable {w:World} {base g:Nat} {F:ScF} {S:Sc}
theorem q5o {v lo hi:Int} {K:Int->Ub} (hK:K (q6o v lo hi) w):YC v lo hi w K:=by
 refine qv1 _ _ _ ?_;exact hK
theorem kQ {v lo hi:Int} {K:Bool->Ub} (hK:K (decide (lo<=v/\v<=hi)) w):ja v lo hi w K:=by
 refine qne _ _ _ ?_;refine cO (λe=>?_) λe=>?_
 ·have e:=oTq e;rw [show decide (lo<=v/\v<=hi)=decide (v<=hi) by simp;intro _;exact e] at hK;exact hK
 ·have e:=oFq e;rw [show decide (lo<=v/\v<=hi)=false by simp;omega] at hK;exact hK
theorem qqq {K:Option Addr->Ub} (h:ScM w base g F S) (hK:K (some ⟨(F.f S.alt).g,0,none⟩) w.drew):jf (some ⟨g,0,none⟩) w K:=by
 refine Vo _ ?_;simp only [onPtr_some];have hb:=h.drew.blk;refine lI (x:=if S.alt then 1 else 0) (hb.cells 2 _ rfl) ?_;revert hK;have hx:(scX F S).grids=⟨some ⟨F.f0.g,0,none⟩,some ⟨F.f1.g,0,none⟩⟩:=rfl;cases hS:S.alt
 ·intro hK;exact ⟨⟨by decide,by decide⟩,qK (x:=some ⟨F.f0.g,0,none⟩) (hb.cells 0 _ rfl) hK⟩
 ·intro hK;exact ⟨⟨by decide,by decide⟩,qK (x:=some ⟨F.f1.g,0,none⟩) (hb.cells 1 _ rfl) hK⟩
theorem qpc {K:Int->Int->Ub} (h:ScM w base g F S) (hK:K S.g.rows S.g.cols w.drew.drew):jo (some ⟨g,0,none⟩) w K:=by
 refine ZY _ ?_;exact qqq h (qz9 h.drew.gM hK)
theorem zal {K:vD->Ub} (h:ScM w base g F S) (hK:∀w',Uc w w'->K S.blank w'):xj (some ⟨g,0,none⟩) w K:=by
 refine qd0 _ ?_;simp only [onPtr_some];refine nwb λw1 h1 hB1 hs1=>?_;refine lI (x:=S.c.A.Bg) ((h.ext hB1).blk.cells 7 _ rfl) ?_;refine qam h1 rfl λw2 h2 hc2 hs2=>?_;exact qy (r:=qt.rep) (x:=S.blank) h2.cells (hK w2 (xg hB1 hc2 (le_refl _)))
theorem qwr {row col:Int} {K:Ub} (h:ScM w base g F S) (hK:∀w',ScT base g w F F (S.to row col) w'->K w'):xr (some ⟨g,0,none⟩) row col w K:=by
 refine qiz _ _ _ ?_;refine qpc h (q5o (q5o ?_));simp only [onPtr_some];have hT:=(ScT.refl h).drew.drew;rw [qH,qH];refine qB hT.m.blk (by simp [qC.rep]) λw4 hb4 hg4 hs4=>?_;rw [qH];refine qB hb4 (by simp [qC.rep,putL]) λw5 hb5 hg5 hs5=>?_;rw [qH];refine qB hb5 (by simp [qC.rep,putL]) λw6 hb6 hg6 hs6=>?_;have hc:Chg (λk=>k=g) w.drew.drew w6:=((Chg.gg hg4).trans (Chg.gg hg5) λi _ hi=>hi).trans (Chg.gg hg6) λi _ hi=>hi;exact hK w6 (hT.trans (ScT.mk_struct hT.m hc (S':=S.to row col) hb6 rfl rfl rfl rfl rfl rfl (h.ok.to row col)))
end
section
variable {w:World} {base g:Nat} {F:ScF} {S:Sc}
theorem ScM.base_le (h:ScM w base g F S):base<=w.heap.size:=by
 have:=h.below g (.inl rfl);omega
theorem q8q {top past n:Int} {K:Int->Ub} (h:ScM w base g F S) (hn:-9223372036854775808<=n/\n<=9223372036854775807) (hK:∀v F' w',ScT base g w F F' (S.scroll top past n) w'->K v w'):xp (some ⟨(F.f S.alt).g,0,none⟩) top past n S.blank w K:=by
 have hG:=h.gOk;refine q4w h.gM hG.len hG.rows.2 (by have:=hG.most;omega) h.base_le hn λf' w' hg hto hc=>?_;exact hK _ _ w' (ScT.mk_grid h hg hto hc (h.ok.scroll top past n))
theorem zkv {n top past:Int} {K:Int->Ub} (h:ScM w base g F S) (ht:top=S.top) (hp:past=S.past) (hn:-9223372036854775808<=n/\n<=9223372036854775807) (hK:∀v F' w',ScT base g w F F' (S.scroll S.top S.past n) w'->K v w') :
  jf (some ⟨g,0,none⟩) w λt18 w2=>w2.cell? ((⟨g,0,none⟩:Addr).add 38)=some (Ua past)/\w2.cell? ((⟨g,0,none⟩:Addr).add 37)=some (Ua top) /\
   xj (some ⟨g,0,none⟩) w2 λt28 w3=>w3.cell? ((⟨g,0,none⟩:Addr).add 38)=some (Ua past)/\w3.cell? ((⟨g,0,none⟩:Addr).add 37)=some (Ua top) /\
    xp t18 top past n t28 w3 K:=by
 subst ht hp;refine qqq h ⟨h.drew.blk.cells 38 _ rfl,h.drew.blk.cells 37 _ rfl,?_⟩;refine zal h.drew λw3 hB3=>?_;have h3:=h.drew.ext hB3;refine ⟨h3.blk.cells 38 _ rfl,h3.blk.cells 37 _ rfl,?_⟩;refine q8q h3 hn λv F' w' hT=>hK v F' w' ?_;exact ((ScT.refl h).drew.ext hB3).trans hT
theorem ScT.dry (h:ScM w base g F S) {w':World} (hb:Blk w' g zw (putL (qC.rep.cells (scX F S)) 5 [.bool false])) (hg:w.grownBy w' (some g)):ScT base g w F F S.dry w' :=
 ScT.mk_struct h (Chg.gg hg) hb rfl rfl rfl rfl rfl rfl h.ok.dry
theorem qp5 {K:Ub} (h:ScM w base g F S) (hK:∀F' w',ScT base g w F F' S.index w'->K w'):xm (some ⟨g,0,none⟩) w K:=by
 refine qdt _ ?_;simp only [onPtr_some];rw [qH,qH];refine qB h.blk (by simp [qC.rep]) λw1 hb1 hg1 hs1=>?_;have hT1:ScT base g w F F S.dry w1:=ScT.dry h hb1 hg1;have hd:=hT1.drew;refine lI (x:=S.c.Row) (hd.m.blk.cells 3 _ rfl) (lI (x:=S.past) (hd.m.blk.cells 38 _ rfl) ?_);have hdd:=hd.drew;unfold Sc.index at hK;refine cO (λe=>?_) λe=>?_
 ·have e:S.c.Row=w64 (S.past-1):=eq_of_beq e;rw [if_pos e] at hK;refine lI (x:=S.top) (hdd.m.blk.cells 37 _ rfl) (lI (x:=S.past) (hdd.m.blk.cells 38 _ rfl) ?_);exact zkv hdd.m rfl rfl (by decide) λv F' w' hT=>hK F' w' (hdd.trans hT)
 ·have e:¬S.c.Row=w64 (S.past-1):=beq_eq_false_iff_ne.1 e;rw [if_neg e] at hK;refine lI (x:=S.c.Row) (hdd.m.blk.cells 3 _ rfl) (lI (x:=S.c.Col) (hdd.m.blk.cells 4 _ rfl) ?_);exact qwr hdd.m λw' hT=>hK F w' (hdd.trans hT)
theorem q9l {K:Cur->Ub} (hK:∀w',Uc w w'->K Kw w'):qay w K:=by
 refine qsk ?_;unfold qil;refine nwb λw1 h1 hB1 hs1=>?_;exact q71 (r:=qA.rep) (x:=Kw) h1 rfl rfl λw2 hc2 hs2=>hK w2 (xg hB1 hc2 (le_refl _))
theorem q16 {S:Sc} (h:ScM w base g F S):q6 w ((⟨g,0,none⟩:Addr).add 3) (qA.rep.cells S.c):=by
 rw [qH];intro j v hj;have:(qC.rep.cells (scX F S))[3+j]?=some v:=by
  match j,hj with
  | 0,hj=>exact hj
  | 1,hj=>exact hj
  | 2,hj=>exact hj
  | 3,hj=>exact hj
  | 4,hj=>exact hj
  | 5,hj=>exact hj
  | 6,hj=>exact hj
  | 7,hj=>exact hj
  | 8,hj=>exact hj
  | 9,hj=>exact hj
  | j+10,hj=>cases hj
 have h2:=h.blk.cells (3+j) v this;rw [qH] at h2 ⊢;rw [show 0+3+j=0+(3+j) by omega];exact h2
theorem qu0 {K:Cur->Ub} (h:ScM w base g F S) (hK:∀w',Uc w w'->K S.c w'):xU (some ⟨g,0,none⟩) w K:=by
 refine qb8 _ ?_;simp only [onPtr_some];refine nwb λw1 h1 hB1 hs1=>?_;refine qy (r:=qA.rep) (x:=S.c) (q16 (h.ext hB1)) ?_;exact q71 (r:=qA.rep) (x:=S.c) h1 rfl rfl λw2 hc2 hs2=>hK w2 (xg hB1 hc2 (le_refl _))
theorem q82 {K:Bool->Ub} (h:ScM w base g F S) (hK:K S.alt w):vr (some ⟨g,0,none⟩) w K:=by
 refine qh3 _ ?_;simp only [onPtr_some];refine lI (x:=if S.alt then 1 else 0) (h.blk.cells 2 _ rfl) ?_;cases hS:S.alt<;>rw [hS] at hK<;>exact hK
end
def q64:El xu where
 cells:=xu.rep.cells
 t:=qcf
 k:=2
 pos:=by decide
 len _:=rfl
 one x v hv:=by
  simp only [xu.rep,mem_cons,List.mem_nil_iff,or_false] at hv;rcases hv with rfl | rfl<;>rfl
def zli:El Int where
 cells x:=[.int .i32 x]
 t:=yk
 k:=1
 pos:=by decide
 len _:=rfl
 one x v hv:=by
  simp only [mem_cons,List.mem_nil_iff,or_false] at hv;rcases hv with rfl
  rfl
def qn4 (l:List (Int×Int)):List xu:=l.map λp=>⟨p.1,p.2⟩
def inS (r:Int) (p:xu):Bool:=decide (p.lo<=r) && decide (r<=p.hi)
theorem q3b (r:Int) (l:List (Int×Int)):(qn4 l).any (inS r)=inW r l:=by
 unfold qn4 inW;rw [List.any_map];rfl
section
variable {w:World}
theorem zdr {r:Int} {l:Slc} {xs:List xu} {K:Bool->Ub} (hl:Rd q64 w l xs) (hxs:xs.length<=1000) (hK:∀w',Uc w w'->K (xs.any (inS r)) w'):qr0 r l w K:=by
 refine q8v _ _ ?_;refine lpR (λ(st:Int×Unit) w1=>∃k:Nat,st.1=(k:Int)/\k<=xs.length/\(xs.take k).any (inS r)=false/\Uc w w1) (λst=>xs.length-st.1.toNat) ⟨0,rfl,zero_le _,rfl,Below.refl _ _⟩ ?_;rintro ⟨i,u⟩ w1 ⟨k,hi,hk,hno,hB1⟩ I hI;dsimp only at hi ⊢;subst hi;rw [hl.n];refine cO (λe=>?_) λe=>?_
 ·have e:=oTq e;have hkl:k<xs.length:=by omega
  have hl1:=hl.ext hB1;have hm:=hl1.cm;have hn:=hl1.n;have hnc:=hl1.nc;have hx:xs[k]?=some xs[k]:=List.getElem?_eq_getElem hkl;refine hl1.ix (i:=(k:Int)) rfl (by omega) (by omega) λhc=>?_;rw [toNat_natCast];refine qy (r:=xu.rep) (x:=xs[k]) (hl1.at_ k _ hx) ?_;refine nwb λw2 h2 hB2 hs2=>qam h2 rfl λw3 h3 hc3 hs3=>?_;have hB3:Uc w w3:=zu hB1 (xg hB2 hc3 (le_refl _));have step:inS r xs[k]=false->I (i64.wrap ((k:Int)+1),()) w3:=by
   intro hf;rw [qQ (by omega)];refine hI _ _ ⟨k+1,by simp,by omega,?_,hB3⟩ (by dsimp only;omega);rw [List.take_add_one,hx,List.any_append,hno];simpa using hf
  have found:inS r xs[k]=true->K true w3:=by
   intro ht;have:=hK w3 hB3;rw [show xs.any (inS r)=true from List.any_eq_true.2 ⟨_,List.getElem_mem hkl,ht⟩] at this;exact this
  refine lI (x:=xs[k].lo) (h3.cells 0 _ rfl) (cO (λe1=>?_) λe1=>?_)
  ·have e1:xs[k].lo<=r:=oTq e1;refine lI (x:=xs[k].hi) (h3.cells 1 _ rfl) (cO (λe2=>?_) λe2=>?_)
   ·exact found (by unfold inS;rw [dTq e1,e2];rfl)
   ·exact step (by unfold inS;rw [dTq e1,e2];rfl)
  ·exact step (by unfold inS;rw [show decide (xs[k].lo<=r)=false from e1];rfl)
 ·have e:=oFq e;obtain rfl:k=xs.length:=by omega
  rw [List.take_length] at hno;have:=hK w1 hB1;rw [hno] at this;exact this
theorem zeg {K:Slc->Ub} (hK:∀s w',Rd q64 w' s (qn4 qyj)->Uc w w'->K s w'):qp2 w K:=by
 refine q07 ?_;unfold qu3;exact nwb λw1 h1 hB1 hs1=>hK _ w1 (rd_lits (E:=q64) (ys:=qn4 qyj) h1 (by simp [qn4,qyj,maxLen]) rfl) hB1
theorem zfs {K:Slc->Ub} (hK:∀s w',Rd q64 w' s (qn4 q88)->Uc w w'->K s w'):qps w K:=by
 refine q0p ?_;unfold qvr;exact nwb λw1 h1 hB1 hs1=>hK _ w1 (rd_lits (E:=q64) (ys:=qn4 q88) h1 (by simp [qn4,q88,maxLen]) rfl) hB1
theorem zie {r:Int} {K:Bool->Ub} (hK:K (isW r) w):qky r w K:=by
 refine qu1 _ ?_;unfold isW at hK;refine cO (λe1=>?_) λe1=>?_
 ·have h1:(0:Int)<=r:=oTq e1;rw [dTq h1] at hK;refine cO (λe2=>?_) λe2=>?_
  ·rw [e2] at hK;refine cO (λe3=>?_) λe3=>?_
   ·rw [e3] at hK;exact hK
   ·rw [e3] at hK;exact hK
  ·rw [e2] at hK;exact hK
 ·rw [show decide ((0:Int)<=r)=false from e1] at hK;exact hK
theorem zck {r:Int} {K:Int->Ub} (hK:∀w',Uc w w'->K (qbk r) w'):qlw r w K:=by
 refine qzj _ ?_;unfold qbk at hK;refine jpO λJ1 hJ1=>zie ?_;refine cO (λe=>?_) λe=>?_
 ·have e:isW r=false:=by simpa using e
  rw [if_pos (.inl e)] at hK;exact hJ1 _ _ (cT rfl (hK w (Below.refl _ _)))
 ·have e:isW r=true:=by simpa using e
  refine zeg λs w1 hs hB1=>zdr hs (by simp [qn4,qyj]) λw2 hB2=>?_;rw [q3b];refine hJ1 _ _ ?_;have hB02:=zu hB1 hB2;refine cO (λe2=>?_) λe2=>?_
  ·have e2:inW r qyj=true:=e2;rw [if_pos (.inr e2)] at hK;exact hK w2 hB02
  ·have e2:inW r qyj=false:=e2;rw [if_neg (by rw [e,e2];simp)] at hK;refine zfs λs w3 hs hB3=>zdr hs (by simp [qn4,q88]) λw4 hB4=>?_;rw [q3b];have hB04:=zu (zu hB02 hB3) hB4;refine cO (λe3=>?_) λe3=>?_
   ·rw [if_pos e3] at hK;exact hK w4 hB04
   ·rw [if_neg (by rw [e3];decide)] at hK;exact hK w4 hB04
theorem zhk {r:Int} (h:qbk r≠0):0<=r/\r<=1114111:=by
 unfold qbk at h;by_cases e:isW r=false
 ·rw [if_pos (.inl e)] at h;exact absurd rfl h
 ·have e:isW r=true:=by simpa using e
  unfold isW at e;simp only [Bool.and_eq_true,decide_eq_true_eq] at e;exact e.1
theorem zet (r:Int):qbk r=0\/qbk r=1\/qbk r=2:=by
 unfold qbk;split
 ·exact .inl rfl
 ·split
  ·exact .inr (.inr rfl)
  ·exact .inr (.inl rfl)
theorem q4o {set b:Int} {K:Int->Ub} (hb:0<=b/\b<=255) (hK:∀w',Uc w w'->K (qw7 set b) w'):qdw set b w K:=by
 refine qtz _ _ ?_;unfold qw7 at hK;have hw:IntKind.i32.wrap b=b:=by
  obtain ⟨n,rfl⟩:∃n:Nat,b=n:=⟨b.toNat,by omega⟩;exact xk .i32 (by show _<2^31;omega)
 rw [hw];refine jpO λJ1 hJ1=>?_;have no:¬(set=48/\95<=b/\b<=126)->∀v:Bool,v=false->J1 (v,()) w:=by
  rintro hn v rfl;rw [if_neg hn] at hK;exact hJ1 _ _ (cF rfl (hK w (Below.refl _ _)))
 refine cO (λe=>?_) λe=>?_
 ·have e:set=48:=eq_of_beq e;refine cO (λe1=>?_) λe1=>?_
  ·have e1:=oTq e1;by_cases h2:b<=126
   ·rw [dTq h2];rw [if_pos ⟨e,e1,h2⟩] at hK;refine hJ1 _ _ (cT rfl ?_);refine qyi ?_;unfold qrg;refine nwb λw1 h1 hB1 hs1=>?_;have hr:Rd zli w1 ⟨some ⟨w.heap.size,0,none⟩,32,32⟩ qkn:=rd_lits (E:=zli) (ys:=qkn) h1 (by simp [qkn,maxLen]) rfl;obtain ⟨n,hn⟩:∃n:Nat,b-95=n:=⟨(b-95).toNat,by omega⟩;rw [hn,show IntKind.u8.wrap (n:Int)=n from xk .u8 (by show _<2^8;omega)];have hnl:n<qkn.length:=by show n<32;omega
    refine hr.ix (i:=(n:Int)) rfl (by omega) (by show (n:Int)<((32:Nat):Int);omega) λ_=>?_;have hx:qkn[n]?=some qkn[n]:=List.getElem?_eq_getElem hnl;rw [toNat_natCast];refine lI (x:=qkn[n]) (by simpa using hr.at_ n _ hx 0 _ rfl) ?_;have:=hK w1 hB1;rw [hn,toNat_natCast,List.getD_eq_getElem?_getD,hx] at this;exact this
   ·exact no (λhh=>h2 hh.2.2) _ (dFq h2)
  ·have e1:=oFq e1;exact no (λhh=>e1 hh.2.1) _ rfl
 ·have e:¬set=48:=beq_eq_false_iff_ne.1 e;exact no (λhh=>e hh.1) _ rfl
end
section
variable {w:World} {base g:Nat} {F:ScF} {S:Sc}
theorem ScOk.changed (h:ScOk S) {f:List qU->List qU} (hok:∀xs,okR xs->okR (f xs)) {row:Int} (hr:0<=row/\row<(S.g.rows:Int)):ScOk (S.withG { S.g with L:=S.g.L.set row.toNat (ZB (f (S.g.L.getD row.toNat [])) S.g.cols) }):=by
 have hG:=h.gOk;refine h.withG (hG.set row.toNat ?_) rfl rfl;refine zi8 hG.cols.2 (hok _ ?_);have hl:row.toNat<S.g.L.length:=by rw [hG.len];omega
 rw [List.getD_eq_getElem?_getD,List.getElem?_eq_getElem hl];exact (hG.L _ (List.getElem_mem hl)).2.2
theorem q7d {fv:Value} {f:List qU->List qU} {row:Int} {K:Bool->Ub} (h:ScM w base g F S) (hr:0<=row/\row<(S.g.rows:Int)) (hlen:∀xs,(f xs).length=xs.length) (hok:∀xs,okR xs->okR (f xs))
  (hf:∀(l:Slc) (xs:List qU) (K':Slc->Ub),Rd zi w.drew l xs->xs.length<=10000->(∀s w2,Go.Vc.Own zi w2 w.drew.heap.size s (f xs)->Below w.drew.heap.size w.drew w2->K' s w2)->jm C fv [.slice l.a l.n l.c] [Kind.slice] w.drew K')
  (hK:∀F' w',ScT base g w F F' (S.withG { S.g with L:=S.g.L.set row.toNat (ZB (f (S.g.L.getD row.toNat [])) S.g.cols) }) w'->K true w'):ZQ (some ⟨(F.f S.alt).g,0,none⟩) row fv w K:=by
 refine qjk _ _ _ ?_;simp only [onPtr_some];have h3:=h.gM;have hG:=h.gOk;have hbase:=h.base_le;refine jpO λJ hJ=>?_;refine qyg h3 ?_;rw [dTq hr];refine cT rfl ?_;refine lSl (x:=(F.f S.alt).ls) (h3.drew.blk.cells 3 _ rfl) ?_;refine lSl (x:=(F.f S.alt).ls) (h3.drew.blk.cells 3 _ rfl) ?_;obtain ⟨ls,ho,hl⟩:=h3.row;have hll:=hl.1;have hgl:=hG.len;refine ho.drew.rd.ix rfl hr.1 (by omega) λhc=>?_;have hlk:ls[row.toNat]?=some (ls[row.toNat]'(by omega)):=List.getElem?_eq_getElem _;have hxk:S.g.L[row.toNat]?=some (S.g.L[row.toNat]'(by omega)):=List.getElem?_eq_getElem _;refine lSl (x:=ls[row.toNat]'(by omega)) (by simpa using hc 0 _ rfl) ?_;refine lI (x:=(S.g.cols:Int)) (h3.drew.blk.cells 2 _ rfl) ?_;have hwk:(S.g.L[row.toNat]'(by omega)).length<=10000:=by
  have:=(hG.L _ (List.mem_of_getElem? hxk)).2.1;have:=hG.cols.2;omega
 refine hf _ _ _ (hl.2 _ _ _ hlk hxk).drew.rd hwk λt w4 ht hB4=>?_;have hB34:Uc w w4:=(zq w).trans hB4;have h4:=h3.ext hB34;refine ⟨h4.blk.cells 2 _ rfl,h4.blk.cells 3 _ rfl,?_⟩;refine q58 ht.rd (by rw [hlen];exact hwk) λu w5 hu hB5=>?_;have hB35:Uc w w5:=hB34.trans (hB5.mono hB34.size);have h5:=h3.ext hB35;refine ⟨h5.blk.cells 3 _ rfl,?_⟩;have ho5:=ho.ext hB35;have hs4:=hB34.size;refine ho5.rd.ix rfl hr.1 (by omega) λ_=>?_;refine ho5.st0 (x:=ls[row.toNat]'(by omega)) hlk (y:=u) rfl λw6 ho6 hg6 hs6=>?_;obtain ⟨h6,hc6⟩:=h5.setLine (i:=row.toNat) (hl.ext hB35) (hu.base (by omega)) ho6 hg6;refine hJ _ _ (qyg h6 ?_);rw [dTq hr];have ok:=h.ok.changed hok hr;rw [List.getD_eq_getElem?_getD,hxk] at hK ok;have hTe:=ScT.of_ext h hB35;refine hK _ w6 (hTe.trans (ScT.mk_grid hTe.m h6 (Foot.to.refl _ _) (hc6.mono λi _ hi=>.inr (.inr (.inl hi))) ok))
end
section
variable {S:Sc}
theorem zjc (S:Sc) (top past n:Int):(S.scroll top past n).g=vN S.g top past n S.blank:=zct _ _
theorem zae (h:ScOk S):S.index.g.cols=S.g.cols/\S.index.g.rows=S.g.rows:=by
 unfold Sc.index;split
 ·rw [zjc];have hl:=qa4 (top:=S.dry.top) (past:=S.dry.past) (n:=1) (a:=S.dry.blank) h.dry.gOk.len;exact ⟨hl.2.2.1,hl.2.1⟩
 ·exact ⟨rfl,rfl⟩
theorem q2o (h:ScOk S):S.next.g.cols=S.g.cols/\S.next.g.rows=S.g.rows:=zae (h.to S.c.Row 0)
theorem ScOk.setCol (h:ScOk S) {col:Int} (hc:0<=col/\col<(S.g.cols:Int)):ScOk (S.setCol col):=h.cur h.rowg hc h.shift
theorem zhf (S:Sc) (r w:Int) (xs:List qU):(S.putL r w xs).length=xs.length:=by
 unfold Sc.putL;rw [q7x];split
 ·exact qvj _ _ _ _
 ·rfl
theorem q55 (S:Sc) {r:Int} (hr:0<=r/\r<=1114111) (w:Int) (xs:List qU) (h:okR xs):okR (S.putL r w xs):=by
 unfold Sc.putL;refine zjt ?_ (by omega);split
 ·exact zjx h _ _ _
 ·exact h
theorem q5m (S:Sc) (f:List qU->List qU):(S.change f).c=S.c:=by
 unfold Sc.change;split
 ·exact zc0 _ _
 ·rfl
theorem q8h (S:Sc) (f:List qU->List qU):(S.change f).g.cols=S.g.cols/\(S.change f).g.rows=S.g.rows:=by
 unfold Sc.change;split
 ·rw [zct];exact ⟨rfl,rfl⟩
 ·exact ⟨rfl,rfl⟩
theorem ScOk.change (h:ScOk S) {f:List qU->List qU} (hok:∀xs,okR xs->okR (f xs)):ScOk (S.change f):=by
 unfold Sc.change;rw [if_pos h.rowg];exact h.changed hok h.rowg
theorem ScOk.char (h:ScOk S) (r:Int):ScOk { S with char:=r }:=⟨h.g0,h.g1,h.rows,h.cols,h.row,h.col,h.shift,h.sh0,h.sh1,h.top,h.marg,h.stops⟩
theorem ScOk.laid (h:ScOk S) {r wd:Int} (hr:0<=r/\r<=1114111) (hw:1<=wd/\wd<=2) (wrap:Bool):ScOk (S.laid r wd wrap):=by
 have h1:=h.change (q55 S hr wd);have hb:=h.bnd;have hc:=h.colg;obtain ⟨e1,e2⟩:=q8h S (S.putL r wd);have ec:=q5m S (S.putL r wd);unfold Sc.laid;dsimp only;have ew:w64 (S.c.Col+wd)=S.c.Col+wd:=qz4 (by omega);have ew2:w64 ((S.g.cols:Int)-1)=(S.g.cols:Int)-1:=qz4 (by omega);rw [ew,ew2];have hrow:=h1.rowg;have hsh:=h1.shift;split
 ·exact h1.cur hrow (by dsimp only;rw [e1];omega) hsh
 ·rename_i hlt;have hlt:¬S.c.Col+wd>=(S.g.cols:Int):=hlt;exact h1.cur hrow (by dsimp only;rw [e1];omega) hsh
end
structure Bx (w:World) (bs br bw g:Nat) (r wd:Int):Prop where
 s:Blk w bs qa0 [.pointer (some ⟨g,0,none⟩)]
 r:Blk w br yk [.int .i32 r]
 w:Blk w bw zz [.int .i64 wd]
theorem Bx.chg {w w':World} {bs br bw g:Nat} {r wd:Int} {T:Nat->Prop} (h:Bx w bs br bw g r wd) (hc:Chg T w w') (h1:¬T bs) (h2:¬T br) (h3:¬T bw):Bx w' bs br bw g r wd:=⟨h.s.chg hc h1,h.r.chg hc h2,h.w.chg hc h3⟩
theorem Bx.ext {w w':World} {bs br bw g:Nat} {r wd:Int} (h:Bx w bs br bw g r wd) (hB:Uc w w'):Bx w' bs br bw g r wd:=⟨h.s.ext hB,h.r.ext hB,h.w.ext hB⟩
structure LayS (base g:Nat) (w0:World) (F0:ScF) (bs br bw:Nat) (r wd:Int) (F:ScF) (S:Sc) (w:World):Prop where
 t:ScT base g w0 F0 F S w
 bx:Bx w bs br bw g r wd
 ne:∀k,scS g F k->k≠bs/\k≠br/\k≠bw
section
variable {w0 w w':World} {base g bs br bw:Nat} {F0 F F':ScF} {S S':Sc} {r wd:Int}
theorem LayS.step (h:LayS base g w0 F0 bs br bw r wd F S w) (hT:ScT base g w F F' S' w'):LayS base g w0 F0 bs br bw r wd F' S' w':=by
 refine ⟨h.t.trans hT,h.bx.chg hT.chg (λe=>(h.ne _ e).1 rfl) (λe=>(h.ne _ e).2.1 rfl) (λe=>(h.ne _ e).2.2 rfl),λk hk=>?_⟩;rcases hT.old k hk with h1 | h1
 ·exact h.ne k h1
 ·have b1:=h.bx.s.lt;have b2:=h.bx.r.lt;have b3:=h.bx.w.lt;omega
theorem LayS.drew (h:LayS base g w0 F0 bs br bw r wd F S w):LayS base g w0 F0 bs br bw r wd F S w.drew:=h.step (ScT.refl h.t.m).drew
theorem qmk {r:Nat} {L:List (Int×Bool)} (h:zP q39 w r L) {k:Int} {K:Bool->Ub} (hK:K ((zA L k).getD false) w):jq PG (Instr.lookup zy (.map (some r)) (Ua k) false) Kind.bool w K:=by
 refine ⟨(zA L k).getD false,w,?_,hK⟩;rw [h.lookup zds zdv zl2 k];cases zA L k<;>rfl
theorem qzz (h:ScM w base g F S):q6 w (((⟨g,0,none⟩:Addr).add 3).add 3) (qt.rep.cells S.c.A):=by
 have h1:=q16 h;intro j v hj;have:(qA.rep.cells S.c)[3+j]?=some v:=by
  match j,hj with
  | 0,hj=>exact hj
  | 1,hj=>exact hj
  | 2,hj=>exact hj
  | j+3,hj=>cases hj
 have h2:=h1 (3+j) v this;simp only [qH] at h2 ⊢;rw [show 0+3+3+j=0+3+(3+j) by omega];exact h2
theorem zav:C.plain vX=true:=by kernel_rfl
theorem zf2 {l:Slc} {xs:List qU} {K:Slc->Ub} (h:ScM w base g F S) (hx:Bx w bs br bw g r wd) (hl:Rd zi w l xs) (hlen:xs.length<=10000)
  (hK:∀s w',Go.Vc.Own zi w' w.heap.size s (S.putL r wd xs)->Uc w w'->K s w') :
  jm C (.func (.func vX) #[] #[.pointer (some ⟨bs,0,none⟩),.pointer (some ⟨bw,0,none⟩),.pointer (some ⟨br,0,none⟩)]) [.slice l.a l.n l.c] [Kind.slice] w K:=by
 have hh:XR l ⟨bs,0,none⟩ ⟨bw,0,none⟩ ⟨br,0,none⟩ w K:=by
  refine qd5 _ _ _ _ ?_;refine jpO λJ1 hJ1=>?_;have key:∀s w1,Rd zi w1 s (if S.mode 4 then qhq xs S.c.Col wd S.c.A else xs)->Uc w w1->J1 (s,()) w1:=by
   intro s w1 hs hB1;refine hJ1 _ _ ?_;have h1:=(h.ext hB1).drew;have x1:=(hx.ext hB1).ext (zq w1);refine qK (x:=some ⟨g,0,none⟩) (by simpa using x1.s.cells 0 _ rfl) ?_;simp only [onPtr_some];refine lI (x:=S.c.Col) (by simp only [qH];exact h1.blk.cell 4 rfl) ?_;refine lI (x:=r) (by simpa using x1.r.cells 0 _ rfl) (lI (x:=wd) (by simpa using x1.w.cells 0 _ rfl) ?_);refine qK (x:=some ⟨g,0,none⟩) (by simpa using x1.s.cells 0 _ rfl) ?_;simp only [onPtr_some];refine qy (r:=qt.rep) (x:=S.c.A) (qzz h1) ?_;refine q94 (hs.ext (zq w1)) (by split;rw [qvj];exact hlen;exact hlen) λt w2 ht hB2=>?_;have hB02:Uc w w2:=zu (zu hB1 (zq w1)) hB2;exact hK t w2 (ht.base (zu hB1 (zq w1)).size) hB02
  refine qK (x:=some ⟨g,0,none⟩) (by simpa using hx.s.cells 0 _ rfl) ?_;simp only [onPtr_some];refine xP (x:=some F.mm) (h.blk.cells 35 _ rfl) (qmk h.mo ?_);have hd:=h.drew;have xd:=hx.ext (zq w);show cond (S.mode 4) _ _;cases hm:S.mode 4
  ·exact key l w (by rw [hm];exact hl) (Below.refl _ _)
  ·refine cT rfl ?_;refine qK (x:=some ⟨g,0,none⟩) (by simpa using xd.s.cells 0 _ rfl) ?_;simp only [onPtr_some];refine lI (x:=S.c.Col) (by simp only [qH];exact hd.blk.cell 4 rfl) ?_;refine lI (x:=wd) (by simpa using xd.w.cells 0 _ rfl) ?_;refine qK (x:=some ⟨g,0,none⟩) (by simpa using xd.s.cells 0 _ rfl) ?_;simp only [onPtr_some];refine qy (r:=qt.rep) (x:=S.c.A) (qzz hd) ?_;refine q9a (hl.ext (zq w)) hlen λt w2 ht hB2=>?_;exact key t w2 (by rw [hm];exact ht.rd) (zu (zq w) hB2)
 refine callR_plain zav (Calls.mono hh ?_);rintro e w' ⟨t,rfl,hk⟩;exact ⟨t,rfl,hk⟩
end
section
variable {w0 w w':World} {base g bs br bw:Nat} {F0 F F':ScF} {S S':Sc} {r wd:Int}
theorem q8f {K:Ub} (h:ScM w base g F S) (hK:∀F' w',ScT base g w F F' (S.lay r) w'->K w'):vt (some ⟨g,0,none⟩) r w K:=by
 refine qie _ _ ?_;refine nwb λw1 hs1 hB1 z1=>nwb λw2 hr2 hB2 z2=>?_;refine lI (x:=r) (by simpa using hr2.cells 0 _ rfl) (zck λw3 hB3=>?_);refine nwb λw4 hw4 hB4 z4=>qam hw4 rfl λw5 hw5 hc5 z5=>?_;have z3:=hB3.size;have hB04:Uc w w4:=zu (zu (zu hB1 hB2) hB3) hB4;have hB05:Uc w w5:=xg hB04 hc5 (by omega);have x4s:=((hs1.ext hB2).ext hB3).ext hB4;have x4r:=(hr2.ext hB3).ext hB4;obtain ⟨wd,hwd⟩:∃wd,wd=qbk r:=⟨_,rfl⟩;rw [<-hwd] at hw5;have hB5:Bx w5 w.heap.size w1.heap.size w3.heap.size g r wd:=⟨x4s.chg hc5 (by omega),x4r.chg hc5 (by omega),hw5⟩;have hT5:ScT base g w F F S w5:=ScT.of_ext h hB05;have L5:LayS base g w F w.heap.size w1.heap.size w3.heap.size r wd F S w5:=⟨hT5,hB5,λk hk=>by have:=(h.below k hk).2;omega⟩;refine qK (x:=some ⟨g,0,none⟩) (by simpa using L5.bx.s.cells 0 _ rfl) ?_;refine qpc L5.t.m ?_;have L6:=L5.drew.drew;generalize w5.drew.drew=w6 at L6 ⊢;clear L5 hT5 hB5 x4s x4r hw5 hc5 hB4 hw4 hr2 hs1 hB1 hB2 hB3 hB04 hB05;refine lI (x:=wd) (by simpa using L6.bx.w.cells 0 _ rfl) ?_;unfold Sc.lay at hK;rw [<-hwd] at hK;refine cO (λe=>?_) λe=>?_
 ·have e:wd=0:=eq_of_beq e;rw [if_pos e] at hK;exact hK F w6 L6.t
 have e:¬wd=0:=beq_eq_false_iff_ne.1 e;rw [if_neg e] at hK;have hrr:=zhk (r:=r) (by rw [<-hwd];exact e);have hw12:1<=wd/\wd<=2:=by
  rcases zet r with h1 | h1 | h1
  ·exact absurd (hwd.trans h1) e
  ·omega
  ·omega
 refine qK (x:=some ⟨g,0,none⟩) (by simpa using L6.bx.s.cells 0 _ rfl) ?_;refine lI (x:=r) (by simpa using L6.bx.r.cells 0 _ rfl) ?_;simp only [onPtr_some];rw [qH];refine qB L6.t.m.blk (by simp [qC.rep]) λw7 hb7 hg7 hs7=>?_;obtain ⟨S1,hS1⟩:∃S1:Sc,S1={ S with char:=r }:=⟨_,rfl⟩;have hT7:ScT base g w6 F F S1 w7:=by
  rw [hS1];exact ScT.mk_struct L6.t.m (Chg.gg hg7) hb7 rfl rfl rfl rfl rfl rfl (L6.t.m.ok.char r)
 have L7:=L6.step hT7;have hcols1:S1.g.cols=S.g.cols:=by rw [hS1];rfl
 have hpm:S1.pmode 7=S.pmode 7:=by rw [hS1];rfl
 rw [<-hS1] at hK;obtain ⟨wrap,hwrap⟩:∃wrap,wrap=S.pmode 7:=⟨_,rfl⟩;rw [<-hwrap] at hK;clear hb7 hg7 hs7 hT7 L6;refine qK (x:=some ⟨g,0,none⟩) (by simpa using L7.bx.s.cells 0 _ rfl) ?_;simp only [onPtr_some];refine xP (x:=some F.mp) (by rw [qH];exact L7.t.m.blk.cell 36 rfl) (qmk L7.t.m.pr ?_);rw [show (zA S1.priv 7).getD false=wrap by rw [hwrap,<-hpm];rfl];obtain ⟨Sx,hSx⟩:∃Sx,Sx=S1.layX wrap:=⟨_,rfl⟩;rw [<-hSx] at hK;unfold Sc.layX at hSx;unfold Sc.layY at hK;have hok1:=L7.t.m.ok;have hcx:Sx.g.cols=S.g.cols:=by
  rw [hSx];split
  ·rw [(q2o hok1).1,hcols1]
  ·exact hcols1
 have hb1:=h.ok.bnd;refine jpO λJ1 hJ1=>?_;have key1:∀F1 w9,LayS base g w F w.heap.size w1.heap.size w3.heap.size r wd F1 Sx w9->J1 () w9:=by
  intro F1 w9 L9;refine hJ1 _ _ ?_;refine qK (x:=some ⟨g,0,none⟩) (by simpa using L9.bx.s.cells 0 _ rfl) ?_;simp only [onPtr_some];rw [qH,qH];refine qB L9.t.m.blk (by simp [qC.rep]) λw10 hb10 hg10 hs10=>?_;have L10:=L9.step (ScT.dry L9.t.m hb10 hg10);clear hb10 hg10 hs10 L9;obtain ⟨S2,hS2⟩:∃S2,S2=Sx.dry:=⟨_,rfl⟩;rw [<-hS2] at L10 hK;have hc2:S2.g.cols=S.g.cols:=by rw [hS2];exact hcx
  refine jpO λJ2 hJ2=>?_;have key2:∀(S3:Sc) F2 w11,LayS base g w F w.heap.size w1.heap.size w3.heap.size r wd F2 S3 w11->S3.g.cols=S.g.cols->S3.c.Wrap=false->(∀F' w',ScT base g w F F' (S3.laid r wd wrap) w'->K w')->J2 () w11:=by
   intro S3 F2 w11 L11 hc3 hwr3 hK3;refine hJ2 _ _ ?_;have Ld:=L11.drew;refine qK (x:=some ⟨g,0,none⟩) (by simpa using Ld.bx.s.cells 0 _ rfl) (qK (x:=some ⟨g,0,none⟩) (by simpa using Ld.bx.s.cells 0 _ rfl) ?_);simp only [onPtr_some];refine lI (x:=S3.c.Row) (by simp only [qH];exact Ld.t.m.blk.cell 3 rfl) ?_;refine qqq Ld.t.m ?_;have Ldd:=Ld.drew;refine ⟨by simp only [qH];exact Ldd.t.m.blk.cell 3 rfl,by simpa using Ldd.bx.s.cells 0 _ rfl,?_⟩;have hok3:=L11.t.m.ok;refine q7d (f:=S3.putL r wd) Ldd.t.m hok3.rowg (zhf S3 r wd) (q55 S3 hrr wd) (λl xs K' hl hlen hk=>?_) λF4 w13 hT13=>?_
   ·exact zf2 Ldd.drew.t.m Ldd.drew.bx hl hlen hk
   have L13:=Ldd.step hT13;have ech:S3.withG { S3.g with L:=S3.g.L.set S3.c.Row.toNat (ZB (S3.putL r wd (S3.g.L.getD S3.c.Row.toNat [])) S3.g.cols) }=S3.change (S3.putL r wd):=by
    unfold Sc.change;rw [if_pos hok3.rowg]
   rw [ech] at L13;clear hT13 L11 Ld Ldd ech;obtain ⟨S4,hS4⟩:∃S4,S4=S3.change (S3.putL r wd):=⟨_,rfl⟩;rw [<-hS4] at L13;have hc4:S4.c=S3.c:=by rw [hS4];exact q5m _ _
   have L14:=L13.drew;refine qK (x:=some ⟨g,0,none⟩) (by simpa using L14.bx.s.cells 0 _ rfl) ?_;simp only [onPtr_some];refine lI (x:=S4.c.Col) (by simp only [qH];exact L14.t.m.blk.cell 4 rfl) ?_;refine lI (x:=wd) (by simpa using L14.bx.w.cells 0 _ rfl) ?_;rw [qH,qH];refine qB L14.t.m.blk (by simp [qC.rep]) λw15 hb15 hg15 hs15=>?_;have hc15:=Chg.gg hg15;have x15:Bx w15 w.heap.size w1.heap.size w3.heap.size g r wd:=L14.bx.chg hc15 (λe=>(L14.ne g (.inl rfl)).1 e.symm) (λe=>(L14.ne g (.inl rfl)).2.1 e.symm) (λe=>(L14.ne g (.inl rfl)).2.2 e.symm);have hb15:Blk w15 g zw (qC.rep.cells (scX F4 (S4.setCol (w64 (S4.c.Col+wd))))):=hb15;refine qK (x:=some ⟨g,0,none⟩) (by simpa using x15.s.cells 0 _ rfl) ?_;simp only [onPtr_some];refine lI (x:=w64 (S4.c.Col+wd)) (by exact hb15.cell 4 rfl) ?_;have hokl:=hok3.laid hrr hw12 wrap;have elaid:S3.laid r wd wrap=(if w64 (S4.c.Col+wd)>=(S.g.cols:Int) then { S4.setCol (w64 (S4.c.Col+wd)) with c:={ (S4.setCol (w64 (S4.c.Col+wd))).c with Col:=w64 ((S.g.cols:Int)-1),Wrap:=wrap } } else S4.setCol (w64 (S4.c.Col+wd))):=by
    unfold Sc.laid;dsimp only;rw [<-hS4,<-hc4,hc3];rfl
   rw [elaid] at hK3 hokl;refine cO (λe2=>?_) λe2=>?_
   ·have e2:w64 (S4.c.Col+wd)>=(S.g.cols:Int):=oTq e2;rw [if_pos e2] at hK3 hokl;have xd:=x15.ext (zq w15);refine qK (x:=some ⟨g,0,none⟩) (by simpa using xd.s.cells 0 _ rfl) (qK (x:=some ⟨g,0,none⟩) (by simpa using xd.s.cells 0 _ rfl) ?_);simp only [onPtr_some];rw [qH,qH];refine qB hb15.drew (by simp [qC.rep]) λw16 hb16 hg16 hs16=>?_;have hc16:=Chg.gg hg16;have x16:=xd.chg hc16 (λe=>(L14.ne g (.inl rfl)).1 e.symm) (λe=>(L14.ne g (.inl rfl)).2.1 e.symm) (λe=>(L14.ne g (.inl rfl)).2.2 e.symm);refine ⟨by simpa using x16.s.cells 0 _ rfl,?_⟩;rw [qH];refine qB hb16 (by simp [qC.rep,putL]) λw17 hb17 hg17 hs17=>?_;have hcd:Chg (λk=>k=g) w15 w15.drew:=Chg.of_ext (zq w15);have hc17:Chg (λk=>k=g) w13.drew w17:=((hc15.trans hcd λi _ hi=>hi).trans hc16 λi _ hi=>hi).trans (Chg.gg hg17) λi _ hi=>hi;exact hK3 F4 w17 (L14.t.trans (ScT.mk_struct L14.t.m hc17 hb17 rfl rfl rfl rfl rfl rfl hokl))
   ·have e2:¬w64 (S4.c.Col+wd)>=(S.g.cols:Int):=oFq e2;rw [if_neg e2] at hK3 hokl;exact hK3 F4 w15 (L14.t.trans (ScT.mk_struct L14.t.m hc15 hb15 rfl rfl rfl rfl rfl rfl hokl))
  have Ld:=L10.drew;refine qK (x:=some ⟨g,0,none⟩) (by simpa using Ld.bx.s.cells 0 _ rfl) ?_;simp only [onPtr_some];refine lI (x:=S2.c.Col) (by simp only [qH];exact Ld.t.m.blk.cell 4 rfl) ?_;refine lI (x:=wd) (by simpa using Ld.bx.w.cells 0 _ rfl) ?_;have hwr2:S2.c.Wrap=false:=by rw [hS2];rfl
  refine cO (λe2=>?_) λe2=>?_
  ·have e2:w64 (S2.c.Col+wd)>(S.g.cols:Int):=oTq e2;rw [if_pos e2] at hK;refine lI (x:=wd) (by simpa using Ld.bx.w.cells 0 _ rfl) ?_;refine cO (λe3=>?_) λe3=>?_
   ·have e3:wd>(S.g.cols:Int):=oTq e3;rw [if_pos e3] at hK;exact hK F1 _ Ld.t
   ·have e3:¬wd>(S.g.cols:Int):=oFq e3;rw [if_neg e3] at hK;cases hwv:wrap
    ·rw [hwv] at hK key2;rw [if_neg (by decide)] at hK;refine cF rfl ?_;refine qK (x:=some ⟨g,0,none⟩) (by simpa using Ld.bx.s.cells 0 _ rfl) ?_;refine lI (x:=wd) (by simpa using Ld.bx.w.cells 0 _ rfl) ?_;simp only [onPtr_some];rw [qH,qH];refine qB Ld.t.m.blk (by simp [qC.rep]) λw19 hb19 hg19 hs19=>?_;have ew:w64 ((S.g.cols:Int)-wd)=(S.g.cols:Int)-wd:=qz4 (by omega);have hokc:ScOk (S2.setCol (w64 ((S.g.cols:Int)-wd))):=Ld.t.m.ok.setCol (by rw [ew,hc2];omega);have L19:=Ld.step (ScT.mk_struct Ld.t.m (Chg.gg hg19) (S':=S2.setCol (w64 ((S.g.cols:Int)-wd))) hb19 rfl rfl rfl rfl rfl rfl hokc);exact key2 _ _ _ L19 hc2 hwr2 hK
    ·rw [hwv] at hK key2;rw [if_pos rfl] at hK;refine cT rfl ?_;have Ldd:=Ld.drew;refine qK (x:=some ⟨g,0,none⟩) (by simpa using Ldd.bx.s.cells 0 _ rfl) (qK (x:=some ⟨g,0,none⟩) (by simpa using Ldd.bx.s.cells 0 _ rfl) ?_);simp only [onPtr_some];refine lI (x:=S2.c.Row) (by simp only [qH];exact Ldd.t.m.blk.cell 3 rfl) ?_;refine qwr Ldd.t.m λw17 hT17=>?_;have L17:=Ldd.step hT17;refine qK (x:=some ⟨g,0,none⟩) (by simpa using L17.bx.s.cells 0 _ rfl) ?_;refine qp5 L17.t.m λF5 w18 hT18=>?_;have L18:=L17.step hT18;have hn:=q2o L10.t.m.ok;refine key2 S2.next _ _ L18 (hn.1.trans hc2) ?_ hK;unfold Sc.next Sc.index;split
     ·show (Sc.scroll _ _ _ _).c.Wrap=false;unfold Sc.scroll;rw [zc0];rfl
     ·rfl
  ·have e2:¬w64 (S2.c.Col+wd)>(S.g.cols:Int):=oFq e2;rw [if_neg e2] at hK;exact key2 S2 _ _ Ld hc2 hwr2 hK
 refine jpO λJ3 hJ3=>?_;refine qK (x:=some ⟨g,0,none⟩) (by simpa using L7.bx.s.cells 0 _ rfl) ?_;simp only [onPtr_some];refine jw (x:=S1.c.Wrap) (by simp only [qH];exact L7.t.m.blk.cell 5 rfl) ?_;have key3:∀b:Bool,(b=true↔S1.c.Wrap=true/\wrap=true)->J3 (b,()) w7:=by
  intro b hb;refine hJ3 _ _ ?_;refine cO (λe=>?_) λe=>?_
  ·have e:=hb.1 e;rw [if_pos e] at hSx;have Ld:=L7.drew;refine qK (x:=some ⟨g,0,none⟩) (by simpa using Ld.bx.s.cells 0 _ rfl) (qK (x:=some ⟨g,0,none⟩) (by simpa using Ld.bx.s.cells 0 _ rfl) ?_);simp only [onPtr_some];refine lI (x:=S1.c.Row) (by simp only [qH];exact Ld.t.m.blk.cell 3 rfl) ?_;refine qwr Ld.t.m λw17 hT17=>?_;have L17:=Ld.step hT17;refine qK (x:=some ⟨g,0,none⟩) (by simpa using L17.bx.s.cells 0 _ rfl) ?_;refine qp5 L17.t.m λF5 w18 hT18=>?_;have L18:=L17.step hT18;rw [hSx] at key1;exact key1 _ _ L18
  ·have e:¬(S1.c.Wrap=true/\wrap=true):=λhh=>by rw [hb.2 hh] at e;cases e
   rw [if_neg e] at hSx;rw [hSx] at key1;exact key1 _ _ L7
 refine cO (λe=>key3 _ ?_) λe=>key3 _ ?_
 ·exact ⟨λhh=>⟨e,hh⟩,λhh=>hh.2⟩
 ·exact ⟨(λhh=>by cases hh),λhh=>absurd hh.1 (by rw [e];decide)⟩
theorem zfh (h:ScM w base g F S) {K:Int->Prop} (hK:K (S.set2 S.c.Shift)):ixA (((⟨g,0,none⟩:Addr).add 3).add 7) 2 S.c.Shift 1 λt=>ldI .u8 t w K:=by
 have hs:=h.ok.shift;unfold Sc.set2 at hK;rcases hs with e | e
 ·rw [e] at hK ⊢;exact ⟨⟨by decide,by decide⟩,lI (x:=S.c.Sets.e0) (by simp only [qH];exact h.blk.cell 10 rfl) hK⟩
 ·rw [e] at hK ⊢;exact ⟨⟨by decide,by decide⟩,lI (x:=S.c.Sets.e1) (by simp only [qH];exact h.blk.cell 11 rfl) hK⟩
theorem q9q {K:Ub} (h:ScM w base g F S) (hK:∀F' w',ScT base g w F F' (S.print r) w'->K w'):yC (some ⟨g,0,none⟩) r w K:=by
 refine qea _ _ ?_;simp only [onPtr_some];refine jpO λJ1 hJ1=>?_;unfold Sc.print at hK;have key:∀b:Bool,(b=true↔0<=r/\r<128)->J1 (b,()) w:=by
  intro b hb;refine hJ1 _ _ ?_;refine cO (λe=>?_) λe=>?_
  ·have e:=hb.1 e;rw [if_pos e] at hK;have hd:=(ScT.refl h).drew;refine lI (x:=S.c.Shift) (by simp only [qH];exact hd.m.blk.cell 12 rfl) (zfh hd.m ?_);obtain ⟨n,rfl⟩:∃n:Nat,r=n:=⟨r.toNat,by omega⟩;rw [show IntKind.u8.wrap (n:Int)=n from xk .u8 (by show _<2^8;omega)];refine q4o (by omega) λw2 hB2=>?_;have h2:=hd.ext hB2;exact q8f h2.m λF' w' hT=>hK F' w' (h2.trans hT)
  ·have e:¬(0<=r/\r<128):=λhh=>by rw [hb.2 hh] at e;cases e
   rw [if_neg e] at hK;exact q8f h hK
 refine cO (λe=>key _ ?_) λe=>key _ ?_
 ·have e:r>=0:=oTq e;exact ⟨λhh=>⟨e,oTq hh⟩,λhh=>dTq hh.2⟩
 ·have e:¬r>=0:=oFq e;exact ⟨(λhh=>by cases hh),λhh=>absurd hh.1 e⟩
end
section
variable {w w':World} {base g:Nat} {F F':ScF} {S S':Sc}
theorem q3g {r:Nat} {L:List (Int×Bool)} (h:zP q39 w r L) {n:Int} (hn:-9223372036854775808<=n/\n<=9223372036854775807) {b:Bool} {K:Option Value->Ub}
  (hK:∀w',zP q39 w' r (kC L n b)->Chg (λk=>k=r) w w'->w'.heap.size=w.heap.size->K none w'):qng PG (Instr.mapUpdate zy (.map (some r)) (Ua n) (.bool b)) w K:=by
 obtain ⟨w',h1,h2,h3,h4⟩:=h.update zds zdv hn b;exact ⟨w',h1,hK w' h2 h3 h4⟩
theorem ScOk.areas (h:ScOk S) (l:List zZ):ScOk { S with areas:=l }:=⟨h.g0,h.g1,h.rows,h.cols,h.row,h.col,h.shift,h.sh0,h.sh1,h.top,h.marg,h.stops⟩
end
theorem Ja.base {w:World} {base base' r most:Nat} {s:Slc} {old:List (List qU)} (h:Ja w base r s most old) (hb:base'<=base):Ja w base' r s most old:=by
 obtain ⟨at_,gone,ls,xss,h1,ho,hl,hbr,e,hm,ha⟩:=h;exact ⟨at_,gone,ls,xss,h1,ho.base hb,⟨hl.1,λi s xs e1 e2=>(hl.2 i s xs e1 e2).base hb⟩,by omega,e,hm,ha⟩
theorem GridM.base {w:World} {base base':Nat} {f:Foot} {S:GS} (h:GridM w base f S) (hb:base'<=base):GridM w base' f S:=by
 obtain ⟨ls,ho,hl⟩:=h.row;exact ⟨h.blk,by have:=h.hg;omega,⟨ls,ho.base hb,⟨hl.1,λi s xs e1 e2=>(hl.2 i s xs e1 e2).base hb⟩⟩,h.ring.base hb,h.ne⟩
theorem ziq {w:World} {g r:Nat} {B:List Bool} (h:StopsM w g r B) {k:Nat} {cs:List Value} (hb:Blk w k zw cs):k≠g/\k≠r:=⟨hb.ne_t h.blk (by decide),KI h.map hb⟩
theorem q8w (X:qC):putL (qC.rep.cells X) (0+13) [(Ua 0),(Ua 0),(.bool false),(Ua 0),(Ua 0),(Ua 0),(.bool false),(.int .u8 0),(.int .u8 0),(Ua 0),(.bool false),(Ua 0),(Ua 0),(.bool false),(Ua 0),(Ua 0),(Ua 0),(.bool false),(.int .u8 0),(.int .u8 0),(Ua 0),(.bool false)]=qC.rep.cells { X with saved:=⟨qji,qji⟩ }:=by
 kernel_rfl
structure ScR (w:World) (base g:Nat) (X:qC) (f0 f1:Foot) (G0 G1:GS) (ar:Slc) (az:List zZ):Prop where
 blk:Blk w g zw (qC.rep.cells X)
 gr:X.grids=⟨some ⟨f0.g,0,none⟩,some ⟨f1.g,0,none⟩⟩
 xa:X.areas=ar
 hg:base<=g
 g0:GridM w base f0 G0
 g1:GridM w base f1 G1
 ar:Go.Vc.Own qnp w base ar az
 dg:∀k,x6 f0 k->¬x6 f1 k
section
variable {w w':World} {base g:Nat} {F F':ScF} {S S':Sc} {X X':qC} {f0 f1:Foot} {G0 G1:GS} {ar:Slc} {az:List zZ}
theorem ScR.step (h:ScR w base g X f0 f1 G0 G1 ar az) (hc:Chg (λk=>k=g) w w') (hb:Blk w' g zw (qC.rep.cells X')) (e1:X'.grids=X.grids) (e2:X'.areas=X.areas):ScR w' base g X' f0 f1 G0 G1 ar az:=by
 have hC:∀k cs,k=g->¬Blk w k qR cs:=λk cs hk hcs=>by subst hk;exact h.blk.ne_t hcs (by decide) rfl
 refine ⟨hb,e1.trans h.gr,e2.trans h.xa,h.hg,h.g0.chg hc (λk hk e=>?_) hC,h.g1.chg hc (λk hk e=>?_) hC,h.ar.chg hc λk hk e=>?_,h.dg⟩
 ·subst e;have:=qwt h.g0 hk h.blk;revert this;decide
 ·subst e;have:=qwt h.g1 hk h.blk;revert this;decide
 ·obtain ⟨cs,hcs⟩:=h.ar.blk_t hk;rw [e] at hcs;exact h.blk.ne_t hcs (by decide) rfl
theorem ScR.ext (h:ScR w base g X f0 f1 G0 G1 ar az) (hB:Uc w w'):ScR w' base g X f0 f1 G0 G1 ar az :=
 ⟨h.blk.ext hB,h.gr,h.xa,h.hg,h.g0.ext hB,h.g1.ext hB,h.ar.ext hB,h.dg⟩
theorem ScR.fin (h:ScR w base g (scX F S) F.f0 F.f1 S.g0 S.g1 F.ar S.areas) (hst:StopsM w F.tg F.tr S.stops) (hstb:base<=F.tg/\base<=F.tr) (hmo:zP q39 w F.mm S.modes) (hpr:zP q39 w F.mp S.priv) (hmb:base<=F.mm/\base<=F.mp) (hdm:F.mm≠F.mp/\F.tr≠F.mm/\F.tr≠F.mp) (ok:ScOk S):ScM w base g F S :=
 ⟨h.blk,h.hg,h.g0,h.g1,hst,hstb,hmo,hpr,hmb,hdm,h.ar,h.dg,ok⟩
theorem q9u {K:Int->Int->Ub} (h:ScR w base g X f0 f1 G0 G1 ar az) (hn:X.now=0) (hK:K G0.rows G0.cols w.drew.drew):jo (some ⟨g,0,none⟩) w K:=by
 refine ZY _ ?_;refine Vo _ ?_;simp only [onPtr_some];have h1:=h.ext (zq w);refine lI (x:=0) (by rw [<-hn];exact h1.blk.cells 2 _ rfl) ?_;refine ⟨⟨by decide,by decide⟩,qK (x:=some ⟨f0.g,0,none⟩) ?_ (qz9 h1.g0 hK)⟩;have e:=congrArg yr.e0 h.gr;have e:X.grids.e0=some ⟨f0.g,0,none⟩:=e;rw [<-e];exact h1.blk.cells 0 _ rfl
theorem Z3 {T:Nat->Prop} {a b c:World} (h:Chg T a b) (k:Chg T b c):Chg T a c:=h.trans k λi _ hi=>hi
def q4f (G0 G1:GS) (az:List zZ):Sc:=⟨G0,G1,false,Kw,qji,qji,[],kC (kC [] 7 true) 25 true,0,G0.rows,ZP [] G0.cols,-1,az⟩
set_option maxHeartbeats 400000 in
theorem q8u {K:Ub} (h:ScR w base g X f0 f1 G0 G1 ar az) (hG0:GOk G0) (hG1:GOk G1) (hr:G1.rows=G0.rows) (hc:G1.cols=G0.cols) (hb:base<=w.heap.size)
  (hK:∀tg tr mm mp w',w.heap.size<=tg->w.heap.size<=tr->w.heap.size<=mm->w.heap.size<=mp->ScM w' base g ⟨f0,f1,tg,tr,mm,mp,ar⟩ (q4f G0 G1 az)->Chg (λk=>k=g) w w'->K w'):y5 (some ⟨g,0,none⟩) w K:=by
 refine qd7 _ ?_;simp only [onPtr_some];rw [qH];refine qB h.blk (by simp [qC.rep]) λw1 hb1 hg1 hs1=>?_;have h1:ScR w1 base g { X with now:=0 } f0 f1 G0 G1 ar az:=h.step (Chg.gg hg1) (X':={ X with now:=0 }) hb1 rfl rfl;have c1:Chg (λk=>k=g) w w1:=Chg.gg hg1;refine q9u h1 rfl ?_;have hB2:Uc w1 w1.drew.drew:=zu (zq w1) (zq w1.drew);have h2:=h1.ext hB2;have c2:=Z3 c1 (Chg.of_ext hB2);generalize w1.drew.drew=w2 at h2 c2 ⊢;clear hb1 hg1 hs1 h1 c1 hB2;have s2:=c2.size;refine zf4 _ (λw' _ hbad=>absurd hbad (by have:=hG0.cols;omega)) λtg tr w3 _ _ htg htr hst hB3=>?_;rw [show ((G0.cols:Nat):Int).toNat=G0.cols from toNat_natCast _] at hst;have h3:=h2.ext hB3;have c3:=Z3 c2 (Chg.of_ext hB3);have s3:=hB3.size;clear c2;have hgt:=ziq hst h3.blk;rw [qH];refine qB h3.blk (by simp [qC.rep]) λw4 hb4 hg4 hs4=>?_;have h4:ScR w4 base g { X with now:=0,stops:=some ⟨tg,0,none⟩ } f0 f1 G0 G1 ar az:=h3.step (Chg.gg hg4) (X':={ X with now:=0,stops:=some ⟨tg,0,none⟩ }) hb4 rfl rfl;have c4:=Z3 c3 (Chg.gg hg4);have st4:StopsM w4 tg tr (ZP [] G0.cols):=hst.keep (Chg.gg hg4) (λe=>hgt.1 e.symm) λe=>hgt.2 e.symm;have hgr4:tg<w4.heap.size/\tr<w4.heap.size:=⟨st4.blk.lt,st4.map.lt⟩;clear hst h3 c3 hb4 hg4;refine q9l λw5 hB5=>?_;have h5:=h4.ext hB5;have c5:=Z3 c4 (Chg.of_ext hB5);have st5:=st4.keep (Chg.of_ext (S:=λ_=>False) hB5) (λe=>e) λe=>e;rw [qH];refine qB h5.blk (by simp [qC.rep,qA.rep]) λw6 hb6' hg6 hs6=>?_;have hb6:Blk w6 g zw (qC.rep.cells ⟨X.grids,0,Kw,X.saved,X.modes,X.private_,X.top,X.past,some ⟨tg,0,none⟩,X.char,X.areas⟩):=hb6';clear hb6';rw [qH];refine qB hb6 (by simp [qC.rep]) λw7 hb7' hg7 hs7=>?_;have hb7:Blk w7 g zw (qC.rep.cells ⟨X.grids,0,Kw,⟨qji,qji⟩,X.modes,X.private_,X.top,X.past,some ⟨tg,0,none⟩,X.char,X.areas⟩):=by rw [q8w] at hb7';exact hb7'
 clear hb7';rw [qH];refine qB hb7 (by simp [qC.rep]) λw8 hb8' hg8 hs8=>?_;have hb8:Blk w8 g zw (qC.rep.cells ⟨X.grids,0,Kw,⟨qji,qji⟩,X.modes,X.private_,X.top,X.past,some ⟨tg,0,none⟩,-1,X.areas⟩):=hb8';clear hb8';rw [qH];refine qB hb8 (by simp [qC.rep]) λw9 hb9' hg9 hs9=>?_;have hb9:Blk w9 g zw (qC.rep.cells ⟨X.grids,0,Kw,⟨qji,qji⟩,X.modes,X.private_,0,X.past,some ⟨tg,0,none⟩,-1,X.areas⟩):=hb9';clear hb9';rw [qH];refine qB hb9 (by simp [qC.rep]) λw10 hb10' hg10 hs10=>?_;have hb10:Blk w10 g zw (qC.rep.cells ⟨X.grids,0,Kw,⟨qji,qji⟩,X.modes,X.private_,0,G0.rows,some ⟨tg,0,none⟩,-1,X.areas⟩):=hb10';clear hb10';have c510:Chg (λk=>k=g) w5 w10:=Z3 (Z3 (Z3 (Z3 (Chg.gg hg6) (Chg.gg hg7)) (Chg.gg hg8)) (Chg.gg hg9)) (Chg.gg hg10);have h10:ScR w10 base g ⟨X.grids,0,Kw,⟨qji,qji⟩,X.modes,X.private_,0,G0.rows,some ⟨tg,0,none⟩,-1,X.areas⟩ f0 f1 G0 G1 ar az:=h5.step c510 (X':=⟨X.grids,0,Kw,⟨qji,qji⟩,X.modes,X.private_,0,G0.rows,some ⟨tg,0,none⟩,-1,X.areas⟩) hb10 rfl rfl;have c10:=Z3 c5 c510;have st10:=st5.keep c510 (λe=>hgt.1 e.symm) λe=>hgt.2 e.symm;clear hb6 hg6 hb7 hg7 hb8 hg8 hb9 hg9 hb10 hg10 c510 h5 c5 st5 h4 c4 st4;refine qdp _ ?_;unfold Xf nwM;dsimp only;have hB11:Uc w10 (w10.alloc (.map #[] 0)):=(Below.refl _ w10).alloc (le_refl _) _;have hs11:(w10.alloc (.map #[] 0)).heap.size=w10.heap.size+1:=by simp
 have m1:zP q39 (w10.alloc (.map #[] 0)) w10.heap.size []:=zP.new w10;generalize w10.alloc (.map #[] 0)=w11 at hB11 hs11 m1 ⊢;have hB12:Uc w11 (w11.alloc (.map #[] 0)):=(Below.refl _ w11).alloc (le_refl _) _;have hs12:(w11.alloc (.map #[] 0)).heap.size=w11.heap.size+1:=by simp
 have m2:zP q39 (w11.alloc (.map #[] 0)) w11.heap.size []:=zP.new w11;generalize w11.alloc (.map #[] 0)=w12 at hB12 hs12 m2 ⊢;have m1':=m1.ext hB12;refine q3g (n:=7) (b:=true) m2 (by decide) λw13 m3 hc13 hs13=>?_;refine q3g (n:=25) (b:=true) m3 (by decide) λw14 m4 hc14 hs14=>?_;have hc24:Chg (λk=>k=w11.heap.size) w12 w14:=hc13.trans hc14 λi _ hi=>hi;have m1'':=m1'.chg hc24 (by omega);have hB14:Uc w10 w14:=xg (zu hB11 hB12) hc24 (by omega);have h14:=h10.ext hB14;have c14:=Z3 c10 (Chg.of_ext hB14);have st14:=st10.keep (Chg.of_ext (S:=λ_=>False) hB14) (λe=>e) λe=>e;simp only [onPtr_some];rw [qH];refine qB h14.blk (by simp [qC.rep]) λw15 hb15 hg15 hs15=>?_;rw [qH];refine qB hb15 (by simp [qC.rep,putL]) λw16 hb16 hg16 hs16=>?_;have c46:Chg (λk=>k=g) w14 w16:=Z3 (Chg.gg hg15) (Chg.gg hg16);have s10:=c10.size;have htr10:=st10.map.lt;have hgl:=h10.blk.lt;refine hK tg tr w10.heap.size w11.heap.size w16 (by omega) (by omega) (by omega) (by omega) ?_ (Z3 c14 c46);have hX:ScR w16 base g (scX ⟨f0,f1,tg,tr,w10.heap.size,w11.heap.size,ar⟩ (q4f G0 G1 az)) f0 f1 G0 G1 ar az:=by
  refine h14.step c46 (X':=scX ⟨f0,f1,tg,tr,w10.heap.size,w11.heap.size,ar⟩ (q4f G0 G1 az)) ?_ ?_ ?_
  ·have e1:X.grids=⟨some ⟨f0.g,0,none⟩,some ⟨f1.g,0,none⟩⟩:=h.gr;have e2:X.areas=ar:=h.xa;rw [e1,e2] at hb16;exact hb16
  ·exact h.gr.symm
  ·exact h.xa.symm
 refine hX.fin (st14.keep c46 (λe=>hgt.1 e.symm) λe=>hgt.2 e.symm) ⟨by dsimp only;omega,by dsimp only;omega⟩ (m1''.chg c46 (by omega)) (m4.chg c46 (by omega)) ⟨by dsimp only;omega,by dsimp only;omega⟩ ⟨by dsimp only;omega,by dsimp only;omega,by dsimp only;omega⟩ ?_;have b1:=hG0.rows;have b2:=hG0.cols;exact ⟨hG0,hG1,hr,hc,⟨Int.le_refl 0,by show (0:Int)<(G0.rows:Int);omega⟩,⟨Int.le_refl 0,by show (0:Int)<(G0.cols:Int);omega⟩,.inl rfl,.inl rfl,.inl rfl,⟨by show (0:Int)<=0;omega,by show (0:Int)<(G0.rows:Int);omega,by show (G0.rows:Int)<=G0.rows;omega⟩,λhh=>by
  show (0:Int)+2<=(G0.rows:Int);have hh:2<=G0.rows:=hh;omega,by show (ZP [] G0.cols).length=G0.cols;exact resz_length _ _⟩
def okC (c:qo):Prop:=(1<=c.Rows/\c.Rows<=1000)/\(1<=c.Cols/\c.Cols<=1000)/\(1<=c.CellW/\c.CellW<=64)/\(1<=c.CellH/\c.CellH<=64)/\(0<=c.Back/\c.Back<=16384)/\(0<=c.Quota/\c.Quota<=1073741824)
theorem q4e {c:qo} {K:Int->Ub} (h1:okC c->∀w',Uc w w'->K 0 w') (h2:¬okC c->∀w',Uc w w'->K 1 w'):qbl c w K:=by
 refine qr5 _ ?_;refine nwb λw1 hb1 hB1 hs1=>?_;refine lI (x:=c.Rows) (hb1.cells 0 _ rfl) (kQ (cO (λe1=>?_) λe=>h2 (λhh=>oFq e hh.1) w1 hB1));refine lI (x:=c.Cols) (hb1.cells 1 _ rfl) (kQ (cO (λe2=>?_) λe=>h2 (λhh=>oFq e hh.2.1) w1 hB1));refine lI (x:=c.CellW) (hb1.cells 2 _ rfl) (kQ (cO (λe3=>?_) λe=>h2 (λhh=>oFq e hh.2.2.1) w1 hB1));refine lI (x:=c.CellH) (hb1.cells 3 _ rfl) (kQ (cO (λe4=>?_) λe=>h2 (λhh=>oFq e hh.2.2.2.1) w1 hB1));refine lI (x:=c.Back) (hb1.cells 4 _ rfl) (kQ (cO (λe5=>?_) λe=>h2 (λhh=>oFq e hh.2.2.2.2.1) w1 hB1));refine lI (x:=c.Quota) (hb1.cells 5 _ rfl) (kQ (cO (λe6=>?_) λe=>h2 (λhh=>oFq e hh.2.2.2.2.2) w1 hB1));exact h1 ⟨oTq e1,oTq e2,oTq e3,oTq e4,oTq e5,oTq e6⟩ w1 hB1
def zg2 (rows cols back:Nat):Sc:=q4f (gs0 rows cols back) (gs0 rows cols 0) []
theorem q22 {c:qo} {K:Option Addr->Int->Ub} (hK1:¬okC c->∀w',Uc w w'->K none 1 w')
  (hK2:okC c->∀g F w',ScM w' w.heap.size g F (zg2 c.Rows.toNat c.Cols.toNat c.Back.toNat)->Uc w w'->K (some ⟨g,0,none⟩) 0 w'):qg6 c w K:=by
 refine qwc _ ?_;refine nwb λw1 hb1 hB1 hs1=>?_;refine qy (r:=qo.rep) (x:=c) hb1.cells ?_;refine q4e (λhok w2 hB2=>cF rfl ?_) λhok w2 hB2=>cT rfl (hK1 hok w2 (zu hB1 hB2));obtain ⟨o1,o2,o3,o4,o5,o6⟩:=hok;refine nwb λw3 hb3 hB3 hs3=>?_;have B3:=zu (zu hB1 hB2) hB3;have hc3:=(hb1.ext hB2).ext hB3;have s3:=B3.size;have s2:=hB2.size;refine lI (x:=c.Rows) (hc3.drew.cells 0 _ rfl) (lI (x:=c.Cols) (hc3.drew.cells 1 _ rfl) (lI (x:=c.Back) (hc3.drew.cells 4 _ rfl) ?_));have ng:¬vw c.Rows c.Cols c.Back:=by unfold vw;omega
 have ng0:¬vw c.Rows c.Cols 0:=by unfold vw;omega
 refine q25 (λhbad=>absurd hbad ng) λ_ f0 w4 g0 hB4=>?_;have z3:w3.drew.heap.size=w3.heap.size:=rfl;have B34:Uc w3 w4:=zu (zq w3) hB4;have hb4:=hb3.ext B34;have hc4:=hc3.ext B34;have s4:=B34.size;refine ⟨⟨by decide,by decide⟩,?_⟩;rw [qH,qH];refine qB hb4 (by simp) λw5 hb5 hg5 hs5=>?_;have c5:Chg (λk=>k=w2.heap.size) w4 w5:=Chg.gg hg5;have hC5:∀k cs,k=w2.heap.size->¬Blk w4 k qR cs:=λk cs hk hcs=>by subst hk;exact hb4.ne_t hcs (by decide) rfl
 have g0':=g0.chg c5 (λk hk e=>by have:=(g0.below k hk).1;omega) hC5;have hc5:=hc4.chg c5 (by omega);refine lI (x:=c.Rows) (hc5.drew.cells 0 _ rfl) (lI (x:=c.Cols) (hc5.drew.cells 1 _ rfl) ?_);refine q25 (λhbad=>absurd hbad ng0) λ_ f1 w6 g1 hB6=>?_;have z5:w5.drew.heap.size=w5.heap.size:=rfl;have B56:Uc w5 w6:=zu (zq w5) hB6;have hb6:=hb5.ext B56;have g0'':=g0'.ext B56;have s6:=B56.size;refine ⟨⟨by decide,by decide⟩,?_⟩;rw [qH,qH];refine qB hb6 (by simp [putL]) λw7 hb7 hg7 hs7=>?_;have c7:Chg (λk=>k=w2.heap.size) w6 w7:=Chg.gg hg7;have hC7:∀k cs,k=w2.heap.size->¬Blk w6 k qR cs:=λk cs hk hcs=>by subst hk;exact hb6.ne_t hcs (by decide) rfl
 have q0:=g0''.chg c7 (λk hk e=>by have:=(g0''.below k hk).1;omega) hC7;have q1:=g1.chg c7 (λk hk e=>by have:=(g1.below k hk).1;omega) hC7;have B7:Uc w w7:=by
  have b1:=zu B3 B34;have b2:=b1.trans (c5.below (B:=w.heap.size) b1.size λi hi e=>by omega);have b3:=zu b2 B56;exact b3.trans (c7.below (B:=w.heap.size) b3.size λi hi e=>by omega)
 have hR:ScR w7 w.heap.size w2.heap.size ⟨⟨some ⟨f0.g,0,none⟩,some ⟨f1.g,0,none⟩⟩,0,⟨0,0,false,⟨0,0,0⟩,false,⟨0,0⟩,0⟩,⟨qji,qji⟩,none,none,0,0,none,0,⟨none,0,0⟩⟩ f0 f1 (gs0 c.Rows.toNat c.Cols.toNat c.Back.toNat) (gs0 c.Rows.toNat c.Cols.toNat (0:Int).toNat) ⟨none,0,0⟩ []:=by
  refine ⟨hb7,rfl,rfl,by omega,q0.base (by omega),q1.base (by omega),Go.Vc.Own.nil _ _ _,λk hk hk'=>?_⟩;have h1:=(g0.below k hk).2;have h2:=(g1.below k hk').1;omega
 have hG0:GOk (gs0 c.Rows.toNat c.Cols.toNat c.Back.toNat):=GOk.new (by omega) (by omega) (by omega);have hG1:GOk (gs0 c.Rows.toNat c.Cols.toNat (0:Int).toNat):=GOk.new (by omega) (by omega) (by decide);refine q8u hR hG0 hG1 rfl rfl B7.size λtg tr mm mp w8 h1 h2 h3 h4 hM hc=>?_;exact hK2 ⟨o1,o2,o3,o4,o5,o6⟩ _ _ w8 hM (B7.trans (hc.below B7.size λi hi e=>by omega))
end
def zko (x:Int):Prop:=-9223372036854775808<=x/\x<=9223372036854775807
structure ParM (w:World) (g:Nat) (F:ScF) (p:Slc) (ps:List Int):Prop where
 rd:Rd jG w p ps
 off:ps=[]\/∀a,p.a=some a->¬scS g F a.block/\a.block<w.heap.size
 rng:∀x∈ps,zko x
 len:ps.length<=100000
section
variable {w w':World} {base g:Nat} {F F':ScF} {S S':Sc} {p:Slc} {ps:List Int}
theorem ParM.ext (h:ParM w g F p ps) (hB:Uc w w'):ParM w' g F p ps:=by
 have:=hB.size;exact ⟨h.rd.ext hB,h.off.imp (λe=>e) λe a ha=>⟨(e a ha).1,by have:=(e a ha).2;omega⟩,h.rng,h.len⟩
theorem ScM.ldRow (h:ScM w base g F S) {K:Int->Prop} (hK:K S.c.Row):ldI .i64 (((⟨g,0,none⟩:Addr).add 3).add 0) w K:=lI (x:=S.c.Row) (by simp only [qH];exact h.blk.cell 3 rfl) hK
theorem ScM.ldCol (h:ScM w base g F S) {K:Int->Prop} (hK:K S.c.Col):ldI .i64 (((⟨g,0,none⟩:Addr).add 3).add 1) w K:=lI (x:=S.c.Col) (by simp only [qH];exact h.blk.cell 4 rfl) hK
theorem ScM.ldOrg (h:ScM w base g F S) {K:Bool->Prop} (hK:K S.c.Origin):ldB (((⟨g,0,none⟩:Addr).add 3).add 6) w K:=jw (x:=S.c.Origin) (by simp only [qH];exact h.blk.cell 9 rfl) hK
theorem ScM.ldTop (h:ScM w base g F S) {K:Int->Prop} (hK:K S.top):ldI .i64 ((⟨g,0,none⟩:Addr).add 37) w K:=lI (x:=S.top) (by simp only [qH];exact h.blk.cell 37 rfl) hK
theorem ScM.cCol (h:ScM w base g F S):w.cell? (((⟨g,0,none⟩:Addr).add 3).add 1)=some (Ua S.c.Col):=by simp only [qH];exact h.blk.cell 4 rfl
theorem qpv (h:ParM w g F p ps) {i:Nat} {none:Int} {K:Int->Ub} (hK:K (qyd ps i none) w):Qp p i none w K:=by
 refine qr6 _ _ _ ?_;refine jpO λJ1 hJ1=>?_;have hn:=h.rd.n;unfold qyd at hK;refine cO (λe=>?_) λe=>?_
 ·have e:=oTq e;rw [List.getElem?_eq_none (by omega)] at hK;exact hK
 ·have e:=oFq e;have hi:i<ps.length:=by omega
  rw [List.getElem?_eq_getElem hi] at hK;refine h.rd.ix rfl (by omega) (by omega) λhc=>?_;have hc':w.cell? (p.at_ jG.k (i:Int).toNat)=some (Ua ps[i]):=by simpa using hc 0 _ rfl
  refine lI (x:=ps[i]) hc' ?_;dsimp only at hK;refine cO (λe1=>?_) λe1=>?_
  ·have e1:ps[i]=0:=eq_of_beq e1;rw [if_pos e1] at hK;exact hK
  ·have e1:¬ps[i]=0:=beq_eq_false_iff_ne.1 e1;rw [if_neg e1] at hK;exact hJ1 _ _ (h.rd.ix rfl (by omega) (by omega) λ_=>lI (x:=ps[i]) hc' hK)
theorem ScM.w64n (n:Int):zko (w64 n):=by
 have h:w64 n=(n+9223372036854775808)%18446744073709551616-9223372036854775808:=by
  unfold w64 IntKind.wrap;simp [IntKind.bits,IntKind.signed]
  try omega
 unfold zko;omega
end
theorem or2 {K:Bool×Unit->Ub} {c a b:Int} {w:World} (h1:c=a\/c=b->K (true,()) w) (h2:¬(c=a\/c=b)->K (false,()) w):qX K λJ=>cond (c==a) (J ((c==a),()) w) (J ((c==b),()) w):=by
 intro J hJ;refine cO (λe=>?_) λe=>?_
 ·rw [e];exact hJ _ _ (h1 (.inl (eq_of_beq e)))
 ·cases e2:(c==b)
  ·exact hJ _ _ (h2 λhh=>hh.elim (beq_eq_false_iff_ne.1 e) (beq_eq_false_iff_ne.1 e2))
  ·exact hJ _ _ (h1 (.inr (eq_of_beq e2)))
theorem or3 {K:Bool×Unit->Ub} {c a b d:Int} {w:World} (h1:c=a\/c=b\/c=d->K (true,()) w) (h2:¬(c=a\/c=b\/c=d)->K (false,()) w):qX K λJ=>cond (c==a) (J ((c==a),()) w) (cond (c==b) (J ((c==b),()) w) (J ((c==d),()) w)):=by
 intro J hJ;refine cO (λe=>?_) λe=>?_
 ·rw [e];exact hJ _ _ (h1 (.inl (eq_of_beq e)))
 ·exact or2 (K:=K) (λh=>h1 (.inr h)) (λh=>h2 λhh=>hh.elim (beq_eq_false_iff_ne.1 e) h) J hJ
theorem or4 {K:Bool×Unit->Ub} {c a b d f:Int} {w:World} (h1:c=a\/c=b\/c=d\/c=f->K (true,()) w) (h2:¬(c=a\/c=b\/c=d\/c=f)->K (false,()) w):qX K λJ=>cond (c==a) (J ((c==a),()) w) (cond (c==b) (J ((c==b),()) w) (cond (c==d) (J ((c==d),()) w) (J ((c==f),()) w))):=by
 intro J hJ;refine cO (λe=>?_) λe=>?_
 ·rw [e];exact hJ _ _ (h1 (.inl (eq_of_beq e)))
 ·exact or3 (K:=K) (λh=>h1 (.inr h)) (λh=>h2 λhh=>hh.elim (beq_eq_false_iff_ne.1 e) h) J hJ
theorem or5 {K:Bool×Unit->Ub} {c a b d f k:Int} {w:World} (h1:c=a\/c=b\/c=d\/c=f\/c=k->K (true,()) w) (h2:¬(c=a\/c=b\/c=d\/c=f\/c=k)->K (false,()) w):qX K λJ=>cond (c==a) (J ((c==a),()) w) (cond (c==b) (J ((c==b),()) w) (cond (c==d) (J ((c==d),()) w) (cond (c==f) (J ((c==f),()) w) (J ((c==k),()) w)))):=by
 intro J hJ;refine cO (λe=>?_) λe=>?_
 ·rw [e];exact hJ _ _ (h1 (.inl (eq_of_beq e)))
 ·exact or4 (K:=K) (λh=>h1 (.inr h)) (λh=>h2 λhh=>hh.elim (beq_eq_false_iff_ne.1 e) h) J hJ
namespace Sc
def modeP (S:Sc) (n:Int) (priv:Bool):Bool×Bool :=
 if priv=false then (S.mode n,decide (n=4\/n=20))
 else if n=6 then (S.c.Origin,true)
 else if n=47\/n=1047\/n=1049 then (S.alt,true)
 else if n=1\/n=7\/n=25\/n=1000\/n=2004 then (S.pmode n,true)
 else (false,false)
def placeRow (S:Sc):Int:=if S.c.Origin then (if 0>w64 (S.c.Row-S.top) then 0 else w64 (S.c.Row-S.top)) else S.c.Row
def placeP (S:Sc):List UInt8:=itoa (w64 (S.placeRow+1))++[59]++itoa (w64 (S.c.Col+1))
def bareR (S:Sc) (p:List Int) (c:Int):List UInt8 :=
 let zero:=qyd p 0 0
 if c=110 then (if zero=5 then [27,91]++[48,110] else if zero=6 then [27,91]++(S.placeP++[82]) else [])
 else if c=99 then (if zero=0 then [27,91]++[63,54,50,59,52,99] else [])
 else []
end Sc
structure Ev where
 Kind:Int
 R:Int
 B:Int
 Private:Int
 Inter:List UInt8
 Params:List Int
namespace Sc
end Sc
section
variable {w w':World} {base g:Nat} {F F':ScF} {S S':Sc} {p:Slc} {ps:List Int}
theorem ze5 (h:ScM w base g F S) {n:Int} {priv:Bool} {K:Bool->Bool->Ub} (hK:K (S.modeP n priv).1 (S.modeP n priv).2 w):yU (some ⟨g,0,none⟩) n priv w K:=by
 refine qeh _ _ _ ?_;simp only [onPtr_some];unfold Sc.modeP at hK;cases priv
 ·rw [if_pos rfl] at hK;refine cT rfl (xP (x:=some F.mm) (by rw [qH];exact h.blk.cell 35 rfl) (qmk h.mo ?_));refine cO (λe=>?_) λe=>?_
  ·have e:n=4:=eq_of_beq e;rw [dTq (.inl e)] at hK;exact hK
  ·have e:¬n=4:=beq_eq_false_iff_ne.1 e;have e2:(n==20)=decide (n=4\/n=20):=by
    by_cases e3:n=20
    ·rw [dTq (.inr e3)];exact beq_iff_eq.2 e3
    ·rw [dFq (λhh=>hh.elim e e3)];exact beq_eq_false_iff_ne.2 e3
   rw [e2];exact hK
 ·rw [if_neg (by decide)] at hK;refine cF rfl ?_;refine cO (λe=>?_) λe=>?_
  ·rw [if_pos (eq_of_beq e)] at hK;exact h.ldOrg hK
  rw [if_neg (beq_eq_false_iff_ne.1 e)] at hK;refine or3 (λe=>cT rfl ?_) λe=>cF rfl ?_
  ·rw [if_pos e] at hK;exact q82 h hK
  rw [if_neg e] at hK;refine or5 (λe=>cT rfl ?_) λe=>cF rfl ?_
  ·rw [if_pos e] at hK;exact xP (x:=some F.mp) (by rw [qH];exact h.blk.cell 36 rfl) (qmk h.pr hK)
  ·rw [if_neg e] at hK;exact hK
theorem q4z (h:ScM w base g F S) (hT:Tab w) {K:ByteArray->Ub} (hK:∀w',Uc w w'->S.placeP.length<=50->K (ze S.placeP) w'):k7 (some ⟨g,0,none⟩) w K:=by
 refine qds _ ?_;simp only [onPtr_some];refine h.ldRow (jpO λJ1 hJ1=>?_);have key:J1 (S.placeRow,()) w:=by
  refine hJ1 _ _ ?_;have hd:=(ScT.refl h).drew;refine hd.m.ldCol ?_;refine qti (hT.ext (zq w)) (ScM.w64n _).1 (ScM.w64n _).2 λw2 hB2=>?_;have h2:=hd.ext hB2;have B2:=zu (zq w) hB2;have l1:=qq3 (ScM.w64n (S.placeRow+1)).1 (ScM.w64n (S.placeRow+1)).2;have l2:=qq3 (ScM.w64n (S.c.Col+1)).1 (ScM.w64n (S.c.Col+1)).2;have e59:(⟨#[59]⟩:ByteArray)=ze [59]:=rfl;show _/\(((ze (itoa (w64 (S.placeRow+1)))).size+_:Nat):Int)<=_/\_;refine ⟨h2.m.cCol,?_,?_⟩
  ·rw [e59,zo,zo];simp only [length_cons,length_nil];omega
  refine qti ((hT.ext (zq w)).ext hB2) (ScM.w64n _).1 (ScM.w64n _).2 λw3 hB3=>?_;rw [e59,JJ];have B3:=zu B2 hB3;show (((ze (itoa (w64 (S.placeRow+1))++[59])).size+(ze (itoa (w64 (S.c.Col+1)))).size:Nat):Int)<=_/\K (ze (itoa (w64 (S.placeRow+1))++[59])++ze (itoa (w64 (S.c.Col+1)))) w3;rw [JJ];refine ⟨?_,hK w3 B3 ?_⟩
  ·rw [zo,zo,length_append];simp only [length_cons,length_nil];omega
  ·unfold Sc.placeP;rw [length_append,length_append];simp only [length_cons,length_nil];omega
 unfold Sc.placeRow at key;refine h.ldOrg (cO (λe=>?_) λe=>?_)
 ·rw [if_pos e] at key;exact h.ldTop key
 ·rw [if_neg (by rw [e];decide)] at key;exact key
theorem qpz {bs:List UInt8} (hl:bs.length<=1000) {K:Slc->Ub} (hK:∀q w',Rd qu w' q ([27,91]++bs)->Uc w w'->K q w'):x9 (ze bs) w K:=by
 refine qqv _ ?_;have e:(⟨#[27,91]⟩:ByteArray)=ze [27,91]:=rfl;rw [e,JJ,zo,zo];refine ⟨by simp only [length_cons,length_nil];omega,?_⟩;exact qsa (by simp only [length_append,length_cons,length_nil];omega) λq w' hq _ hB _=>hK q w' hq hB
end
theorem qus {s:Slc} {xs:List Slc} {w:World} {K:Slc->Ub} (h:Rd slE w s xs) (hl:xs.length<=1000000)
  (hK:∀r w',Go.Vc.Own slE w' w.heap.size r xs->Uc w w'->K r w'):zU s w K:=by
 refine Q7 _ ?_;refine cO (λe=>?_) (λe=>?_)
 ·have:s.a=none:=by cases ha:s.a with
   | none=>rfl
   | some a=>rw [ha] at e;cases e
  rw [h.none_nil this] at hK;exact hK _ _ (Go.Vc.Own.nil _ _ _) (Below.refl _ _)
 ·refine nwb λw1 hb1 hB1 hs1=>?_;refine jz qlx (YZ (E:=slE) hb1 (le_refl _)) (h.ext hB1) (by omega) (by rw [q87];simp;omega) (by simp [maxLen];omega) λr w2 ho2 hg2 hr2=>?_;exact hK r w2 (by simpa using ho2) (hB1.grown hg2 (by omega) λg hg=>by cases hg;exact le_refl _)
section
variable {w w':World} {base g:Nat} {F F':ScF} {S S':Sc} {p:Slc} {ps:List Int} {f:Foot} {G:GS}
theorem za2 {K:Option Addr->Ub} (h:GridM w base f G) (hL:G.L.length<=1000) (hm:G.most<=100000) (hb:base<=w.heap.size)
  (hK:∀f' w',GridM w' base f' G->(∀k,x6 f' k->w.heap.size<=k)->Uc w w'->K (some ⟨f'.g,0,none⟩) w'):Kj (some ⟨f.g,0,none⟩) w K:=by
 refine qmw _ ?_;simp only [onPtr_some];obtain ⟨ls,ho,hl⟩:=h.row;have hll:=hl.1;refine qy (r:=kT.rep) (x:=⟨some ⟨f.r,0,none⟩,G.rows,G.cols,f.ls,G.top⟩) h.blk.cells ?_;refine nwb λw1 hx1 hB1 hs1=>qam hx1 rfl λw2 hx2 hc2 hs2=>?_;have hB2:Uc w w2:=xg hB1 hc2 (le_refl _);have h2:=h.ext hB2;refine qK (x:=some ⟨f.r,0,none⟩) (by rw [qH];exact h2.blk.cell 0 rfl) ?_;obtain ⟨at_,gone,rls,xss,hrb0,hro0,hrl,hbr,eold,hmost,hat⟩:=h.ring;have hrb:=hrb0.ext hB2;have hro:=hro0.ext hB2;refine KP _ ?_;simp only [onPtr_some];refine qy (r:=zm.rep) (x:=⟨G.most,f.rs,at_,gone⟩) hrb.cells ?_;refine nwb λw3 hy3 hB3 hs3=>qam hy3 rfl λw4 hy4 hc4 hs4=>?_;have hB4':Uc w2 w4:=xg hB3 hc4 (le_refl _);have hrb4:=hrb.ext hB4';refine lSl (x:=f.rs) (by rw [qH];exact hrb4.cell 1 rfl) ?_;have hro4:=hro.ext hB4';have hrll:=hrl.1;refine qus hro4.rd (by omega) λq w5 hq5 hB5=>?_;have hy5:=hy4.ext hB5;simp only [qH];refine qB hy5 (by simp [zm.rep]) λw6 hy6 hg6 hs6=>?_;have z1:=hB1.size;have z5:=hB5.size;have hx4:=hx2.ext hB4';have hx5:=hx4.ext hB5;have hx6:=hx5.chg (Chg.gg hg6) (by omega);have hB6:Uc w2 w6:=xg (zu hB4' hB5) (Chg.gg hg6) (le_refl _);have hq6:=hq5.chg (Chg.gg hg6) λk hk e=>by have:=(hq5.lt k hk).1;omega
 refine qB hx6 (by simp [kT.rep]) λw7 hx7 hg7 hs7=>?_;have c7:Chg (λk=>k=w.heap.size) w6 w7:=Chg.gg hg7;have hy7:=hy6.chg c7 (by omega);have hq7:=hq6.chg c7 λk hk e=>by have:=(hq6.lt k hk).1;omega
 have hB7:Uc w w7:=xg (zu hB2 hB6) c7 (le_refl _);have h7:=h.ext hB7;refine lSl (x:=f.ls) (h7.blk.cell 3 rfl) ?_;have ho7:=ho.ext hB7;refine qus ho7.rd (by omega) λt w8 ht8 hB8=>?_;have hx8:=hx7.ext hB8;refine qB hx8 (by simp [kT.rep,putL]) λw9 hx9 hg9 hs9=>?_;have c9:Chg (λk=>k=w.heap.size) w8 w9:=Chg.gg hg9;have z8:=hB8.size;have z7:=hB7.size;have hy9:=(hy7.ext hB8).chg c9 (by omega);have hq9:=(hq7.ext hB8).chg c9 λk hk e=>by have:=(hq7.lt k hk).1;omega
 have ht9:=ht8.chg c9 λk hk e=>by have:=(ht8.lt k hk).1;omega
 have hB9:Uc w w9:=xg (zu hB7 hB8) c9 (le_refl _);have hl9:=hl.ext hB9;have hrl9:=hrl.ext hB9;have z6:=hB6.size;have z2:=hB2.size;refine hK ⟨w.heap.size,w2.heap.size,t,q⟩ w9 ⟨hx9,hb,⟨ls,ht9.base (by omega),hl9⟩,⟨at_,gone,rls,xss,hy9,hq9.base (by omega),hrl9,by show base<=w2.heap.size;omega,eold,hmost,hat⟩,λk hk hk'=>?_⟩ ?_ hB9
 ·have h1:=(ht8.lt k hk).1;have h2:=(hq7.lt k hk').2;omega
 ·rintro k (rfl | rfl | hk | hk)
  ·exact le_refl _
  ·show w.heap.size<=w2.heap.size;omega
  ·have:=(ht8.lt k hk).1;omega
  ·have:=(hq5.lt k hk).1;have:=hB4'.size;omega
theorem q3d (h:ScM w base g F S) {K:Option Addr->Ub} (hK:∀f' w',GridM w' base f' S.g->(∀k,x6 f' k->w.heap.size<=k)->ScM w' base g F S->Uc w w'->K (some ⟨f'.g,0,none⟩) w'):kR (some ⟨g,0,none⟩) w K:=by
 refine qel _ ?_;refine qqq h ?_;have hd:=h.drew;have hG:=h.gOk;refine za2 hd.gM (by rw [hG.len];exact hG.rows.2) (by have:=hG.most;omega) hd.base_le λf' w' hg hf hB=>?_;exact hK f' w' hg hf (hd.ext hB) (zu (zq w) hB)
theorem qxr {n:Int} {K:ByteArray->Ub} (hK:K (ze (Utf8.encode n).data.toList) w):jq PG (convert za zC (.int .u8 n)) Kind.string w K:=by
 rw [zi9] at hK;exact ⟨_,w,run_convert_int_string w za zC .u8 n (by kernel_rfl) (by kernel_rfl),hK⟩
theorem qy0 (n:Int) (h:0<=n/\n<=255):(Utf8.encode n).data.toList.length<=4:=by
 have hv:Utf8.valid n=true:=by
  unfold Utf8.valid;simp;omega
 by_cases h2:n<128
 ·unfold Utf8.encode;simp only [hv,if_true];rw [if_pos (by omega)];simp
 ·have:=(encode_facts n hv (by omega)).2.1;simpa using this
structure EvM (w:World) (g:Nat) (F:ScF) (e:zg) (v:Ev):Prop where
 k:e.Kind=v.Kind
 r:e.R=v.R
 b:e.B=v.B
 p:e.Private=v.Private
 i:e.Inter=ze v.Inter
 ps:ParM w g F e.Params v.Params
 br:0<=v.B/\v.B<=255
 pr:0<=v.Private/\v.Private<=255
 il:v.Inter.length<=100000
end
section
variable {w w':World} {base g:Nat} {F F':ScF} {S S':Sc} {p:Slc} {ps:List Int}
namespace Sc
end Sc
namespace Sc
def indexes (S:Sc):Nat->Sc
 | 0=>S
 | n+1=>(S.indexes n).index
def moveP (S:Sc) (rows cols:Int):Sc :=
 let S1:=if 0<=rows/\rows<=1000 then S.indexes rows.toNat else S
 if 0<=cols/\cols<=1000 then S1.to S1.c.Row (w64 (S1.c.Col+cols)) else S1
end Sc
theorem zfb (h:ScM w base g F S) {rows cols:Int} {K:Ub} (hK:∀F' w',ScT base g w F F' (S.moveP rows cols) w'->K w'):jJ (some ⟨g,0,none⟩) rows cols w K:=by
 refine qeg _ _ _ ?_;simp only [onPtr_some];unfold Sc.moveP at hK;dsimp only at hK;refine jpO λJ1 hJ1=>?_;have key:∀(S1:Sc) F1 w1,ScT base g w F F1 S1 w1->(∀F' w',ScT base g w F F' (if 0<=cols/\cols<=1000 then S1.to S1.c.Row (w64 (S1.c.Col+cols)) else S1) w'->K w')->J1 () w1:=by
  intro S1 F1 w1 hT1 hK;refine hJ1 _ _ (kQ (cO (λe=>?_) λe=>?_))
  ·rw [if_pos (oTq e)] at hK;have hd:=hT1.drew;exact hd.m.ldRow (hd.m.ldCol (qwr hd.m λw3 hT3=>hK _ _ (hd.trans hT3)))
  ·rw [if_neg (oFq e)] at hK;exact hK _ _ hT1
 refine kQ (cO (λe=>?_) λe=>?_)
 ·have e:=oTq e;rw [if_pos e] at hK;refine lpR (λ(st:Int×Unit) w2=>∃(k:Nat) (F2:ScF),st.1=(k:Int)/\(k:Int)<=rows/\ScT base g w F F2 (S.indexes k) w2) (λst=>rows.toNat-st.1.toNat) ⟨0,F,rfl,by omega,ScT.refl h⟩ ?_;rintro ⟨i,u⟩ w2 ⟨k,F2,hi,hk,hT2⟩ I hI;dsimp only at hi ⊢;subst hi;refine cO (λe=>?_) λe=>?_
  ·have e:=oTq e;refine qp5 hT2.m λF3 w3 hT3=>?_;rw [qQ (x:=(k:Int)+1) (by omega)];exact hI _ _ ⟨k+1,F3,by simp,by omega,hT2.trans hT3⟩ (by dsimp only;omega)
  ·have e:=oFq e;have hkr:k=rows.toNat:=by omega
   rw [<-hkr] at hK;exact key _ _ _ hT2 hK
 ·rw [if_neg (oFq e)] at hK;exact key _ _ _ (ScT.refl h) hK
end
def same (G G':GS):Prop:=G'.most=G.most/\G'.rows=G.rows/\G'.cols=G.cols
structure Fr (n:Nat) (S S':Sc):Prop where
 alt:S'.alt=S.alt
 s0:S'.s0=S.s0
 s1:S'.s1=S.s1
 g0:same S.g0 S'.g0
 g1:same S.g1 S'.g1
 ar:S'.areas.length<=S.areas.length+n
variable {S S' S'':Sc} {n k0:Nat}
def ql8:El Slc where
 cells s:=[.slice s.a s.n s.c]
 t:=xA
 k:=1
 pos:=by decide
 len _:=rfl
 one x v hv:=by
  simp only [mem_cons,List.mem_nil_iff,or_false] at hv;rcases hv with rfl
  rfl
noncomputable def zk8:SlT PG ql8 jX where
 ht:=by kernel_rfl
 i:=(PG.info? xA).getD default
 hi:=by kernel_rfl
 z:=.slice none 0 0
 hz:=by kernel_rfl
 hs:=by kernel_rfl
 hzs:=rfl
theorem zn6:zk8.i.bytes=24:=by kernel_rfl
structure RFoot where
 g:Nat
 ls:Slc
 os:Slc
def qvy (f:RFoot) (k:Nat):Prop:=k=f.g\/f.ls.blk=some k\/f.os.blk=some k
structure RefM (w:World) (base:Nat) (f:RFoot) (S:GS):Prop where
 blk:Blk w f.g Vj [.int .i64 S.rows,.int .i64 S.cols,.int .i64 S.most,.slice f.ls.a f.ls.n f.ls.c,.slice f.os.a f.os.n f.os.c,.int .i64 S.top]
 hg:base<=f.g
 row:∃ls,Go.Vc.Own ql8 w base f.ls ls/\Lines w base ls S.L
 old:∃ls,Go.Vc.Own ql8 w base f.os ls/\Lines w base ls S.old
 ne:∀k,f.ls.blk=some k->f.os.blk≠some k
structure RFoot.to (f f':RFoot) (n:Nat):Prop where
 g:f'.g=f.g
 ls:f'.ls.blk=f.ls.blk\/∀k,f'.ls.blk=some k->n<=k
 os:f'.os.blk=f.os.blk\/∀k,f'.os.blk=some k->n<=k
theorem RFoot.to.old {f f':RFoot} {n:Nat} (h:f.to f' n):∀k,qvy f' k->qvy f k\/n<=k:=by
 rintro k (rfl | hk | hk)
 ·exact .inl (.inl h.g)
 ·rcases h.ls with e | e
  ·exact .inl (.inr (.inl (by rw [<-e];exact hk)))
  ·exact .inr (e k hk)
 ·rcases h.os with e | e
  ·exact .inl (.inr (.inr (by rw [<-e];exact hk)))
  ·exact .inr (e k hk)
theorem RFoot.to.trans {f f' f'':RFoot} {n n':Nat} (h:f.to f' n) (h':f'.to f'' n') (hn:n<=n'):f.to f'' n:=by
 refine ⟨h'.g.trans h.g,?_,?_⟩
 ·rcases h'.ls with e | e
  ·rcases h.ls with e' | e'
   ·exact .inl (e.trans e')
   ·exact .inr λk hk=>e' k (by rw [<-e];exact hk)
  ·exact .inr λk hk=>Nat.le_trans hn (e k hk)
 ·rcases h'.os with e | e
  ·rcases h.os with e' | e'
   ·exact .inl (e.trans e')
   ·exact .inr λk hk=>e' k (by rw [<-e];exact hk)
  ·exact .inr λk hk=>Nat.le_trans hn (e k hk)
section
variable {w w' w1 w2:World} {base:Nat} {f:RFoot} {S:GS}
theorem RefM.chg {T:Nat->Prop} (h:RefM w base f S) (hc:Chg T w w') (hT:∀k,qvy f k->¬T k) (hC:∀k cs,T k->¬Blk w k qR cs):RefM w' base f S:=by
 obtain ⟨ls,ho,hl⟩:=h.row;obtain ⟨os,ho',hl'⟩:=h.old;exact ⟨h.blk.chg hc (hT _ (.inl rfl)),h.hg,⟨ls,ho.chg hc λg hg=>hT g (.inr (.inl hg)),hl.chg hc hC⟩,⟨os,ho'.chg hc λg hg=>hT g (.inr (.inr hg)),hl'.chg hc hC⟩,h.ne⟩
theorem RefM.ext (h:RefM w base f S) (hb:Uc w w'):RefM w' base f S :=
 h.chg (Chg.of_ext (S:=λ_=>False) hb) (λ_ _ h=>h) (λ_ _ h=>h.elim)
theorem RefM.drew (h:RefM w base f S):RefM w.drew base f S:=h.ext ((Below.refl _ w).drew)
theorem RefM.below (h:RefM w base f S):∀k,qvy f k->base<=k/\k<w.heap.size:=by
 obtain ⟨ls,ho,hl⟩:=h.row;obtain ⟨os,ho',hl'⟩:=h.old;rintro k (rfl | hk | hk)
 ·exact ⟨h.hg,h.blk.lt⟩
 ·exact ho.lt k hk
 ·exact ho'.lt k hk
theorem RefM.notC (h:RefM w base f S):∀k cs,qvy f k->¬Blk w k qR cs:=by
 obtain ⟨ls,ho,hl⟩:=h.row;obtain ⟨os,ho',hl'⟩:=h.old;rintro k cs (rfl | hk | hk) hc
 ·exact hc.ne_t h.blk (by decide) rfl
 ·obtain ⟨cs',hcs'⟩:=ho.blk_t hk;exact hc.ne_t hcs' (by decide) rfl
 ·obtain ⟨cs',hcs'⟩:=ho'.blk_t hk;exact hc.ne_t hcs' (by decide) rfl
theorem RefM.g_ne (h:RefM w base f S):(∀k,f.ls.blk=some k->k≠f.g)/\(∀k,f.os.blk=some k->k≠f.g):=by
 obtain ⟨ls,ho,hl⟩:=h.row;obtain ⟨os,ho',hl'⟩:=h.old;refine ⟨λk hk=>?_,λk hk=>?_⟩
 ·obtain ⟨cs,hcs⟩:=ho.blk_t hk;exact hcs.ne_t h.blk (by decide)
 ·obtain ⟨cs,hcs⟩:=ho'.blk_t hk;exact hcs.ne_t h.blk (by decide)
theorem RefM.mk' {g:Nat} {vs:List Value} {s o:Slc} {ls os:List Slc} {L old:List (List qU)} {top:Int} {rows cols most:Nat} (h:Blk w1 g Vj vs) (h0:base<=g) (hrow:Go.Vc.Own ql8 w1 base s ls) (hl:Lines w1 base ls L) (hrow':Go.Vc.Own ql8 w1 base o os) (hl':Lines w1 base os old)
  (hne:∀k,s.blk=some k->o.blk≠some k) (hb:Blk w2 g Vj [.int .i64 rows,.int .i64 cols,.int .i64 most,.slice s.a s.n s.c,.slice o.a o.n o.c,.int .i64 top]) (hg:w1.grownBy w2 (some g)) :
  RefM w2 base ⟨g,s,o⟩ ⟨rows,cols,most,L,old,top⟩:=by
 have hc:Chg (λk=>k=g) w1 w2:=Chg.gg hg;have notC:∀k cs,k=g->¬Blk w1 k qR cs:=λk cs hk hcs=>by
  subst hk;exact hcs.ne_t h (by decide) rfl
 have ap:∀{s:Slc} {ls:List Slc},Go.Vc.Own ql8 w1 base s ls->∀k,s.blk=some k->k≠g:=λho k hk=>by
  obtain ⟨cs,hcs⟩:=ho.blk_t hk;exact hcs.ne_t h (by decide)
 exact ⟨hb,h0,⟨ls,hrow.chg hc (ap hrow),hl.chg hc notC⟩,⟨os,hrow'.chg hc (ap hrow'),hl'.chg hc notC⟩,hne⟩
theorem qz5 {n:Int} {K:Bool->Ub} (hk:K (decide (1<=n/\n<=1000)) w):qic n w K:=by
 refine q0y _ ?_;refine cO (λh=>?_) (λh=>?_)
 ·have h:1<=n:=oTq h;have:decide (n<=1000)=decide (1<=n/\n<=1000):=by simp [h]
  rw [this];exact hk
 ·have h:=oFq h;have:decide (1<=n/\n<=1000)=false:=by simp;omega
  rw [this] at hk;exact hk
theorem zn1 {t:Slc} {xs:List qU} {K:Ub} (h:RefM w base f S) (ht:Go.Vc.Own zi w base t xs) (hlen:S.L.length<=100000) (hbase:base<=w.heap.size)
  (hK:∀q w',RefM w' base { f with ls:=q } { S with L:=S.L++[xs] }->f.to { f with ls:=q } w.heap.size->Chg (qvy f) w w'->K w') :
  nw xA [(.slice t.a t.n t.c)] w λu w1=>w1.cell? ((⟨f.g,0,none⟩:Addr).add 3)=some (.slice f.ls.a f.ls.n f.ls.c)/\apK PG #[jX,jX] jX f.ls (⟨(some u),1,1⟩:Slc) w1 λq w2=>stK ((⟨f.g,0,none⟩:Addr).add 3) [(.slice q.a q.n q.c)] w2 K:=by
 refine nwb λw1 hb1 hB1 hs1=>?_;have h1:=h.ext hB1;refine ⟨h1.blk.cells 3 _ rfl,?_⟩;obtain ⟨ls,ho,hl⟩:=h1.row;obtain ⟨os,ho',hl'⟩:=h1.old;have hll:=hl.1;have hr1:Rd ql8 w1 ⟨some ⟨w.heap.size,0,none⟩,1,1⟩ [t]:=Ze (E:=ql8) hb1 rfl;refine jz zk8 ho hr1 (by omega) (by rw [zn6];simp;omega) (by simp [maxLen];omega) λq w2 ho2 hg2 hq2=>?_;have hc2:Chg (λk=>f.ls.blk=some k) w1 w2:=Chg.of_grown hg2 λk hk=>hk;have notC:∀k cs,f.ls.blk=some k->¬Blk w1 k qR cs:=λk cs hk=>h1.notC k cs (.inr (.inl hk));obtain ⟨g2,g3⟩:=h1.g_ne;have hb2:=h1.blk.chg hc2 λe=>g2 _ e rfl;have ht1:=ht.ext hB1;have hl2:=(hl.chg hc2 notC).append (Lines.one (ht1.chg hc2 λg hg hs=>by
  obtain ⟨cs,hcs⟩:=ht1.blk_t hg;exact notC g cs hs hcs))
 have ho2':=ho'.chg hc2 λk hk hs=>h1.ne k hs hk;have hl2':=hl'.chg hc2 notC;have hne:∀k,q.blk=some k->f.os.blk≠some k:=λk hk e=>by
  rcases hq2 with e' | e'
  ·exact h1.ne k (by rw [<-e'];exact hk) e
  ·rw [e'] at hk;cases hk;have:=(ho'.lt _ e).2;omega
 rw [qH];refine qB hb2 (by simp) λw3 hb3 hg3 hs3=>?_;refine hK q w3 (RefM.mk' (g:=f.g) hb2 h.hg ho2 hl2 ho2' hl2' hne hb3 hg3) ⟨rfl,?_,.inl rfl⟩ (((Chg.of_ext (S:=qvy f) hB1).trans hc2 λi _ hi=>.inr (.inl hi)).trans (Chg.gg hg3) λi _ hi=>.inl hi);rcases hq2 with e | e
 ·exact .inl e
 ·exact .inr λk hk=>by
   have hk:q.blk=some k:=hk;rw [e] at hk;cases hk;exact hB1.size
theorem q8k {a:vD} {K:Ub} (h:RefM w base f S) (hrows:S.rows<=100000) (hbase:base<=w.heap.size)
  (hK:∀f' w',RefM w' base f' { S with L:=List.replicate S.rows (y1 S.cols a) }->f.to f' w.heap.size->Chg (qvy f) w w'->K w'):Kr (some ⟨f.g,0,none⟩) a w K:=by
 refine qnj _ _ ?_;simp only [onPtr_some];refine nwb λw1 hb1 hB1 hs1=>?_;have h1:=h.ext hB1;rw [qH];refine qB h1.blk (by simp) λw2 hb2 hg2 hs2=>?_;obtain ⟨os,ho',hl'⟩:=h1.old;have h2:RefM w2 base ⟨f.g,⟨none,0,0⟩,f.os⟩ { S with L:=[] }:=RefM.mk' (g:=f.g) h1.blk h.hg (Go.Vc.Own.nil _ _ _) (Lines.nil _ _) ho' hl' (λk hk=>by cases hk) hb2 hg2;have hc2:Chg (qvy f) w w2:=(Chg.of_ext (S:=qvy f) hB1).trans (Chg.gg hg2) λi _ hi=>.inl hi;have hfg:=(h.below _ (.inl rfl)).2;have ha2:Blk w2 w.heap.size zH (qt.rep.cells a):=hb1.grown hg2 λe=>by have e:=Option.some.inj e;omega
 refine lpR (λ(s:Int×Unit) w3=>∃(k:Nat) (f':RFoot),s.1=k/\k<=S.rows/\f'.g=f.g/\RefM w3 base f' { S with L:=List.replicate k (y1 S.cols a) }/\f.to f' w.heap.size/\Chg (qvy f) w w3/\Blk w3 w.heap.size zH (qt.rep.cells a)/\(∀k,f'.ls.blk=some k->k≠w.heap.size))
  (λs=>S.rows-s.1.toNat) ⟨0,⟨f.g,⟨none,0,0⟩,f.os⟩,rfl,by omega,rfl,h2,⟨rfl,.inr λk hk=>(by cases hk),.inl rfl⟩,hc2,ha2,λk hk=>by cases hk⟩ ?_
 rintro ⟨i,_⟩ w3 ⟨k,f',rfl,hk,hf'g,h3,hf3,hc3,ha3,hne3⟩ I hI;dsimp only at *;rw [<-hf'g];refine lI (x:=(S.rows:Int)) (h3.blk.cells 0 _ rfl) ?_;refine cO (λhlt=>?_) (λhge=>?_)
 ·have hlt:=oTq hlt;refine lSl (x:=f'.ls) (h3.drew.blk.cells 3 _ rfl) ?_;refine lI (x:=(S.cols:Int)) (h3.drew.blk.cells 1 _ rfl) ?_;refine qy (x:=a) ha3.drew.cells ?_;refine zd3 λt w4 ht hB4=>?_;have hB34:Uc w3 w4:=(Below.refl _ w3).drew.trans hB4;have h4:=h3.ext hB34;have hs3:=hc3.size;have hs34:w3.heap.size<=w4.heap.size:=hB34.size;refine ⟨h4.blk.cells 3 _ rfl,?_⟩;refine zn1 h4 (ht.base (by show base<=w3.heap.size;omega)) (by simp;omega) (by omega) λq w5 h5 hf5 hc5=>?_;rw [qQ (by omega)];have hold:=hf3.old;refine hI _ _ ⟨k+1,{ f' with ls:=q },by simp,by omega,hf'g,by rw [List.replicate_succ'];exact h5,hf3.trans hf5 (by omega),?_,?_,?_⟩ (by simp;omega)
  ·refine (hc3.trans (Chg.of_ext (S:=qvy f) hB34) λi _ hi=>hi).trans hc5 λi hi hs=>?_;rcases hold i hs with e | e
   ·exact e
   ·omega
  ·refine (ha3.ext hB34).chg hc5 λhs=>?_;rcases hs with e | e | e
   ·rw [hf'g] at e;omega
   ·exact hne3 _ e rfl
   ·rcases hold _ (.inr (.inr e)) with e' | e'
    ·have:=(h.below _ e').2;omega
    ·obtain ⟨cs',hcs'⟩:=(h4.old.choose_spec).1.blk_t e;exact (ha3.ext hB34).ne_t hcs' (by decide) rfl
  ·intro j hj;have hj:q.blk=some j:=hj;rcases hf5.ls with e | e
   ·rw [e] at hj;exact hne3 j hj
   ·have:=e j hj;have:=ha3.lt;omega
 ·have hge:=oFq hge;have:k=S.rows:=by omega
  subst this;exact hK f' w3 h3 hf3 hc3
end
theorem q0c {rows cols back:Int} {w:World} {K:Option Addr->Int->Ub} (hK1:vw rows cols back->K none 1 w)
  (hK2:¬vw rows cols back->∀f w',RefM w' w.heap.size f (gs0 rows.toNat cols.toNat back.toNat)->Uc w w'->K (some ⟨f.g,0,none⟩) 0 w'):Jn rows cols back w K:=by
 refine q5c _ _ _ ?_;refine jpO λJ hJ=>?_;refine qz5 ?_;by_cases h1:1<=rows/\rows<=1000
 rotate_left
 ·rw [dFq h1];exact cT rfl (hK1 (.inl h1))
 rw [dTq h1];refine cF rfl (qz5 ?_);by_cases h2:1<=cols/\cols<=1000
 rotate_left
 ·rw [dFq h2];exact cT rfl (hK1 (.inr (.inl h2)))
 rw [dTq h2];refine cF rfl ?_;refine cO (λh3=>hK1 (.inr (.inr (.inl (oTq h3))))) (λh3=>?_);refine cO (λh4=>hK1 (.inr (.inr (.inr (oTq h4))))) (λh4=>?_);have h3:=oFq h3;have h4:=oFq h4;have hgood:¬vw rows cols back:=by unfold vw;omega
 refine hJ _ _ ?_;refine nwb λw2 hb2 hB2 hs2=>?_;have hg2:RefM w2 w.heap.size ⟨w.heap.size,⟨none,0,0⟩,⟨none,0,0⟩⟩ ⟨rows.toNat,cols.toNat,back.toNat,[],[],0⟩:=by
  refine ⟨?_,le_refl _,⟨[],Go.Vc.Own.nil _ _ _,Lines.nil _ _⟩,⟨[],Go.Vc.Own.nil _ _ _,Lines.nil _ _⟩,λk hk=>by cases hk⟩;show Blk w2 w.heap.size Vj [.int .i64 ((rows.toNat:Nat):Int),.int .i64 ((cols.toNat:Nat):Int),.int .i64 ((back.toNat:Nat):Int),_,_,_];rw [show ((rows.toNat:Nat):Int)=rows by omega,show ((cols.toNat:Nat):Int)=cols by omega,show ((back.toNat:Nat):Int)=back by omega];exact hb2
 refine q8k (f:=⟨w.heap.size,⟨none,0,0⟩,⟨none,0,0⟩⟩) hg2 (by show rows.toNat<=100000;omega) hB2.size λf' w3 hg3 hf hc=>?_;have hg':f'.g=w.heap.size:=hf.g;have key:=hK2 hgood f' w3 hg3 (hB2.trans (hc.below hB2.size λi hi hs=>by have:=(hg2.below i hs).1;omega));rw [hg'] at key;exact key
set_option maxRecDepth 100000
structure RefT (w:World) (base g:Nat) (q:Slc) (B:List Bool):Prop where
 blk:Blk w g qsr [.slice q.a q.n q.c]
 own:Go.Vc.Own zan w base q B
section
variable {w w':World} {base g:Nat} {q:Slc} {B:List Bool}
theorem RefT.ne (h:RefT w base g q B):∀k,q.blk=some k->k≠g:=qF h.own h.blk (by decide)
theorem RefT.keep {Sx:Nat->Prop} (h:RefT w base g q B) (hc:Chg Sx w w') (hg:¬Sx g) (hq:∀k,q.blk=some k->¬Sx k):RefT w' base g q B:=⟨h.blk.chg hc hg,h.own.chg hc hq⟩
theorem RefT.ext (h:RefT w base g q B) (hb:Uc w w'):RefT w' base g q B:=⟨h.blk.ext hb,h.own.ext hb⟩
theorem RefT.ld (h:RefT w base g q B):w.cell? ((⟨g,0,none⟩:Addr).add 0)=some (.slice q.a q.n q.c):=h.blk.cells 0 _ rfl
theorem zb8 (cols:Int) {w:World} {base:Nat} (hbase:base<=w.heap.size) {K:Option Addr->Int->Ub} (hE:(cols<1\/1000<cols)->K none 1 w)
  (hK:∀q w',1<=cols->cols<=1000->RefT w' w.heap.size w.heap.size q (ZP [] cols.toNat)->Uc w w'->K (some ⟨w.heap.size,0,none⟩) 0 w'):qff cols w K:=by
 refine q3p _ ?_;refine jpO λJ hJ=>?_;refine cO (λh1=>hE (.inl (oTq h1))) λh1=>?_;refine cO (λh2=>hE (.inr (oTq h2))) λh2=>?_;have h1:=oFq h1;have h2:=oFq h2;obtain ⟨n,rfl⟩:∃n:Nat,cols=n:=⟨cols.toNat,by omega⟩;rw [toNat_natCast] at hK;refine hJ _ _ ?_;refine nwb λw1 hb1 hB1 hs1=>?_;refine lpR (λ(s:Int×Unit) w2=>∃m:Nat,s.1=m/\m<=n/\(∃q,RefT w2 w.heap.size w.heap.size q (ZP [] m))/\Uc w w2/\w1.heap.size<=w2.heap.size)
  (λs=>n-s.1.toNat) ⟨0,rfl,zero_le _,⟨⟨none,0,0⟩,hb1,Go.Vc.Own.nil _ _ _⟩,hB1,le_refl _⟩ ?_
 rintro ⟨i,u⟩ w2 ⟨m,hi,hm,⟨q,hR⟩,hB2,hsz⟩ I hI;dsimp only at hi ⊢;subst hi;have hg:=hR.blk.lt;have hsnoc:∀b:Bool,b=qxy m->(nw qce [(.bool b)] w2 λt31 w4=>apK PG #[vb,vb] vb q (⟨(some t31),1,1⟩:Slc) w4 λt32 w5=>
      stK ((⟨w.heap.size,0,none⟩:Addr).add 0) [(.slice t32.a t32.n t32.c)] w5 λw6=>I ((i64.wrap ((m:Int)+(1:Int))),()) w6)\/¬m<n:=by
  intro b hb;by_cases hlt:m<n
  ·left;subst hb;refine qa5 (E:=zan) qwz hR.own rfl (by omega) (by rw [q9g,resz_length];omega) (by rw [resz_length];unfold maxLen;omega) λr w5 ho hc hr=>?_;have hbl:=hR.blk.chg hc λe=>hR.ne _ e rfl;rw [add_zero];refine qB hbl (by simp) λw6 hb6 hg6 hs6=>?_;rw [i64_in (by omega)];have ho6:=ho.chg (Go.Vc.Chg.gg hg6) λk hk e=>qF ho hbl (by decide) k hk e;have e:ZP [] m++[qxy m]=ZP [] (m+1):=by unfold ZP;rw [List.range_succ,List.map_append];rfl
   rw [e] at ho6;refine hI _ _ ⟨m+1,by simp,by omega,⟨r,hb6,ho6⟩,?_,?_⟩ (by simp;omega)
   ·exact (hB2.trans ((hc.below hB2.size λi hi e=>by have:=(hR.own.lt i e).1;omega))).grown hg6 (by have:=hc.size;omega) λk hk=>by cases hk;exact le_refl _
   ·have:=hc.size;omega
  ·exact .inr hlt
 by_cases hlt:m<n
 ·refine cT (by simp;omega) ?_;refine lSl (x:=q) hR.ld ?_;refine cO (λhp=>⟨by decide,?_⟩) λhp=>?_
  ·have hp:(0:Int)<m:=oTq hp;refine (hsnoc ((m:Int).tmod 8==0) (zdj (by omega))).resolve_right (by omega)
  ·have hp:¬(0:Int)<m:=oFq hp;obtain rfl:m=0:=by omega
   refine (hsnoc false rfl).resolve_right (by omega)
 ·refine cF (by simp;omega) ?_;obtain rfl:m=n:=by omega
  exact hK q w2 (by omega) (by omega) hR hB2
end
set_option maxRecDepth 400000
def rsC (p0 p1 pt:Option Addr) (pb:Nat) (R:Int):List Value:=[(.pointer p0),(.pointer p1),(Ua 0),(Ua 0),(Ua 0),(.bool false),(Ua 0),(Ua 0),(Ua 0),(.bool false),(.int .u8 66),(.int .u8 66),(Ua 0),(Ua 0),(Ua 0),(.bool false),(Ua 0),(Ua 0),(Ua 0),(.bool false),(.int .u8 0),(.int .u8 0),(Ua 0),(Ua 0),(Ua 0),(.bool false),(Ua 0),(Ua 0),(Ua 0),(.bool false),(.int .u8 0),(.int .u8 0),(Ua 0),(.bool false),(.bool false),(.bool false),(.bool false),(.slice (some ⟨pb,0,none⟩) 2 2),(Ua 0),(Ua R),(.pointer pt),(Ua (-1)),(.slice none 0 0)]
structure RS (w:World) (s:Nat) (f0 f1:RFoot) (tg:Nat) (tq:Slc) (pb:Nat) (c:qo):Prop where
 blk:Blk w s yq (rsC (some ⟨f0.g,0,none⟩) (some ⟨f1.g,0,none⟩) (some ⟨tg,0,none⟩) pb c.Rows)
 g0:∃b,RefM w b f0 (gs0 c.Rows.toNat c.Cols.toNat c.Back.toNat)
 g1:∃b,RefM w b f1 (gs0 c.Rows.toNat c.Cols.toNat 0)
 t:∃b,RefT w b tg tq (ZP [] c.Cols.toNat)
 p:Blk w pb zz [.int .i64 7,.int .i64 25]
section
variable {w w':World} {base g:Nat} {F F':ScF} {S S':Sc} {c:qo}
theorem RS.ext {s tg pb:Nat} {f0 f1:RFoot} {tq:Slc} (h:RS w s f0 f1 tg tq pb c) (hB:Uc w w'):RS w' s f0 f1 tg tq pb c:=by
 obtain ⟨b0,h0⟩:=h.g0;obtain ⟨b1,h1⟩:=h.g1;obtain ⟨b2,h2⟩:=h.t;exact ⟨h.blk.ext hB,⟨b0,h0.ext hB⟩,⟨b1,h1.ext hB⟩,⟨b2,h2.ext hB⟩,h.p.ext hB⟩
theorem qvp {K:Cur->Ub} (hK:∀w',Uc w w'->K Kw w'):qcs w K:=by
 refine qzc ?_;unfold qrh;refine nwb λw1 hb1 hB1 hs1=>?_;refine qam hb1 rfl λw2 hb2 hc2 hs2=>?_;refine qy (r:=qA.rep) (x:=Kw) hb2.cells ?_;exact hK w2 (xg hB1 hc2 (le_refl _))
theorem zlh {s pb c1:Nat} (hok:okC c) (hc:Blk w c1 jC (qo.rep.cells c)) (hb:Blk w s yq (rsC none none none pb c.Rows)) (hp:Blk w pb zz [.int .i64 7,.int .i64 25]) (hs:base<=s)
  {K:Option Addr->Int->Ub} (hK:∀f0 f1 tg tq w',RS w' s f0 f1 tg tq pb c->Below base w w'->K (some ⟨s,0,none⟩) 0 w') :
  ldI .i64 ((⟨c1,0,none⟩:Addr).add 0) w.drew λt17=>
    ldI .i64 ((⟨c1,0,none⟩:Addr).add 1) w.drew λt19=>
    ldI .i64 ((⟨c1,0,none⟩:Addr).add 4) w.drew λt21=>
    Jn t17 t19 t21 w.drew λt22 t22_1 w6=>
    ixA ((⟨s,0,none⟩:Addr).add 0) 2 0 1 λt27=>
    stK t27 [(.pointer t22)] w6 λw7=>
    ldI .i64 ((⟨c1,0,none⟩:Addr).add 0) w7.drew λt31=>
    ldI .i64 ((⟨c1,0,none⟩:Addr).add 1) w7.drew λt33=>
    Jn t31 t33 0 w7.drew λt34 t34_1 w8=>
    ixA ((⟨s,0,none⟩:Addr).add 0) 2 1 1 λt39=>
    stK t39 [(.pointer t34)] w8 λw9=>
    ldI .i64 ((⟨c1,0,none⟩:Addr).add 1) w9 λt43=>
    qff t43 w9 λt44 t44_1 w10=>
    stK ((⟨s,0,none⟩:Addr).add 40) [(.pointer t44)] w10 λw11=>
    K (some ⟨s,0,none⟩) 0 w11:=by
 obtain ⟨o1,o2,o3,o4,o5,o6⟩:=hok;have ncs:c1≠s:=hc.ne_t hb (by decide);have nps:pb≠s:=hp.ne_t hb (by decide);have hgood:¬vw c.Rows c.Cols c.Back:=by unfold vw;omega
 have hgood0:¬vw c.Rows c.Cols 0:=by unfold vw;omega
 refine lI (x:=c.Rows) (hc.drew.cells 0 _ rfl) (lI (x:=c.Cols) (hc.drew.cells 1 _ rfl) (lI (x:=c.Back) (hc.drew.cells 4 _ rfl) ?_));refine q0c (λhbad=>absurd hbad hgood) λ_ f0 w6 hR0 hB6=>⟨⟨by decide,by decide⟩,?_⟩;have B6:Uc w w6:=zu (zq w) hB6;have hsl:=hb.lt;have bm:base<=w.heap.size:=by omega
 have hb6:=hb.ext B6;show stK ⟨s,0,none⟩ _ _ _;refine qB hb6 (by show (0+1:Nat)<=43;omega) λw7 hb7 hg7 hs7=>?_;have hc7':Chg (λi=>i=s) w6 w7:=Chg.of_grown hg7 λk hk=>by cases hk;rfl
 have hR7:RefM w7 w.heap.size f0 (gs0 c.Rows.toNat c.Cols.toNat c.Back.toNat):=RefM.chg (w:=w6) hR0 hc7' (λk hk e=>by have:=(hR0.below k hk).1;have e2:w.drew.heap.size=w.heap.size:=rfl;omega) λk cs e hcs=>by
  subst e;exact hb6.ne_t hcs (by decide) rfl
 have hb7:Blk w7 s yq (rsC (some ⟨f0.g,0,none⟩) none none pb c.Rows):=hb7;have hc7:=(hc.ext B6).chg hc7' ncs;have hp7:=(hp.ext B6).chg hc7' nps;have B7:Below base w w7:=(B6.mono bm).trans (hc7'.below (by have:=B6.size;omega) λi hi e=>by omega);refine lI (x:=c.Rows) (hc7.drew.cells 0 _ rfl) (lI (x:=c.Cols) (hc7.drew.cells 1 _ rfl) ?_);refine q0c (λhbad=>absurd hbad hgood0) λ_ f1 w8 hR1 hB8=>⟨⟨by decide,by decide⟩,?_⟩;have B8:Uc w7 w8:=zu (zq w7) hB8;have hb8:=hb7.ext B8;have hR8:=hR7.ext B8;have sz7:=hb7.lt;show stK ⟨s,1,none⟩ _ _ _;refine qB hb8 (by show (1+1:Nat)<=43;omega) λw9 hb9 hg9 hs9=>?_;have hc9':Chg (λi=>i=s) w8 w9:=Chg.of_grown hg9 λk hk=>by cases hk;rfl
 have hno8:∀(k:Nat) cs,k=s->¬Blk w8 k qR cs:=λk cs e hcs=>by
  subst e;exact hb8.ne_t hcs (by decide) rfl
 have hR9:=RefM.chg (w:=w8) hR8 hc9' (λk hk e=>by have:=(hR8.below k hk).1;omega) hno8;have hR19:=RefM.chg (w:=w8) hR1 hc9' (λk hk e=>by have:=(hR1.below k hk).1;have e2:w7.drew.heap.size=w7.heap.size:=rfl;omega) hno8;have hb9:Blk w9 s yq (rsC (some ⟨f0.g,0,none⟩) (some ⟨f1.g,0,none⟩) none pb c.Rows):=hb9;have hc9:=(hc7.ext B8).chg hc9' ncs;have hp9:=(hp7.ext B8).chg hc9' nps;have bm7:base<=w7.heap.size:=by omega
 have B9:Below base w w9:=(B7.trans (B8.mono bm7)).trans (hc9'.below (by have:=B8.size;omega) λi hi e=>by omega);refine lI (x:=c.Cols) (hc9.cells 1 _ rfl) ?_;refine zb8 c.Cols (le_refl w9.heap.size) (λhbad=>by omega) λtq w10 _ _ hT10 hB10=>?_;have hb10:=hb9.ext hB10;have sz9:=hb9.lt;show stK ⟨s,40,none⟩ _ _ _;refine qB hb10 (by show (40+1:Nat)<=43;omega) λw11 hb11 hg11 hs11=>?_;have hc11':Chg (λi=>i=s) w10 w11:=Chg.of_grown hg11 λk hk=>by cases hk;rfl
 have hno10:∀(k:Nat) cs,k=s->¬Blk w10 k qR cs:=λk cs e hcs=>by
  subst e;exact hb10.ne_t hcs (by decide) rfl
 have hR0':=hR9.ext hB10;have hR1':=hR19.ext hB10;have r0:=RefM.chg (w:=w10) hR0' hc11' (λk hk e=>by have:=(hR0'.below k hk).1;omega) hno10;have r1:=RefM.chg (w:=w10) hR1' hc11' (λk hk e=>by have:=(hR1'.below k hk).1;have e2:w7.drew.heap.size=w7.heap.size:=rfl;omega) hno10;have t1:=hT10.keep hc11' (λe=>by omega) λk hk e=>by have:=(hT10.own.lt k hk).1;omega
 refine hK f0 f1 w9.heap.size tq w11 ⟨hb11,⟨_,r0⟩,⟨_,r1⟩,⟨_,t1⟩,(hp9.ext hB10).chg hc11' nps⟩ ?_;exact (B9.trans (hB10.mono (by omega))).trans (hc11'.below (by have:=hB10.size;omega) λi hi e=>by omega)
end
def rmP (n:Int) (priv:Bool):Bool×Bool :=
 if priv=false then (false,decide (n=4\/n=20))
 else if n=6 then (false,true)
 else if n=47\/n=1047\/n=1049 then (false,true)
 else if n=1\/n=7\/n=25\/n=1000\/n=2004 then (decide (n=7\/n=25),true)
 else (false,false)
section
variable {w w':World} {base g:Nat} {F F':ScF} {S S':Sc} {c:qo} {s tg pb:Nat} {f0 f1:RFoot} {tq:Slc}
theorem zel (h:RS w s f0 f1 tg tq pb c) {n:Int} {K:Bool->Ub} (hK:K (decide (n=7\/n=25)) w):Kt (some ⟨s,0,none⟩) n w K:=by
 refine qnb _ _ ?_;simp only [onPtr_some];have hrd:Rd jG w ⟨some ⟨pb,0,none⟩,2,2⟩ [7,25]:=Go.Vc.rd_lits (E:=jG) (ys:=[7,25]) h.p (by simp [maxLen]) rfl;have hsl:w.cell? ((⟨s,0,none⟩:Addr).add 37)=some (.slice (some ⟨pb,0,none⟩) 2 2):=h.blk.cells 37 _ rfl;refine lpR (λ(st:Int×Unit) w1=>w1=w/\(st.1=0\/st.1=1/\n≠7\/st.1=2/\n≠7/\n≠25)) (λst=>2-st.1.toNat) ⟨rfl,.inl rfl⟩ ?_;rintro ⟨i,u⟩ w1 ⟨rfl,hi⟩ I hI;dsimp only at hi ⊢;refine lSl (x:=⟨some ⟨pb,0,none⟩,2,2⟩) hsl ?_;rcases hi with rfl | ⟨rfl,h7⟩ | ⟨rfl,h7,h25⟩
 ·refine cT rfl (lSl (x:=⟨some ⟨pb,0,none⟩,2,2⟩) hsl ?_);refine hrd.ix (i:=0) rfl (by decide) (by decide) λhx=>lI (x:=7) (by simpa using hx 0 _ rfl) ?_;refine cO (λe=>?_) λe=>?_
  ·rw [dTq (.inl (eq_of_beq e).symm)] at hK;exact hK
  ·exact hI _ _ ⟨rfl,.inr (.inl ⟨rfl,λhh=>beq_eq_false_iff_ne.1 e hh.symm⟩)⟩ (by show 2-(i64.wrap (0+1)).toNat<2-(0:Int).toNat;decide)
 ·refine cT rfl (lSl (x:=⟨some ⟨pb,0,none⟩,2,2⟩) hsl ?_);refine hrd.ix (i:=1) rfl (by decide) (by decide) λhx=>lI (x:=25) (by simpa using hx 0 _ rfl) ?_;refine cO (λe=>?_) λe=>?_
  ·rw [dTq (.inr (eq_of_beq e).symm)] at hK;exact hK
  ·exact hI _ _ ⟨rfl,.inr (.inr ⟨rfl,h7,λhh=>beq_eq_false_iff_ne.1 e hh.symm⟩)⟩ (by show 2-(i64.wrap (1+1)).toNat<2-(1:Int).toNat;decide)
 ·refine cF rfl ?_;rw [dFq (λhh=>hh.elim h7 h25)] at hK;exact hK
theorem qp8 (h:RS w s f0 f1 tg tq pb c) {n:Int} {priv:Bool} {K:Bool->Bool->Ub} (hK:K (rmP n priv).1 (rmP n priv).2 w):xF (some ⟨s,0,none⟩) n priv w K:=by
 refine qkp _ _ _ ?_;simp only [onPtr_some];unfold rmP at hK;cases priv
 ·rw [if_pos rfl] at hK;refine cT rfl (cO (λe=>?_) λe=>cO (λe2=>?_) λe2=>?_)
  ·rw [dTq (.inl (eq_of_beq e))] at hK;exact jw (x:=false) (h.blk.cells 35 _ rfl) hK
  ·rw [dTq (.inr (eq_of_beq e2))] at hK;exact jw (x:=false) (h.blk.cells 36 _ rfl) hK
  ·rw [dFq (λhh=>hh.elim (beq_eq_false_iff_ne.1 e) (beq_eq_false_iff_ne.1 e2))] at hK;exact hK
 ·rw [if_neg (by decide)] at hK;refine cF rfl ?_;refine cO (λe=>?_) λe=>?_
  ·rw [if_pos (eq_of_beq e)] at hK;exact jw (x:=false) (by rw [qH,qH];exact h.blk.cell 9 rfl) hK
  rw [if_neg (beq_eq_false_iff_ne.1 e)] at hK;refine or3 (λe=>cT rfl ?_) λe=>cF rfl ?_
  ·rw [if_pos e] at hK;exact lI (x:=0) (h.blk.cells 2 _ rfl) hK
  rw [if_neg e] at hK;refine or5 (λe=>cT rfl ?_) λe=>cF rfl ?_
  ·rw [if_pos e] at hK;exact zel h hK
  ·rw [if_neg e] at hK;exact hK
theorem q7u (h:ScM w base g F S) {K:Int->Int->Ub} (hK:K (i64.wrap (S.g0.top-S.g0.old.length)) S.g1.top w.drew.drew):vU (some ⟨g,0,none⟩) w K:=by
 refine qby _ ?_;simp only [onPtr_some];have hd:=h.drew;refine ⟨⟨by decide,by decide⟩,qK (x:=some ⟨F.f0.g,0,none⟩) (hd.blk.cell 0 rfl) ?_⟩;refine ⟨⟨by decide,by decide⟩,qK (x:=some ⟨F.f1.g,0,none⟩) (hd.blk.cell 1 rfl) ?_⟩;exact q85 hd.g0 ⟨hd.drew.blk.cell 1 rfl,q2j hd.drew.g1 hK⟩
end
structure RScn (w:World) (B:Nat) (s:qE) (R C0 cw ch:Nat):Prop where
 rows:s.Rows=R
 cols:s.Cols=C0
 ecw:s.CellW=cw
 ech:s.CellH=ch
 pl:s.Places.n=0
 cur:s.Cursor=true/\s.Row=0/\s.Col=0
 lim:1<=R/\R<=1000/\1<=C0/\C0<=1000/\1<=cw/\cw<=64/\1<=ch/\ch<=64
 ls:∃ls,Rd ql8 w s.Lines ls/\ls.length=R/\∀(i:Nat) q,ls[i]?=some q->Rd zi w q (List.replicate C0 vj)/\∀a,q.a=some a->a.block<B
 lo:∀a,s.Lines.a=some a->a.block<B
section
variable {w w':World} {B base:Nat} {s:qE} {R C0 cw ch W H:Nat} {m:qa} {P:List UInt8}
theorem RScn.keep {S:Nat->Prop} (h:RScn w B s R C0 cw ch) (hc:Chg S w w') (hS:∀k,S k->B<=k):RScn w' B s R C0 cw ch:=by
 obtain ⟨ls,h1,h2,h3⟩:=h.ls;exact ⟨h.rows,h.cols,h.ecw,h.ech,h.pl,h.cur,h.lim,⟨ls,h1.chg hc λa ha e=>by have:=h.lo a ha;have:=hS _ e;omega,h2,λi q hq=>⟨(h3 i q hq).1.chg hc λa ha e=>by have:=(h3 i q hq).2 a ha;have:=hS _ e;omega,(h3 i q hq).2⟩⟩,h.lo⟩
theorem RScn.ext (h:RScn w B s R C0 cw ch) (hB:Uc w w'):RScn w' B s R C0 cw ch:=h.keep (Chg.of_ext (S:=λ_=>False) hB) λ_ h=>h.elim
theorem q6p {K:Bool->Ub} (hW1:1<=W) (hW2:W<=16384) (hH1:1<=H) (hH2:H<=16384) (hA:W*H<=67108864) (hK:K true w):qtk (W:Int) (H:Int) w K:=by
 refine q4i _ _ ?_;refine cF (zbi (by omega)) (cT (dTq (by omega)) (cT (dTq (by omega)) (cT (dTq (by omega)) (cT (dTq (by omega)) ?_))));rw [show (W:Int)*(H:Int)=((W*H:Nat):Int) by simp,qQ (by omega),dTq (by omega)];exact hK
theorem zad {K:qa->Int->Ub} (hW1:1<=W) (hW2:W<=16384) (hH1:1<=H) (hH2:H<=16384) (hA:W*H<=67108864)
  (hK:∀(t:Slc) (gm:Nat) w',Go.Vc.Own qu w' w.heap.size t (List.replicate (4*W*H) 0)->t.a=some ⟨gm,0,none⟩->w.heap.size<=gm->Uc w w'->K ⟨W,H,t⟩ 0 w'):qxc (W:Int) (H:Int) w K:=by
 refine q6b _ _ ?_;refine nwb λw1 h1 hB1 hs1=>q6p hW1 hW2 hH1 hH2 hA (cF rfl ?_);have h4:4*W*H=4*(W*H):=Nat.mul_assoc _ _ _;have e:i64.wrap ((i64.wrap ((4:Int)*(W:Int)))*(H:Int))=((4*W*H:Nat):Int):=by
  rw [qQ (x:=(4:Int)*(W:Int)) (by omega),show (4:Int)*(W:Int)*(H:Int)=((4*W*H:Nat):Int) by simp,qQ (by omega)]
 rw [e];refine q5d zh (x0:=(0:UInt8)) rfl (n:=4*W*H) rfl rfl (by rw [xX];omega) (by unfold maxLen;omega) λw4 ho hB4=>?_;refine zn (r:=qa.rep) (x:=⟨W,H,⟨some ⟨w1.heap.size,0,none⟩,4*W*H,4*W*H⟩⟩) (h1.ext hB4) rfl rfl λw5 hc5 hs5=>?_;refine hK _ w1.heap.size w5 ((ho.chg hc5 λk hk e=>?_).base (by omega)) rfl (by omega) (b1o (bT hB1 hB4) hc5 (le_refl _));have:=(ho.lt k hk).1;omega
theorem qf6 {v lo hi:Int} {K:Bool->Ub} (hK:K (decide (lo<=v/\v<=hi)) w):V2 v lo hi w K:=by
 refine q53 _ _ _ ?_;refine cO (λe=>?_) λe=>?_
 ·have e:=oTq e;rw [show decide (lo<=v/\v<=hi)=decide (v<=hi) by simp;intro _;exact e] at hK;exact hK
 ·have e:=oFq e;rw [show decide (lo<=v/\v<=hi)=false by simp;omega] at hK;exact hK
theorem qzg (h:RScn w B s R C0 cw ch) {row col:Nat} (hr:row<R) (hc:col<C0) {K:Cel->Ub} (hK:∀w',Uc w w'->K vj w'):yW s (row:Int) (col:Int) w K:=by
 refine q0u _ _ _ ?_;refine nwb λw1 h1 hB1 hs1=>nwb λw2 h2 hB2 hs2=>?_;have hB:=bT hB1 hB2;have h12:=h1.ext hB2;have hl2:=h.lim;obtain ⟨ls,hl,hn,hq⟩:=(h.ext hB).ls;obtain ⟨q,hqe,hqs⟩:=qh9 (xs:=ls) (k:=row) (by omega);have hqr:=(hq row q hqe).1;have ln:=hl.n;have qn:=hqr.n;rw [List.length_replicate] at qn;refine jpO λJ1 hJ1=>?_;refine lSl (x:=s.Lines) (h12.cells 4 _ rfl) (cF (dFq (by omega)) ?_);refine lSl (x:=s.Lines) (h12.cells 4 _ rfl) (hl.ix (i:=(row:Int)) rfl (by omega) (by omega) λhx=>?_);rw [hqs] at hx;have hx1:w2.cell? (s.Lines.at_ 1 ((row:Int)).toNat)=some (.slice q.a q.n q.c):=by have:=hx 0 _ rfl;rw [add_zero] at this;exact this
 refine lSl (x:=q) hx1 (cF (dFq (by omega)) (hJ1 _ _ ?_));refine lSl (x:=s.Lines) (h12.cells 4 _ rfl) (hl.ix (i:=(row:Int)) rfl (by omega) (by omega) λ_=>lSl (x:=q) hx1 ?_);refine hqr.ix (i:=(col:Int)) rfl (by omega) (by rw [List.length_replicate];omega) λhy=>?_;rw [List.getElem_replicate] at hy;refine qy (r:=qP.rep) (x:=vj) hy ?_;exact zn (r:=qP.rep) (x:=vj) h2 rfl rfl λw5 hc5 hs5=>hK w5 (b1o hB hc5 (by omega))
theorem zdp (fore:Bool) {K:qg->Ub} (hK:∀w',Uc w w'->K (if fore then ⟨229,229,229⟩ else ⟨0,0,0⟩) w'):qdc 0 fore w K:=by
 refine qy9 _ _ ?_;refine nwb λw1 h1 hB1 hs1=>jpO λJ1 hJ1=>cT rfl (hJ1 _ _ ?_);cases fore
 ·refine cF rfl (jpO λJ2 hJ2=>cF rfl (hJ2 _ _ (cF rfl (jpO λJ3 hJ3=>cF rfl (hJ3 _ _ (cF rfl ?_))))));exact zn (r:=qg.rep) (x:=⟨0,0,0⟩) h1 rfl rfl λw2 hc hs=>hK w2 (b1o hB1 hc (le_refl _))
 ·refine cT rfl ?_;exact zn (r:=qg.rep) (x:=⟨229,229,229⟩) h1 rfl rfl λw2 hc hs=>hK w2 (b1o hB1 hc (le_refl _))
theorem zjg {K:qg->qg->Ub} (hK:∀w',Uc w w'->K ⟨229,229,229⟩ ⟨0,0,0⟩ w'):jx at0 w K:=by
 refine qwo _ ?_;refine nwb λw1 h1 hB1 hs1=>nwb λw2 h2 hB2 hs2=>nwb λw3 h3 hB3 hs3=>?_;have B3:=bT (bT hB1 hB2) hB3;have h13:=(h1.ext hB2).ext hB3;refine lI (x:=0) (h13.cells 0 _ rfl) (zdp true λw4 hB4=>jd rfl λw5 h5 hB5 hs5=>?_);have B35:=bT hB4 hB5;have h15:=h13.ext B35;refine lI (x:=0) (h15.cells 1 _ rfl) (zdp false λw6 hB6=>jd rfl λw7 h7 hB7 hs7=>?_);have B57:=bT hB6 hB7;have h17:=h15.ext B57;have B37:=bT B35 B57;refine jpO λJ1 hJ1=>lI (x:=0) (h17.cells 2 _ rfl) (cF (by kernel_rfl) (hJ1 _ _ ?_));refine jpO λJ2 hJ2=>lI (x:=0) (h17.cells 2 _ rfl) (cF (by kernel_rfl) (hJ2 _ _ ?_));refine jpO λJ3 hJ3=>lI (x:=0) (h17.cells 2 _ rfl) (cF (by kernel_rfl) (hJ3 _ _ ?_));have hf:=(h5.ext B57).drew;have hb:=h7.drew;have h27:=(((h2.ext hB3).ext B37).drew);have h37:=((h3.ext B37).drew);have z1:=hB1.size;have z2:=hB2.size;have l2:=h2.lt;have l3:=h3.lt;have l7:=h7.lt;have z4:=hB4.size;have z5:=hB5.size;have z6:=hB6.size;refine qy (r:=qg.rep) (x:=⟨229,229,229⟩) hf.cells (qy (r:=qg.rep) (x:=⟨0,0,0⟩) hb.cells ?_);refine jH h27 rfl λw8 h8 hc8 hs8=>⟨(hb.chg hc8 (by omega)).cells,?_⟩;refine jH (h37.chg hc8 (by omega)) rfl λw9 h9 hc9 hs9=>?_;refine qy (r:=qg.rep) (x:=⟨229,229,229⟩) (h8.chg hc9 (by omega)).cells (qy (r:=qg.rep) (x:=⟨0,0,0⟩) h9.cells (hK w9 ?_));exact b1o (b1o (bT (bT B3 B37) (bdw w7)) hc8 (by omega)) hc9 (by omega)
theorem zbv {c:qg} {K:xo->Ub} (hK:∀w',Uc w w'->K ⟨c.e0,c.e1,c.e2,255⟩ w'):qpx c w K:=by
 refine q0h _ ?_;refine nwb λw1 h1 hB1 hs1=>nwb λw2 h2 hB2 hs2=>?_;have h12:=h1.ext hB2;refine ⟨by decide,lI (x:=c.e0) (h12.cells 0 _ rfl) ⟨by decide,lI (x:=c.e1) (h12.cells 1 _ rfl) ⟨by decide,lI (x:=c.e2) (h12.cells 2 _ rfl) ?_⟩⟩⟩;exact zn (r:=xo.rep) (x:=⟨c.e0,c.e1,c.e2,255⟩) h2 rfl rfl λw5 hc5 hs5=>hK w5 (b1o (bT hB1 hB2) hc5 hB1.size)
theorem zg5 {x y:Nat} (hM:MatM w base m W H P) (hx:x<W) (hy:y<H) (hb:qki (4*(y*W+x)) P) {K:Ub} (hK:∀w' P',MatM w' base m W H P'->qki (4*(y*W+x)+4) P'->Chg (λk=>m.P.blk=some k) w w'->K w'):qtd m (x:Int) (y:Int) ⟨0,0,0,255⟩ w K:=by
 refine q4q _ _ _ _ ?_;refine nwb λw1 h1 hB1 hs1=>nwb λw2 h2 hB2 hs2=>?_;have h12:=h1.ext hB2;obtain ⟨gm,ha,hbm⟩:=hM.some_;have gl:=hM.own.lt gm hbm;have hin:=qpe hx hy;have hlen:=hM.len;have hlim:=hM.lim;have z1:=hB1.size;have ew:m.W=(W:Int):=hM.hw;have eh:m.H=(H:Int):=hM.hh;refine jpO λJ1 hJ1=>?_;refine cF (dFq (by omega)) (cF (dFq (by omega)) (lI (x:=m.W) (h12.cells 0 _ rfl) (cF (dFq (by omega)) (lI (x:=m.H) (h12.cells 1 _ rfl) (cF (dFq (by omega)) (hJ1 _ _ ?_))))));refine lI (x:=m.W) (h12.cells 0 _ rfl) ?_;rw [ew];obtain ⟨o,ho⟩:∃o,o=4*(y*W+x):=⟨_,rfl⟩;rw [<-ho] at hb hin hK;refine lpR (λ(st:Int×Unit) w3=>∃(t:Nat) (P3:List UInt8),st.1=(t:Int)/\t<=4/\MatM w3 base m W H P3/\qki (o+t) P3/\Chg (λk=>m.P.blk=some k) w2 w3) (λst=>4-st.1.toNat) ⟨0,P,rfl,by omega,hM.ext (bT hB1 hB2),hb,Chg.refl _ _⟩ ?_;rintro ⟨i,u⟩ w3 ⟨t,P3,hi,ht,hM3,hb3,hc3⟩ I hI;dsimp only at hi ⊢;subst hi;refine cO (λe=>?_) λe=>?_
 ·have htn:t<4:=by have:=oTq e;omega
  have h13:=(h12.chg hc3 (by rw [hbm];intro e;cases e;omega)).drew;have h23:=(h2.chg hc3 (by rw [hbm];intro e;cases e;omega)).drew;have ho3:=hM3.own.drew;have hl3:=hM3.len;refine lSl (x:=m.P) (h13.cells 2 _ rfl) ⟨⟨by omega,by omega⟩,?_⟩;rw [toNat_natCast,Nat.mul_one];have hv:(xo.rep.cells ⟨0,0,0,255⟩)[t]?=some (.int .u8 ((q0s (o+t)).toNat:Int)):=by
   have:q0s (o+t)=q0s t:=by unfold q0s;rw [show (o+t)%4=t%4 by omega]
   rw [this];obtain rfl | rfl | rfl | rfl:t=0\/t=1\/t=2\/t=3:=by omega
   all_goals rfl
  refine lI (x:=((q0s (o+t)).toNat:Int)) (h23.cells t _ hv) ?_;have eidx:i64.wrap (i64.wrap ((4:Int)*i64.wrap (i64.wrap ((y:Int)*(W:Int))+(x:Int)))+(t:Int))=((o+t:Nat):Int):=by
   rw [show (y:Int)*(W:Int)=((y*W:Nat):Int) by simp];generalize y*W=q at ho;rw [qQ (x:=((q:Nat):Int)) (by omega),qQ (x:=((q:Nat):Int)+(x:Int)) (by omega),qQ (x:=(4:Int)*(((q:Nat):Int)+(x:Int))) (by omega),qQ (by omega)];omega
  rw [eidx];have hot:o+t<P3.length:=by omega
  obtain ⟨v,hv,_⟩:=qh9 (xs:=P3) (k:=o+t) hot;refine ho3.rd.ix (E:=qu) (i:=((o+t:Nat):Int)) (k:=1) rfl (by omega) (by omega) λ_=>?_;refine ho3.st0 (x:=v) hv (y:=q0s (o+t)) rfl λw5 ho5 hg5 hs5=>?_;rw [qQ (x:=(t:Int)+1) (by omega)];have hc5:Chg (λk=>m.P.blk=some k) w3 w5:=(Chg.of_ext (bdw w3)).trans (Chg.of_grown (S:=λk=>m.P.blk=some k) hg5 λk hk=>hk) λ_ _ h=>h;exact hI _ _ ⟨t+1,_,by simp,by omega,⟨hM3.hw,hM3.hh,ho5,by rw [List.length_set];exact hl3,hM3.lim⟩,hb3.set hot rfl,hc3.trans hc5 λ_ _ h=>h⟩ (by dsimp only;omega)
 ·obtain rfl:t=4:=by have:=oFq e;omega
  exact hK w3 P3 hM3 hb3 ((Chg.of_ext (bT hB1 hB2)).trans hc3 λ_ _ h=>h)
theorem zlr (v:UInt8):IntKind.u8.wrap ((255:Int)-(v.toNat:Int))=((255-v).toNat:Int):=by
 have h8:=v.toNat_lt;have e1:(255-v).toNat=255-v.toNat:=by
  rw [UInt8.toNat_sub_of_le]
  ·rfl
  ·rw [UInt8.le_iff_toNat_le];show v.toNat<=255;omega
 rw [e1,show (255:Int)-(v.toNat:Int)=((255-v.toNat:Nat):Int) by omega];exact xk .u8 (by show _<2^8;omega)
theorem zac {row col:Nat} (h:RScn w B s R C0 cw ch) (hr:row<R) (hc:col<C0) {K:Ub} (hK:∀w',Uc w w'->K w'):qqd m s (row:Int) (col:Int) w K:=by
 refine q1k _ _ _ _ ?_;refine nwb λw1 h1 hB1 hs1=>nwb λw2 h2 hB2 hs2=>?_;have B2:=bT hB1 hB2;refine qy (r:=qE.rep) (x:=s) h2.cells (qzg (h.ext B2) hr hc λw3 hB3=>jd rfl λw4 h4 hB4 hs4=>?_);exact jpO λJ1 hJ1=>lI (x:=0) (h4.cells 0 _ rfl) (cT rfl (hK w4 (bT (bT B2 hB3) hB4)))
end
end Go.Proofs.YtlmpnfhmpjldaaaGreatDoor
