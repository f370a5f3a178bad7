import Derived.Test.YtedcpbkcamckoaaGreatDoorP4
import Derived.Test.YtedcpbkcamckoaaGreatDoorP1
import Derived.Test.YtedcpbkcamckoaaGreatDoorP2
set_option linter.unusedVariables false
namespace Go.Proofs.YtedcpbkcamckoaaGreatDoor
open Go.Vc Go.RowKit
set_option maxRecDepth 400000
open IntKind (i64)
open Lib (indexByte itoa)
open _root_.List (length_append length_cons length_drop length_filter_le length_map length_take take_add_one take_length)
open _root_.Nat (le_refl le_trans mul_assoc mul_one zero_le)
open _root_.Option (getD_some)
def newP (k:qaa) (room:Int):Nat :=
 if room<0\/room>1073741824 then 1
 else if (qeq k).1≠0 then (qeq k).1
 else if k.Format≠100/\4*k.W*k.H>room then 6 else 0
def ld0:LdS:=⟨b64N,[],0,false⟩
theorem q7x {k:qaa} (h:(qeq k).1=0):(k.Format=100/\(qeq k).2=0)\/(k.Format≠100/\(k.Format=24\/k.Format=32)/\∃W H:Nat,k.W=W/\k.H=H/\1<=W/\W<=16384/\1<=H/\H<=16384/\(qeq k).2=k.Format.toNat/8*W*H):=by
 unfold qeq at h ⊢;split at h
 ·cases h
 ·rename_i h1;rw [if_neg h1];split at h
  ·rename_i h2;rw [if_pos h2];exact .inl ⟨h2,rfl⟩
  ·rename_i h2;rw [if_neg h2];split at h
   ·cases h
   ·rename_i h3;rw [if_neg h3];split at h
    ·cases h
    ·rename_i h4;rw [if_neg h4];exact .inr ⟨h2,by omega,k.W.toNat,k.H.toNat,by omega,by omega,by omega,by omega,by omega,by omega,rfl⟩
def pxF (per:Nat) (b:List UInt8) (i:Nat):List UInt8:=(b.drop (per*i)).take per++[0,0,0,255].drop per
def fromP (per n:Nat) (b:List UInt8):List UInt8:=(List.range n).flatMap (pxF per b)
theorem zk2 {per:Nat} {b:List UInt8} {i:Nat} (hp:per<=4) (h:per*i+per<=b.length):(pxF per b i).length=4:=by
 unfold pxF;rw [length_append,length_take,length_drop,length_drop];show min per (b.length-per*i)+(4-per)=4;omega
theorem q4l (per n:Nat) (b:List UInt8):fromP per (n+1) b=fromP per n b++pxF per b n:=by
 unfold fromP;rw [List.range_succ,List.flatMap_append];simp
theorem q7q {per:Nat} {b:List UInt8} (hp:per<=4):∀n,per*n<=b.length->(fromP per n b).length=4*n
 | 0,_=>rfl
 | n+1,h=>by
  have e:per*(n+1)=per*n+per:=by rw [Nat.mul_add,mul_one]
  rw [q4l,length_append,q7q hp n (by omega),zk2 hp (by omega)];omega
section
variable {w:World}
theorem zir {k:qaa} {room:Int} {K:Option Addr->Int->World->Prop} (hE:newP k room≠0->∀w',Below w.heap.size w w'->K none ((newP k room:Nat):Int) w')
  (hO:newP k room=0->∀g gd w',LdA w' w.heap.size g gd ⟨k,room.toNat,(qeq k).2⟩ ld0 (fun i=>i=g\/i=gd)->Below w.heap.size w w'->K (some ⟨g,0,none⟩) 0 w'):qyk k room w K:=by
 refine q8r _ _ ?_;unfold q3b;refine nwb fun w1 h1 hB1 hs1=>jpO fun J1 hJ1=>?_;unfold newP at hE hO;refine cO (fun e=>?_) fun e1=>cO (fun e=>?_) fun e2=>hJ1 _ _ ?_
 ·have e:=oTq e;rw [if_pos (.inl e)] at hE;exact hE (by decide) w1 hB1
 ·have e:=oTq e;rw [if_pos (.inr e)] at hE;exact hE (by decide) w1 hB1
 have e1:=oFq e1;have e2:=oFq e2;rw [if_neg (by omega)] at hE hO;refine qal (r:=qaa.rep) (x:=k) h1.cells ?_;refine zev fun w3 hB3=>?_;have hB13:=bT hB1 hB3;have h13:=h1.ext hB3;refine jpO fun J2 hJ2=>?_;refine cO (fun e=>?_) fun e=>?_
 ·have e:(qeq k).1≠0:=fun h=>by rw [h] at e;cases e
  rw [if_pos e] at hE;exact hE e w3 hB13
 have e0:(qeq k).1=0:=by
  rcases Nat.eq_zero_or_pos (qeq k).1 with h | h
  ·exact h
  ·rw [qgr (by omega)] at e;cases e
 rw [if_neg (by omega)] at hE hO;have made:¬(k.Format≠100/\4*k.W*k.H>room)->J2 () w3:=by
  intro hn;rw [if_neg hn] at hO;refine hJ2 _ _ ?_;have hBd:=bdw w3;refine qal (r:=qaa.rep) (x:=k) (h13.ext hBd).cells ?_;refine qvy ?_;unfold qng;refine nwb fun w5 h5 hB5 hs5=>?_;have hB35:=bT hBd hB5;refine ⟨(h13.ext hB35).cells,nwb fun w6 h6 hB6 hs6=>?_⟩;have hs13:=hB13.size;have hz:w3.drew.heap.size=w3.heap.size:=rfl;have hd:DecB w6 w3.drew.heap.size b64N:=h5.ext hB6;refine hO rfl w5.heap.size w3.drew.heap.size w6 ⟨⟨⟨none,0,0⟩,?_,.inl ⟨rfl,rfl⟩⟩,hd,zdd,.inl rfl,.inr rfl,fun i hi=>?_⟩ (bT (bT hB13 hB35) hB6)
  ·have hr:((room.toNat:Nat):Int)=room:=by omega
   have:qdw w3.drew.heap.size ⟨k,room.toNat,(qeq k).2⟩ ⟨none,0,0⟩ ld0.b.length ld0.err ld0.over=[(.pointer (some ⟨w3.drew.heap.size,0,none⟩)),(.int .u8 k.Action),(.int .u8 k.Medium),(.int .u8 k.Zip),(.int .u8 k.What),(.int .i64 k.Quiet),(.int .i64 k.Format),(.int .i64 k.W),(.int .i64 k.H),(.int .i64 k.Id),(.int .i64 k.Number),(.int .i64 k.Place),(.int .i64 k.More),(.int .i64 k.X),(.int .i64 k.Y),(.int .i64 k.PW),(.int .i64 k.PH),(.int .i64 k.DX),(.int .i64 k.DY),(.int .i64 k.Rows),(.int .i64 k.Cols),(.int .i64 k.Z),(.int .i64 k.Stay),(.int .i64 room),(.int .i64 (((qeq k).2:Nat):Int)),(.slice none 0 0),(.int .i64 0),(.int .i64 0),(.bool false)]:=by
    unfold qdw;rw [hr];rfl
   rw [this];exact h6
  ·rcases hi with rfl | rfl
   ·exact ⟨by omega,by omega⟩
   ·exact ⟨by omega,by omega⟩
 refine lI (x:=k.Format) (h13.cells 5 _ rfl) (cO (fun ef=>?_) fun ef=>?_)
 ·have ef:k.Format≠100:=by simpa using ef
  rcases q7x e0 with ⟨h,_⟩ | ⟨_,_,W,H,hW,hH,a1,a2,a3,a4,_⟩
  ·exact absurd h ef
  refine lI (x:=k.W) (h13.cells 6 _ rfl) (lI (x:=k.H) (h13.cells 7 _ rfl) ?_);have hWH:W*H<=16384*16384:=Nat.mul_le_mul a2 a4;have h4:4*W*H=4*(W*H):=mul_assoc _ _ _;have em:4*k.W*k.H=((4*W*H:Nat):Int):=by rw [hW,hH];simp
  have ev:i64.wrap ((i64.wrap ((4:Int)*k.W))*k.H)=((4*W*H:Nat):Int):=by
   rw [hW,hH,w64i (x:=(4:Int)*(W:Int)) (by omega),show (4:Int)*(W:Int)*(H:Int)=((4*W*H:Nat):Int) by simp,w64i (by omega)]
  rw [ev];rw [em] at hE made;refine cO (fun e=>?_) fun e=>made fun h=>?_
  ·have e:=oTq e;rw [if_pos ⟨ef,e⟩] at hE;exact hE (by decide) w3 hB13
  ·exact oFq e h.2
 ·have ef:k.Format=100:=by simpa using ef
  exact made fun h=>h.1 ef
theorem q7s {W H per:Nat} {b:Slc} {bs:List UInt8} (hper:per=3\/per=4) (hW1:1<=W) (hW2:W<=16384) (hH1:1<=H) (hH2:H<=16384) (hA:W*H<=67108864) (hb:Rd qae w b bs) (hl:bs.length<=1000000000) {K:qab->Int->World->Prop}
  (hS:bs.length<per*W*H->∀w',Below w.heap.size w w'->K ⟨0,0,⟨none,0,0⟩⟩ 2 w') (hL:bs.length>per*W*H->∀w',Below w.heap.size w w'->K ⟨0,0,⟨none,0,0⟩⟩ 5 w')
  (hO:bs.length=per*W*H->∀s w',Go.Vc.Own qae w' w.heap.size s (fromP per (W*H) bs)->Below w.heap.size w w'->K ⟨W,H,s⟩ 0 w'):qno (W:Int) (H:Int) (per:Int) b w K:=by
 refine q4w _ _ _ _ ?_;unfold qy9;refine nwb fun w1 h1 hB1 hs1=>?_;refine q0o hW1 hW2 hH1 hH2 hA fun tm gm w2 htm hta hgm hB2=>?_;refine nwb fun w3 h3 hB3 hs3=>qby h3 rfl fun w4 h4 hc4 hs4=>?_;have hB24:Below w2.heap.size w2 w4:=b1o hB3 hc4 (le_refl _);have hB14:=bT hB2 hB24;have hB4:=bT hB1 hB14;have htm4:=(htm.ext hB3).chg hc4 fun k hk=>qa1 (htm.ext hB3) h3 (by decide) k hk;have h14:=h1.ext hB14;have hp4:3<=per/\per<=4:=by omega
 have hpm:per*W*H=per*(W*H):=mul_assoc _ _ _;have h4m:4*W*H=4*(W*H):=mul_assoc _ _ _;have hpA:per*(W*H)<=4*(W*H):=Nat.mul_le_mul_right _ hp4.2;have htb:tm.blk=some gm:=by unfold Slc.blk;rw [hta];rfl
 have hsz2:=hB2.size;refine jpO fun J1 hJ1=>?_;have bad:∀e:Nat,e≠0->(∀w',Below w.heap.size w w'->K ⟨0,0,⟨none,0,0⟩⟩ (e:Int) w')->J1 ((e:Int),()) w4:=fun e he hk=>hJ1 _ _ (cT (qgr (by omega)) (qbk (r:=qab.rep) (x:=⟨0,0,⟨none,0,0⟩⟩) h14 rfl rfl fun w5 hc5 hs5=>hk w5 (b1o hB4 hc5 (le_refl _))));have good:bs.length=per*W*H->J1 (0,()) w4:=by
  intro hbl;refine hJ1 _ _ (cF rfl ?_);have ewh:i64.wrap ((W:Int)*(H:Int))=((W*H:Nat):Int):=by rw [show (W:Int)*(H:Int)=((W*H:Nat):Int) by simp,w64i (by omega)]
  rw [ewh];refine lpR (fun (st:Int×Unit) w5=>∃i:Nat,st.1=i/\i<=W*H/\Go.Vc.Own qae w5 w1.heap.size tm (fromP per i bs++List.replicate (4*(W*H-i)) 0)/\Chg (fun k=>k=gm) w4 w5) (fun st=>W*H-st.1.toNat)
   ⟨0,rfl,by omega,by rw [Nat.sub_zero,<-h4m];exact htm4,Chg.refl _ _⟩ ?_
  rintro ⟨i,u⟩ w5 ⟨i,rfl,hi,hT,hC⟩ I hI;dsimp only;have keep:∀{k tt:Nat} {cs:List Value},tt≠qau->Blk w4 k tt cs->Blk w5 k tt cs:=fun {k tt cs} hne hbk=>hbk.chg hC fun e=>by
   subst e;obtain ⟨cs',hcs'⟩:=htm4.blk_t htb;exact hbk.ne_t hcs' hne rfl
  have hm5:=keep (by decide) h4;have hB5:Below w.heap.size w w5:=b1o hB4 hC (by have:=hB1.size;omega);refine cO (fun hlt=>?_) fun hge=>?_
  ·have hlt:=oTq hlt;have hil:i<W*H:=by omega
   have hpi:per*i+per<=bs.length:=by
    have:=Nat.mul_le_mul_left per (show i+1<=W*H from hil);rw [Nat.mul_add,mul_one] at this;omega
   have hfl:=q7q (b:=bs) hp4.2 i (by omega);obtain ⟨R,hR⟩:∃R:List UInt8,R=List.replicate (4*(W*H-(i+1))) 0:=⟨_,rfl⟩;have hrep:List.replicate (4*(W*H-i)) (0:UInt8)=[0,0,0,0]++R:=by
    rw [hR,show 4*(W*H-i)=4+4*(W*H-(i+1)) by omega,<-List.replicate_append_replicate];rfl
   rw [hrep] at hT;obtain ⟨A,hA'⟩:∃A,A=fromP per i bs:=⟨_,rfl⟩;rw [<-hA'] at hT hfl;refine lSl (x:=tm) (hm5.cells 2 _ rfl) ?_;rw [w64i (x:=(4:Int)*(i:Int)) (by omega),w64i (x:=(4:Int)*(i:Int)+3) (by omega),show (4:Int)*(i:Int)+3=((4*i+3:Nat):Int) by simp];refine hT.rd.ix (i:=((4*i+3:Nat):Int)) rfl (by omega) (by simp only [length_append,length_cons,List.length_nil];omega) fun _=>?_;rw [Int.toNat_natCast];refine hT.st0 (i:=4*i+3) (x:=0) (y:=255) (by rw [List.getElem?_append_right (by omega),hfl,show 4*i+3-4*i=3 by omega];rfl) rfl fun w6 hT6 hg6 hs6=>?_;have hc6:Chg (fun k=>k=gm) w5 w6:=by rw [htb] at hg6;exact Chg.gg hg6
   have hset:(A++([0,0,0,0]++R)).set (4*i+3) 255=A++([0,0,0,255]++R):=by
    rw [List.set_append_right _ _ (by omega),hfl,show 4*i+3-4*i=3 by omega];rfl
   rw [hset] at hT6;have hBd:=bdw w6;have hT6d:=hT6.ext hBd;have hm6:Blk w6 w2.heap.size qaq _:=hm5.chg hc6 fun e=>by
    obtain ⟨cs',hcs'⟩:=hT.blk_t htb;subst e;exact hm5.ne_t hcs' (by decide) rfl
   have hB6d:Below w.heap.size w w6.drew:=bT (b1o hB5 hc6 (by have:=hB1.size;omega)) hBd;refine lSl (x:=tm) ((hm6.ext hBd).cells 2 _ rfl) ?_;have hll:(A++([0,0,0,255]++R)).length=4*i+(4+R.length):=by
    rw [length_append,length_append,hfl];rfl
   rw [show (4:Int)*(i:Int)=((4*i:Nat):Int) by simp];obtain ⟨cur,hcur,hcl,hct,hc1,hc2,hc3',hc4'⟩:=q6g (c:=0) hT6d hta;refine hT6d.rd.slK (l:=4*i) (m:=(A++([0,0,0,255]++R)).length) rfl (.inr rfl) (.inl ⟨rfl,rfl⟩) (by omega) (le_refl _) fun _=>?_;have hbd:=hb.ext hB6d;have ep:i64.wrap ((per:Int)*(i:Int))=((per*i:Nat):Int):=by rw [show (per:Int)*(i:Int)=((per*i:Nat):Int) by simp,w64i (by omega)]
   have ep2:i64.wrap (((per*i:Nat):Int)+(per:Int))=((per*i+per:Nat):Int):=by rw [w64i (by omega)];simp
   rw [ep,ep2];refine hbd.slK (l:=per*i) (m:=per*i+per) rfl (.inr rfl) (.inr rfl) (by omega) hpi fun hpt=>?_;have hpe:(bs.take (per*i+per)).drop (per*i)=(bs.drop (per*i)).take per:=by rw [List.drop_take,Nat.add_sub_cancel_left]
   rw [hpe] at hpt;have hptl:((bs.drop (per*i)).take per).length=per:=by rw [length_take,length_drop];omega
   have hcut:cut tm.a (4*i) tm.c qae.k=some ⟨gm,4*i,none⟩:=by
    unfold cut;rw [if_neg (by omega),hta];show some ((⟨gm,0,none⟩:Addr).add (4*i*1))=_;rw [qat,mul_one,Nat.zero_add]
   rw [hcut];refine copyB (n:=per) hcur hpt (by rw [hptl,hll];show per=min per (4*i+(4+R.length)-4*i);omega) (by omega) fun w7 hb7 hc7 hs7=>?_;have htk:((bs.drop (per*i)).take per).take per=(bs.drop (per*i)).take per:=List.take_of_length_le (by omega);rw [htk] at hb7;have hT7:=zdg (ys:=(bs.drop (per*i)).take per) (k:=4*i) hT6d hta hcur (by rw [hptl,hll];omega) hb7;rw [hptl] at hT7;have hfin:(A++([0,0,0,255]++R)).take (4*i)++(bs.drop (per*i)).take per++(A++([0,0,0,255]++R)).drop (4*i+per)=fromP per (i+1) bs++R:=by
    rw [q4l,<-hA',List.take_append_of_le_length (by omega),List.take_of_length_le (by omega),List.drop_append,hfl,show 4*i+per-4*i=per by omega,List.drop_of_length_le (show A.length<=4*i+per by omega),List.nil_append,List.drop_append_of_le_length (show per<=4 by omega)];unfold pxF;simp [List.append_assoc]
   rw [hfin,hR] at hT7;rw [w64i (by omega)];exact hI _ _ ⟨i+1,rfl,by omega,hT7,((hC.trans hc6 fun k _ hk=>hk).trans (Chg.of_ext (S:=fun k=>k=gm) hBd) fun k _ hk=>hk).trans hc7 fun k _ hk=>hk⟩ (by simp;omega)
  ·have hge:=oFq hge;obtain rfl:i=W*H:=by omega
   rw [Nat.sub_self,Nat.mul_zero,List.replicate_zero,List.append_nil] at hT;refine qal (r:=qab.rep) (x:=⟨W,H,tm⟩) hm5.cells ?_;have h15:=keep (by decide) h14;refine qbk (r:=qab.rep) (x:=⟨W,H,tm⟩) h15 rfl rfl fun wb hcb hsb=>?_;exact hO hbl tm wb ((hT.chg hcb fun k hk=>qa1 hT h15 (by decide) k hk).base hB1.size) (b1o hB5 hcb (le_refl _))
 have en:i64.wrap ((i64.wrap ((per:Int)*(W:Int)))*(H:Int))=((per*W*H:Nat):Int):=by
  have h5:per*W<=4*16384:=Nat.mul_le_mul hp4.2 hW2;rw [show (per:Int)*(W:Int)=((per*W:Nat):Int) by simp,w64i (x:=((per*W:Nat):Int)) (by omega),show ((per*W:Nat):Int)*(H:Int)=((per*W*H:Nat):Int) by simp,w64i (by omega)]
 rw [hb.n,en];refine cF rfl (cO (fun e=>?_) fun e=>cO (fun e2=>?_) fun e2=>?_)
 ·have e:=oTq e;exact bad 2 (by decide) (hS (by omega))
 ·have e2:=oTq e2;exact bad 5 (by decide) (hL (by omega))
 ·have e:=oFq e;have e2:=oFq e2;exact good (by omega)
end
def MatR (w:World) (base:Nat) (m:qab) (r:Nat×Nat×Nat×List UInt8):Prop:=m.W=(r.2.1:Int)/\m.H=(r.2.2.1:Int)/\Go.Vc.Own qae w base m.P r.2.2.2
structure CfgOk (C:LdK):Prop where
 nw:newP C.k (C.most:Int)=0
 need:C.need=(qeq C.k).2
 most:C.most<=100000
theorem CfgOk.needs {C:LdK} (h:CfgOk C):(qeq C.k).1=0:=by
 have:=h.nw;have hm:=h.most;unfold newP at this;rw [if_neg (by omega)] at this;split at this
 ·rename_i h1;exact absurd this h1
 ·omega
theorem CfgOk.sides {C:LdK} (h:CfgOk C) (hf:C.k.Format≠100):∃W H per:Nat,C.k.W=W/\C.k.H=H/\1<=W/\W<=16384/\1<=H/\H<=16384/\(C.k.Format=24/\per=3\/C.k.Format=32/\per=4)/\C.need=per*W*H/\4*(W*H)<=C.most:=by
 rcases q7x h.needs with ⟨h1,_⟩ | ⟨_,h24,W,H,hW,hH,a1,a2,a3,a4,hn⟩
 ·exact absurd h1 hf
 ·have h6:¬(C.k.Format≠100/\4*C.k.W*C.k.H>(C.most:Int)):=by
   intro hc;have:=h.nw;have hm:=h.most;unfold newP at this;rw [if_neg (by omega),if_neg (by have:=h.needs;omega),if_pos hc] at this;cases this
  have em:4*C.k.W*C.k.H=((4*(W*H):Nat):Int):=by rw [hW,hH,Int.mul_assoc];simp
  rw [em] at h6;have h6':4*(W*H)<=C.most:=by
   rcases Nat.lt_or_ge C.most (4*(W*H)) with hc | hc
   ·exact absurd ⟨hf,by omega⟩ h6
   ·exact hc
  rcases h24 with e | e
  ·exact ⟨W,H,3,hW,hH,a1,a2,a3,a4,.inl ⟨e,rfl⟩,by rw [h.need,hn,e];rfl,h6'⟩
  ·exact ⟨W,H,4,hW,hH,a1,a2,a3,a4,.inr ⟨e,rfl⟩,by rw [h.need,hn,e];rfl,h6'⟩
noncomputable def madeL (C:LdK) (b:List UInt8):Nat×Nat×Nat×List UInt8 :=
 if C.k.Format=100 then qmt b ((C.most/4:Nat):Int)
 else if b.length<C.need then (2,0,0,[])
 else if b.length>C.need then (5,0,0,[])
 else (0,C.k.W.toNat,C.k.H.toNat,fromP (if C.k.Format=24 then 3 else 4) (C.k.W.toNat*C.k.H.toNat) b)
def roomL (C:LdK):Nat:=if C.k.Format=100 then C.most else C.need
noncomputable def lastL (C:LdK) (b:List UInt8):Nat×Nat×Nat×List UInt8 :=
 if C.k.Zip=122 then
  (
   if unErr (roomL C) b≠0 then (unErr (roomL C) b,0,0,[])
   else if qog (roomL C) b<b.length then (3,0,0,[])
   else madeL C (unOut (roomL C) b))
 else madeL C b
def shutL (s:LdS):LdS:={ s with over:=true }
noncomputable def resL (C:LdK) (s:LdS):Nat×Nat×Nat×List UInt8 :=
 if s.over then (7,0,0,[]) else if (endL C (shutL s)).err≠0 then ((endL C (shutL s)).err,0,0,[]) else lastL C (endL C (shutL s)).b
def overL (C:LdK) (s:LdS):LdS:=if s.over then s else { endL C (shutL s) with b:=[] }
section
variable {w:World} {B g gd:Nat} {C:LdK} {s:LdS} {S:Nat->Prop}
theorem MatR.zero (w:World) (base e:Nat):MatR w base ⟨0,0,⟨none,0,0⟩⟩ (e,0,0,[]):=⟨rfl,rfl,Go.Vc.Own.nil _ _ _⟩
theorem q9d {W H:Nat} {b:Slc} {bs:List UInt8} (hW1:1<=W) (hW2:W<=16384) (hH1:1<=H) (hH2:H<=16384) (hA:W*H<=67108864) (hb:Rd qae w b bs) (hl:bs.length<=1000000000) (hn:¬bs.length<3*W*H) {K:qab->Int->World->Prop}
  (hL:bs.length>3*W*H->∀w',Below w.heap.size w w'->K ⟨0,0,⟨none,0,0⟩⟩ 5 w') (hO:bs.length=3*W*H->∀s w',Go.Vc.Own qae w' w.heap.size s (fromP 3 (W*H) bs)->Below w.heap.size w w'->K ⟨W,H,s⟩ 0 w'):qn8 (W:Int) (H:Int) b w K:=by
 refine q0d _ _ _ ?_;unfold qtu;refine nwb fun w1 h1 hB1 hs1=>?_;refine q7s (per:=3) (by omega) hW1 hW2 hH1 hH2 hA (hb.ext hB1) hl (fun h=>absurd h hn) (fun h w2 hB2=>?_) (fun h s w2 hs hB2=>?_)
 ·exact qbk (r:=qab.rep) (x:=⟨0,0,⟨none,0,0⟩⟩) (h1.ext hB2) rfl rfl fun w3 hc3 hs3=>hL h w3 (b1o (bT hB1 hB2) hc3 (le_refl _))
 ·exact qbk (r:=qab.rep) (x:=⟨W,H,s⟩) (h1.ext hB2) rfl rfl fun w3 hc3 hs3=>hO h s w3 ((hs.chg hc3 fun k hk=>qa1 hs (h1.ext hB2) (by decide) k hk).base hB1.size) (b1o (bT hB1 hB2) hc3 (le_refl _))
theorem q81 {W H:Nat} {b:Slc} {bs:List UInt8} (hW1:1<=W) (hW2:W<=16384) (hH1:1<=H) (hH2:H<=16384) (hA:W*H<=67108864) (hb:Rd qae w b bs) (hl:bs.length<=1000000000) (hn:¬bs.length<4*W*H) {K:qab->Int->World->Prop}
  (hL:bs.length>4*W*H->∀w',Below w.heap.size w w'->K ⟨0,0,⟨none,0,0⟩⟩ 5 w') (hO:bs.length=4*W*H->∀s w',Go.Vc.Own qae w' w.heap.size s (fromP 4 (W*H) bs)->Below w.heap.size w w'->K ⟨W,H,s⟩ 0 w'):qmd (W:Int) (H:Int) b w K:=by
 refine qz1 _ _ _ ?_;unfold qr6;refine nwb fun w1 h1 hB1 hs1=>?_;refine q7s (per:=4) (by omega) hW1 hW2 hH1 hH2 hA (hb.ext hB1) hl (fun h=>absurd h hn) (fun h w2 hB2=>?_) (fun h s w2 hs hB2=>?_)
 ·exact qbk (r:=qab.rep) (x:=⟨0,0,⟨none,0,0⟩⟩) (h1.ext hB2) rfl rfl fun w3 hc3 hs3=>hL h w3 (b1o (bT hB1 hB2) hc3 (le_refl _))
 ·exact qbk (r:=qab.rep) (x:=⟨W,H,s⟩) (h1.ext hB2) rfl rfl fun w3 hc3 hs3=>hO h s w3 ((hs.chg hc3 fun k hk=>qa1 hs (h1.ext hB2) (by decide) k hk).base hB1.size) (b1o (bT hB1 hB2) hc3 (le_refl _))
theorem zbx {p:Slc} {held err:Nat} {over:Bool} (hb:Blk w g qcl (qdw gd C p held err over)) (hC:CfgOk C) {b:Slc} {bs:List UInt8} (hr:Rd qae w b bs) (hrl:∀k,b.blk=some k->k<w.heap.size) (hl:bs.length<=1000000) {K:qab->Int->World->Prop}
  (hK:∀m w',MatR w' w.heap.size m (madeL C bs)->Below w.heap.size w w'->K m ((madeL C bs).1:Nat) w'):qip (some ⟨g,0,none⟩) b w K:=by
 refine qvt _ _ ?_;unfold qnt;simp only [onPtr_some];have hmost:=hC.most;refine nwb fun w1 h1 hB1 hs1=>jpO fun J1 hJ1=>?_;have hb1:=hb.ext hB1;refine lI (x:=C.k.Format) (hb1.cells 6 _ rfl) (jpO fun J2 hJ2=>?_);unfold madeL at hK;have told:∀(m:qab) (e:Nat) (r:Nat×Nat×Nat×List UInt8) w2,MatR w2 (w.heap.size+1) m r->Below w1.heap.size w1 w2->(∀w',MatR w' w.heap.size m r->Below w.heap.size w w'->K m (e:Int) w') ->
   stK ⟨w.heap.size,0,none⟩ (qab.rep.cells m) w2 fun w4=>ldS qab.rep ⟨w.heap.size,0,none⟩ w4 fun r=>K r (e:Int) w4:=by
  intro m e r w2 hm hB2 hk;refine qbk (r:=qab.rep) (x:=m) (h1.ext hB2) rfl rfl fun w4 hc4 hs4=>?_;exact hk w4 ⟨hm.1,hm.2.1,(hm.2.2.chg hc4 fun k hk e=>by have:=(hm.2.2.lt k hk).1;omega).base (by omega)⟩ (b1o (bT hB1 hB2) hc4 (le_refl _))
 refine cO (fun e=>?_) fun e=>?_
 ·have e:C.k.Format=100:=eq_of_beq e;rw [if_pos e] at hK;refine lI (x:=(C.most:Int)) (hb1.cells 23 _ rfl) ⟨by decide,?_⟩;rw [show (4:Int)=((4:Nat):Int) from rfl,<-Int.ofNat_tdiv,w64i (x:=((C.most/4:Nat):Int)) (by omega)];refine zbw (hr.ext hB1) (fun k hk=>by have:=hrl k hk;omega) hl (by omega) (fun hne w2 hB2=>?_) (fun W H m hde s2 w2 hs2 hml hB2=>?_)
  ·have hz:∀b px,(qmt b px).1≠0->∃e,qmt b px=(e,0,0,[]):=by
    intro b px h;unfold qmt at h ⊢;split
    ·exact ⟨_,rfl⟩
    ·rename_i h1;rw [if_neg h1] at h;unfold decF at h ⊢;split
     ·exact ⟨_,rfl⟩
     ·rename_i h2;rw [if_neg h2] at h;split
      ·exact ⟨_,rfl⟩
      ·rename_i h3;rw [if_neg h3] at h;split
       ·exact ⟨_,rfl⟩
       ·rename_i m hm;rw [hm] at h;exact absurd rfl h
   obtain ⟨e',he'⟩:=hz _ _ hne;rw [he'] at hK ⊢;exact told _ e' (e',0,0,[]) w2 (MatR.zero _ _ _) hB2 fun w' hm hB=>hK _ w' hm hB
  ·rw [hde] at hK;exact told ⟨W,H,s2⟩ 0 (0,W,H,m) w2 ⟨rfl,rfl,hs2.base (by omega)⟩ hB2 fun w' hm hB=>hK _ w' hm hB
 ·have e:C.k.Format≠100:=by simpa using e
  rw [if_neg e] at hK;obtain ⟨W,H,per,hW,hH,a1,a2,a3,a4,hper,hneed,hmo⟩:=hC.sides e;have hpm:per*W*H=per*(W*H):=mul_assoc _ _ _;have hWn:C.k.W.toNat=W:=by rw [hW];rfl
  have hHn:C.k.H.toNat=H:=by rw [hH];rfl
  have hpe:(if C.k.Format=24 then 3 else 4:Nat)=per:=by
   rcases hper with ⟨h1,h2⟩ | ⟨h1,h2⟩
   ·rw [if_pos h1,h2]
   ·rw [if_neg (by omega),h2]
  rw [hWn,hHn,hpe] at hK;have hA:W*H<=67108864:=by omega
  have go:∀f:Value,(∀w2,Below w1.heap.size w1 w2->¬bs.length<C.need->callR Go.Proofs.YtedcpbkcamckoaaGreatDoor.C f [(.int .i64 (W:Int)),(.int .i64 (H:Int)),(.slice b.a b.n b.c)] [(Kind.struct qab.rep),(Kind.int .i64)] w2 fun (t45:qab) (t45_1:Int) w3=>stK ⟨w.heap.size,0,none⟩ (qab.rep.cells t45) w3 fun w4=>ldS qab.rep ⟨w.heap.size,0,none⟩ w4 fun r=>K r t45_1 w4)->J2 (f,()) w1:=by
   intro f hf;refine hJ2 _ _ ?_;refine lI (x:=(C.need:Int)) (hb1.cells 24 _ rfl) ?_;rw [hr.n];refine cO (fun e2=>?_) fun e2=>?_
   ·have e2:=oTq e2;rw [if_pos (by omega)] at hK;exact told ⟨0,0,⟨none,0,0⟩⟩ 2 (2,0,0,[]) w1 (MatR.zero _ _ _) (Below.refl _ _) fun w' hm hB=>hK _ w' hm hB
   ·have e2:=oFq e2;refine hJ1 _ _ ?_;have hbd:=hb1.ext (bdw w1);refine lI (x:=(W:Int)) (by rw [<-hW];exact hbd.cells 7 _ rfl) (lI (x:=(H:Int)) (by rw [<-hH];exact hbd.cells 8 _ rfl) ?_);exact hf w1.drew (bdw w1) (by omega)
  have hs1':=hB1.size;refine cO (fun e24=>go _ fun w2 hB2 hn=>qgy (by kernel_rfl) ?_) fun e24=>go _ fun w2 hB2 hn=>qgy (by kernel_rfl) ?_
  ·have e24:C.k.Format=24:=eq_of_beq e24;have hp:per=3:=by omega
   subst hp;have hcall:qn8 (W:Int) (H:Int) b w2 fun t45 t45_1 w3=>stK ⟨w.heap.size,0,none⟩ (qab.rep.cells t45) w3 fun w4=>ldS qab.rep ⟨w.heap.size,0,none⟩ w4 fun r=>K r t45_1 w4:=by
    refine q9d a1 a2 a3 a4 hA (hr.ext (bT hB1 hB2)) (by omega) (by omega) (fun h w3 hB3=>?_) (fun h s3 w3 hs3 hB3=>?_)
    ·rw [if_neg hn,if_pos (by omega)] at hK;exact told ⟨0,0,⟨none,0,0⟩⟩ 5 (5,0,0,[]) w3 (MatR.zero _ _ _) (bT hB2 hB3) fun w' hm hB=>hK _ w' hm hB
    ·rw [if_neg hn,if_neg (by omega)] at hK;have hs2:=hB2.size;exact told ⟨W,H,s3⟩ 0 (0,W,H,fromP 3 (W*H) bs) w3 ⟨rfl,rfl,hs3.base (by omega)⟩ (bT hB2 hB3) fun w' hm hB=>hK _ w' hm hB
   refine Calls.mono hcall ?_;rintro ev w' ⟨r0,r1,rfl,hk⟩;exact ⟨r0,r1,rfl,hk⟩
  ·have e24:C.k.Format≠24:=by simpa using e24
   have hp:per=4:=by omega
   subst hp;have hcall:qmd (W:Int) (H:Int) b w2 fun t45 t45_1 w3=>stK ⟨w.heap.size,0,none⟩ (qab.rep.cells t45) w3 fun w4=>ldS qab.rep ⟨w.heap.size,0,none⟩ w4 fun r=>K r t45_1 w4:=by
    refine q81 a1 a2 a3 a4 hA (hr.ext (bT hB1 hB2)) (by omega) (by omega) (fun h w3 hB3=>?_) (fun h s3 w3 hs3 hB3=>?_)
    ·rw [if_neg hn,if_pos (by omega)] at hK;exact told ⟨0,0,⟨none,0,0⟩⟩ 5 (5,0,0,[]) w3 (MatR.zero _ _ _) (bT hB2 hB3) fun w' hm hB=>hK _ w' hm hB
    ·rw [if_neg hn,if_neg (by omega)] at hK;have hs2:=hB2.size;exact told ⟨W,H,s3⟩ 0 (0,W,H,fromP 4 (W*H) bs) w3 ⟨rfl,rfl,hs3.base (by omega)⟩ (bT hB2 hB3) fun w' hm hB=>hK _ w' hm hB
   refine Calls.mono hcall ?_;rintro ev w' ⟨r0,r1,rfl,hk⟩;exact ⟨r0,r1,rfl,hk⟩
theorem q9m {p:Slc} {held err:Nat} {over:Bool} (hb:Blk w g qcl (qdw gd C p held err over)) (hC:CfgOk C) {b:Slc} {bs:List UInt8} (hr:Rd qae w b bs) (hrl:∀k,b.blk=some k->k<w.heap.size) (hl:bs.length<=1000000) {K:Slc->Int->World->Prop}
  (hE:∀e:Nat,e≠0->e=(if unErr (roomL C) bs≠0 then unErr (roomL C) bs else 3)->(unErr (roomL C) bs≠0\/qog (roomL C) bs<bs.length)->∀t w',Below w.heap.size w w'->K t (e:Int) w')
  (hO:unErr (roomL C) bs=0->¬qog (roomL C) bs<bs.length->∀t w',Go.Vc.Own qae w' w.heap.size t (unOut (roomL C) bs)->(unOut (roomL C) bs).length<=roomL C->Below w.heap.size w w'->K t 0 w'):qhs (some ⟨g,0,none⟩) b w K:=by
 refine qt7 _ _ ?_;unfold qmr;simp only [onPtr_some];have hmost:=hC.most;refine lI (x:=(C.need:Int)) (hb.cells 24 _ rfl) (jpO fun J1 hJ1=>?_);have hroom:roomL C<=400000:=by
  unfold roomL;split
  ·omega
  ·rename_i hf;obtain ⟨W,H,per,_,_,_,_,_,_,hper,hneed,hmo⟩:=hC.sides hf;have:per*W*H<=4*(W*H):=by rw [mul_assoc];exact Nat.mul_le_mul_right _ (by omega)
   omega
 have key:J1 ((roomL C:Int),()) w:=by
  refine hJ1 _ _ ?_;obtain ⟨u1,u2,u3⟩:=q5x (roomL C) bs;refine q3c (by omega) hr hrl (by omega) u1 u2 u3 (fun hz o w2 ho hB2=>?_) (fun n hz hn w2 hB2=>?_)
  ·have hz:unErr (roomL C) bs=0:=hz;have hu:((6+((unRun (roomL C) bs).2.1+7)/8:Nat):Int)=((qog (roomL C) bs:Nat):Int):=rfl;have hoo:(unRun (roomL C) bs).1.hist=unOut (roomL C) bs:=rfl;rw [hu];rw [hoo] at ho;have hxm:(unOut (roomL C) bs).length<=roomL C:=u1.most (zero_le _);refine jpO fun J2 hJ2=>cT rfl ?_;rw [hr.n];refine cO (fun e=>hJ2 _ _ ?_) fun e=>hJ2 _ _ ?_
   ·have e:=oTq e;exact hE 3 (by decide) (by rw [if_neg (by omega)]) (.inr (by omega)) o w2 hB2
   ·have e:=oFq e;exact hO hz (by omega) o w2 ho hxm hB2
  ·have hz:unErr (roomL C) bs=n:=hz;refine jpO fun J2 hJ2=>cF (qty (by omega)) (hJ2 _ _ ?_);exact hE n hn (by rw [hz,if_pos hn]) (.inl (by omega)) _ w2 hB2
 refine lI (x:=C.k.Format) (hb.cells 6 _ rfl) (cO (fun e=>?_) fun e=>?_)
 ·have e:C.k.Format=100:=eq_of_beq e;refine lI (x:=(C.most:Int)) (hb.cells 23 _ rfl) ?_;unfold roomL at key;rw [if_pos e] at key;exact key
 ·have e:C.k.Format≠100:=by simpa using e
  unfold roomL at key;rw [if_neg e] at key;exact key
end
theorem zfz (C:LdK) (s:LdS) (r:Nat×List UInt8×B64):(gotL C s r).over=s.over:=by
 unfold gotL failL
 repeat' split
 all_goals rfl
theorem zf0 (C:LdK) (s:LdS):(endL C s).over=s.over:=by
 unfold endL;split
 ·rfl
 ·exact zfz _ _ _
theorem q40 (s:B64) (hs:B64Ok s):(qjp s).2.1.length<=3:=by
 unfold qjp;split
 ·simp
 ·have h1:=hs.n;have h2:=zi1 s.w (by omega);dsimp only;omega
theorem zid (s:B64):B64Ok (qjp s).2.2:=by
 unfold qjp;split
 ·exact q6e
 ·exact zdd
theorem zjb (C:LdK) (s:LdS) (hs:B64Ok s.d):(endL C s).b.length<=s.b.length+3:=by
 unfold endL;split
 ·omega
 ·have h1:=zki C s (qjp s.d);have h2:=q40 s.d hs;omega
section
variable {w:World} {B g gd:Nat} {C:LdK} {s:LdS} {S:Nat->Prop}
theorem zhz (h:LdA w B g gd C s S) (hBw:B<=w.heap.size) (hC:CfgOk C) (hsm:s.b.length<=32000) {K:qab->Int->World->Prop}
  (hK:∀m S' w',LdA w' B g gd C (overL C s) S'->MatR w' w.heap.size m (resL C s)->(∀k,m.P.blk=some k->¬S' k)->(∀k,S' k->S k\/w.heap.size<=k)->Chg S w w'->K m (((resL C s).1:Nat):Int) w'):qk8 (some ⟨g,0,none⟩) w K:=by
 refine qx0 _ ?_;unfold qqp;simp only [onPtr_some];refine nwb fun w1 h1 hB1 hs1=>?_;have hA1:=h.ext hB1;obtain ⟨p0,hb0,hp0⟩:=hA1.ex;have hgw:∀k,S k->k≠w.heap.size:=fun k hk e=>by have:=(h.lt k hk).2;omega
 refine qcu (x:=s.over) (hb0.cells 28 _ rfl) ?_;unfold resL overL at hK;refine cO (fun e=>?_) fun e=>?_
 ·have e:s.over=true:=e;rw [if_pos e,if_pos e] at hK;refine qbk (r:=qab.rep) (x:=⟨0,0,⟨none,0,0⟩⟩) h1 rfl rfl fun w2 hc2 hs2=>?_;exact hK _ S w2 (hA1.chg hc2 fun k hk=>hgw k hk) (MatR.zero _ _ _) (fun k hk=>by cases hk) (fun k hk=>.inl hk) ((Chg.of_ext (S:=S) hB1).trans hc2 fun k hk e=>by omega)
 have e:s.over=false:=e;rw [if_neg (by rw [e];decide),if_neg (by rw [e];decide)] at hK;rw [qat];refine qaj hb0 (by simp [qdw,qaa.rep]) fun w3 hb3 hg3 hs3=>?_;have hc3:Chg (fun k=>k=g) w1 w3:=Chg.gg hg3;have hb3:Blk w3 g qcl (qdw gd C p0 s.b.length s.err true):=hb3;obtain ⟨s0,hs0⟩:∃s0,s0=shutL s:=⟨_,rfl⟩;have hd3:DecB w3 gd s.d:=Blk.chg hA1.d hc3 fun e=>by subst e;exact hA1.d.ne_t hb0 (by decide) rfl
 have hA3:LdA w3 B g gd C s0 S:=by
  rw [hs0];refine ⟨⟨p0,hb3,?_⟩,hd3,h.ok,h.sg,h.sd,fun k hk=>⟨(h.lt k hk).1,by have:=(h.lt k hk).2;have:=hB1.size;have:=hc3.size;omega⟩⟩;rcases hp0 with h | ⟨x,a1,a2,a3,a4,a5⟩
  ·exact .inl h
  ·exact .inr ⟨x,a1.chg hc3 fun k hk=>qa1 a1 hb0 (by decide) k hk,a2.chg hc3 fun k hk=>qa1 a2 hb0 (by decide) k hk,a3,a4,a5⟩
 have h13:Blk w3 w.heap.size qaq _:=h1.chg hc3 fun e=>hgw g h.sg e.symm;have hC03:Chg S w w3:=(Chg.of_ext (S:=S) hB1).trans hc3 fun k _ hk=>by subst hk;exact h.sg
 have hsz3:w.heap.size+1<=w3.heap.size:=by have:=hc3.size;omega
 have hs0b:s0.b=s.b:=by rw [hs0];rfl
 have hs0e:s0.err=s.err:=by rw [hs0];rfl
 rw [<-hs0] at hK;refine jpO fun J1 hJ1=>?_;have main:∀S' w4,LdA w4 B g gd C (endL C s0) S'->(∀k,S' k->S k\/w3.heap.size<=k)->Chg S w3 w4->J1 () w4:=by
  intro S' w4 h4 hS' hc4;refine hJ1 _ _ ?_;have hlen:(endL C s0).b.length<=32003:=by
   have:=zjb C s0 hA3.ok;rw [hs0b] at this;omega
  obtain ⟨E,hE⟩:∃E,E=endL C s0:=⟨_,rfl⟩;have hEo:E.over=true:=by rw [hE,zf0,hs0];rfl
  rw [<-hE] at h4 hK hlen;have h14:Blk w4 w.heap.size qaq _:=h13.chg hc4 fun hk=>hgw _ hk rfl;have hs4:=hc4.size;have hwS':∀k,S' k->k≠w.heap.size:=fun k hk e=>by
   rcases hS' k hk with h | h
   ·exact hgw k h e
   ·omega
  obtain ⟨p,hb,hp⟩:=h4.ex;refine lSl (x:=p) (hb.cells 25 _ rfl) ?_;have cat:∀(K:Slc->World->Prop),(∀o w5,Go.Vc.Own qae w5 w4.heap.size o E.b->Below w4.heap.size w4 w5->K o w5)->qbm p w4 K:=by
   intro K hk;rcases hp with ⟨h1,rfl⟩ | ⟨x,a1,a2,a3,a4,a5⟩
   ·refine qt3 (p:=⟨none,0,0⟩) (ss:=[]) (xss:=[]) (Rd.nil slsE w4) ⟨rfl,fun i s xs hs=>by simp at hs⟩ (by simp) (by simp) fun r w5 hr hB5=>?_;rw [h1] at hk;exact hk r w5 hr hB5
   ·have hrd:Rd slsE w4 p [x]:=a1.rd;refine qt3 (p:=p) (ss:=[x]) (xss:=[E.b]) hrd ⟨rfl,fun i s xs hs hx=>?_⟩ (by simp;omega) (by simp) fun r w5 hr hB5=>?_
    ·match i,hs,hx with
     | 0,hs,hx=>cases hs;cases hx;exact a2.rd
     | i+1,hs,hx=>simp at hs
    ·refine hk r w5 ?_ hB5;simpa using hr
  refine cat _ fun o w5 ho hB5=>?_;refine qmo _ ?_;unfold qiu;simp only [onPtr_some];have hb5:=hb.ext hB5;rw [qat];refine qaj hb5 (by simp [qdw,qaa.rep]) fun w6' hb6' hg6' hs6'=>?_;rw [qat];refine qaj hb6' (by simp [qdw,qaa.rep,putL]) fun w6 hb6 hg6 hs6=>?_;have hc6:Chg (fun k=>k=g) w5 w6:=(Chg.gg hg6').trans (Chg.gg hg6) fun i _ hi=>hi;have hb6:Blk w6 g qcl (qdw gd C ⟨none,0,0⟩ 0 E.err E.over):=hb6;have hd6:DecB w6 gd E.d:=Blk.chg (Blk.ext h4.d hB5) hc6 fun e=>by subst e;exact (Blk.ext h4.d hB5).ne_t hb5 (by decide) rfl
  have hs5:=hB5.size;have hs6z:=hc6.size;have hA6:LdA w6 B g gd C { E with b:=[] } S':=⟨⟨⟨none,0,0⟩,hb6,.inl ⟨rfl,rfl⟩⟩,hd6,h4.ok,h4.sg,h4.sd,fun k hk=>⟨(h4.lt k hk).1,by have:=(h4.lt k hk).2;omega⟩⟩;have ho6:=ho.chg hc6 fun k hk e=>by have:=(ho.lt k hk).1;have:=(h4.lt g h4.sg).2;omega
  have h16:Blk w6 w.heap.size qaq _:=(h14.ext hB5).chg hc6 fun e=>hwS' g h4.sg e.symm;have hC6:Chg S w w6:=by
   refine ((hC03.trans hc4 fun k _ hk=>hk).trans (Chg.of_ext (S:=S) hB5) fun k _ hk=>hk).trans hc6 fun k _ hk=>?_;subst hk;exact h.sg
  have hgrow:∀k,S' k->S k\/w.heap.size<=k:=fun k hk=>by
   rcases hS' k hk with h | h
   ·exact .inl h
   ·right;omega
  refine lI (x:=(E.err:Int)) (hb6.cells 27 _ rfl) ?_;have told:∀(m:qab) (e:Nat) (r:Nat×Nat×Nat×List UInt8) w9,MatR w9 w6.heap.size m r->Below w6.heap.size w6 w9->(∀S' w',LdA w' B g gd C { E with b:=[] } S'->MatR w' w.heap.size m r->(∀k,m.P.blk=some k->¬S' k)->(∀k,S' k->S k\/w.heap.size<=k)->Chg S w w'->K m (e:Int) w') ->
    stK ⟨w.heap.size,0,none⟩ (qab.rep.cells m) w9 fun w10=>LdA w10 B g gd C { E with b:=[] } S'->ldS qab.rep ⟨w.heap.size,0,none⟩ w10 fun r=>K r (e:Int) w10:=by
   intro m e r w9 hm hB9 hk;refine qby (h16.ext hB9) rfl fun w10 hb10 hc10 hs10 hA10=>?_;refine qal (r:=qab.rep) (x:=m) hb10.cells ?_;refine hk S' w10 hA10 ⟨hm.1,hm.2.1,(hm.2.2.chg hc10 fun k hk e=>by have:=(hm.2.2.lt k hk).1;omega).base (by omega)⟩ (fun k hk hS=>by have h1:=(hm.2.2.lt k hk).1;have h2:=(hA6.lt k hS).2;omega) hgrow ((hC6.trans (Chg.of_ext (S:=S) hB9) fun k _ hk=>hk).trans hc10 fun k hk e=>by omega)
  have keepA:∀{w9 w10},Below w6.heap.size w6 w9->Chg (fun k=>k=w.heap.size) w9 w10->LdA w10 B g gd C { E with b:=[] } S':=fun hB9 hc10=>(hA6.ext hB9).chg hc10 fun k hk=>hwS' k hk;refine cO (fun e2=>?_) fun e2=>?_
  ·have e2:E.err≠0:=fun h=>by rw [h] at e2;cases e2
   rw [if_pos e2] at hK;have hBd:=bdw w6;refine lI (x:=(E.err:Int)) ((hb6.ext hBd).cells 27 _ rfl) ?_;refine qby (h16.ext hBd) rfl fun w7 hb7 hc7 hs7=>?_;have hA7:=keepA hBd hc7;obtain ⟨p7,hb7',_⟩:=hA7.ex;refine ⟨hb7'.cells 27 _ rfl,qal (r:=qab.rep) (x:=⟨0,0,⟨none,0,0⟩⟩) hb7.cells ?_⟩;exact hK _ S' w7 hA7 (MatR.zero _ _ _) (fun k hk=>by cases hk) hgrow ((hC6.trans (Chg.of_ext (S:=S) hBd) fun k _ hk=>hk).trans hc7 fun k hk e=>by omega)
  have e2:E.err=0:=by
   rcases Nat.eq_zero_or_pos E.err with h | h
   ·exact h
   ·rw [qgr (by omega)] at e2;cases e2
  rw [if_neg (by omega)] at hK;refine jpO fun J2 hJ2=>?_;unfold lastL at hK;have img:∀(b:Slc) (bs:List UInt8) w8,Go.Vc.Own qae w8 w4.heap.size b bs->bs.length<=1000000->Below w6.heap.size w6 w8->(∀m S' w',LdA w' B g gd C { E with b:=[] } S'->MatR w' w.heap.size m (madeL C bs)->(∀k,m.P.blk=some k->¬S' k)->(∀k,S' k->S k\/w.heap.size<=k)->Chg S w w'->K m (((madeL C bs).1:Nat):Int) w')->J2 (b,()) w8:=by
   intro b bs w8 hbo hbl hB8 hk;refine hJ2 _ _ ?_;refine zbx (hb6.ext hB8) hC hbo.rd (fun k hk=>(hbo.lt k hk).2) hbl fun m w9 hm hB9=>?_;have hB69:=bT hB8 hB9;have:=told m (madeL C bs).1 (madeL C bs) w9 ⟨hm.1,hm.2.1,hm.2.2.base hB8.size⟩ hB69 (fun S' w'=>hk m S' w');refine qby (h16.ext hB69) rfl fun w10 hb10 hc10 hs10=>?_;refine qal (r:=qab.rep) (x:=m) hb10.cells ?_;have hm':=hm.2.2.base (base':=w6.heap.size) hB8.size;exact hk m S' w10 (keepA hB69 hc10) ⟨hm.1,hm.2.1,(hm'.chg hc10 fun k hk e=>by have:=(hm'.lt k hk).1;omega).base (by omega)⟩ (fun k hk hS=>by have h1:=(hm'.lt k hk).1;have h2:=(hA6.lt k hS).2;omega) hgrow ((hC6.trans (Chg.of_ext (S:=S) hB69) fun k _ hk=>hk).trans hc10 fun k hk e=>by omega)
  refine lI (x:=C.k.Zip) (hb6.cells 3 _ rfl) (cO (fun ez=>?_) fun ez=>?_)
  ·have ez:C.k.Zip=122:=eq_of_beq ez;rw [if_pos ez] at hK;refine q9m hb6 hC ho6.rd (fun k hk=>(ho6.lt k hk).2) (by omega) (fun er hne her hor t w8 hB8=>?_) (fun hz hu t w8 ht htl hB8=>?_)
   ·refine cT (qgr (by omega)) ?_;refine qby (h16.ext hB8) rfl fun w9 hb9 hc9 hs9=>?_;refine qal (r:=qab.rep) (x:=⟨0,0,⟨none,0,0⟩⟩) hb9.cells ?_;have hval:(if unErr (roomL C) E.b≠0 then (unErr (roomL C) E.b,0,0,[]) else if qog (roomL C) E.b<E.b.length then (3,0,0,[]) else madeL C (unOut (roomL C) E.b))=(er,0,0,[]):=by
     by_cases hz:unErr (roomL C) E.b≠0
     ·rw [if_pos hz] at her ⊢;rw [her]
     ·rw [if_neg hz] at her ⊢;rw [if_pos (by rcases hor with h | h;exact absurd h hz;exact h),her]
    rw [hval] at hK;exact hK _ S' w9 (keepA hB8 hc9) (MatR.zero _ _ _) (fun k hk=>by cases hk) hgrow ((hC6.trans (Chg.of_ext (S:=S) hB8) fun k _ hk=>hk).trans hc9 fun k hk e=>by omega)
   ·refine cF rfl ?_;rw [if_neg (by omega),if_neg hu] at hK;have hroom:roomL C<=400000:=by
     have hmost:=hC.most;unfold roomL;split
     ·omega
     ·rename_i hf;obtain ⟨W,H,per,_,_,_,_,_,_,hper,hneed,hmo⟩:=hC.sides hf;have:per*W*H<=4*(W*H):=by rw [mul_assoc];exact Nat.mul_le_mul_right _ (by omega)
      omega
    exact img t _ w8 (ht.base (by omega)) (by omega) hB8 hK
  ·have ez:C.k.Zip≠122:=by simpa using ez
   rw [if_neg ez] at hK;exact img o E.b w6 ho6 (by omega) (Below.refl _ _) hK
 refine lI (x:=(s.err:Int)) (hb3.cells 27 _ rfl) (cO (fun e2=>?_) fun e2=>?_)
 ·have e2:s.err=0:=by have:=eq_of_beq e2;omega
  have hee:endL C s0=gotL C s0 (qjp s0.d):=by unfold endL;rw [if_neg (by omega)]
  refine qa8 (x:=some ⟨gd,0,none⟩) (hb3.cells 0 _ rfl) ?_;refine zgj hA3.d hA3.ok fun t w4 ht htb hd hc=>?_;have hbl:=q40 s0.d hA3.ok;refine q7t hA3 (by omega) ht htb hd (zid s0.d) hc (by rw [hs0b];omega) (K:=fun w5=>J1 () w5) fun S' w5 h5 hS' hc5=>?_;rw [<-hee] at h5;exact main S' w5 h5 hS' hc5
 ·have e2:s.err≠0:=fun h=>by rw [h] at e2;cases e2
  have hee:endL C s0=s0:=by unfold endL;rw [if_pos (by omega)]
  refine main S w3 (by rw [hee];exact hA3) (fun k hk=>.inl hk) (Chg.refl _ _)
end
structure KE where
 quota:Int
 S:St
 T:List Pl
 ld:Option (LdK×LdS)
 first:qaa
structure KF where
 sg:Nat
 sr:Nat
 tg:Nat
 q:Slc
 lg:Nat
 gd:Nat
 LS:Nat->Prop
def engC (F:KF) (E:KE):List Value:=.int .i64 E.quota::.pointer (some ⟨F.sg,0,none⟩)::.pointer (some ⟨F.tg,0,none⟩)::.pointer (if E.ld.isSome then some ⟨F.lg,0,none⟩ else none)::qaa.rep.cells E.first
def imgS (S:St) (k:Nat):Prop:=∃p∈S.L,p.2.v.m.P.blk=some k
structure EngM (w:World) (base g:Nat) (F:KF) (E:KE) (n:Nat):Prop where
 blk:Blk w g qb0 (engC F E)
 hg:base<=g
 st:StM w base F.sg F.sr E.S
 ok:StOk n E.S
 hs:base<=F.sg/\base<=F.sr
 tb:PlTM w base F.tg F.q E.T
 tl:E.T.length<=n
 lo:∀C s,E.ld=some (C,s)->LdA w base F.lg F.gd C s F.LS/\CfgOk C
 nl:E.ld=none->∀k,¬F.LS k
 dg:¬F.LS g
 ds:¬F.LS F.sg/\¬F.LS F.sr
 dt:∀k,plS F.tg F.q k->¬F.LS k
 di:∀k,imgS E.S k->¬F.LS k
def engS (g:Nat) (F:KF) (k:Nat):Prop:=k=g\/onS F.sg F.sr k\/plS F.tg F.q k\/F.LS k
structure EngT (base g:Nat) (w:World) (F F':KF) (E':KE) (n':Nat) (w':World):Prop where
 m:EngM w' base g F' E' n'
 old:∀k,engS g F' k->engS g F k\/w.heap.size<=k
 chg:Chg (engS g F) w w'
 ls:∀k,F'.LS k->F.LS k\/w.heap.size<=k
def goneT (T:List Pl) (ids:List Int):List Pl:=ids.foldl (fun T i=>T.filter fun p=>!(p.Image==i)) T
def heldK (E:KE):Nat:=match E.ld with
 | some (_,s)=>s.b.length
 | none=>0
def codW (x:Int):List UInt8:=if x=0 then [79,75] else if x=6 then [69,78,79,83,80,67] else if x=7 then [69,78,79,69,78,84] else [69,73,78,86,65,76]
def toldK (k:qaa) (x:Int) (word:List UInt8):List UInt8:=qwm (toL k) (if word=[] then codW x else word)
namespace KE
def reserve (E:KE) (n:Int):KE×Int :=
 if n<0 then (E,1) else if n>E.quota then (E,6)
 else ({ E with S:=(E.S.reserve (wi (n+heldK E))).1,T:=goneT E.T (E.S.reserve (wi (n+heldK E))).2.1 },(E.S.reserve (wi (n+heldK E))).2.2)
def idle (E:KE):KE:={ E with ld:=none,S:={ E.S with res:=0 } }
end KE
section
variable {w w':World} {base g n:Nat} {F F':KF} {E E':KE}
theorem EngM.below (h:EngM w base g F E n):∀k,engS g F k->base<=k/\k<w.heap.size:=by
 rintro k (rfl | (rfl | rfl) | hk | hk)
 ·exact ⟨h.hg,h.blk.lt⟩
 ·exact ⟨h.hs.1,h.st.blk.lt⟩
 ·exact ⟨h.hs.2,h.st.map.lt⟩
 ·exact h.tb.lt k hk
 ·cases hl:E.ld with
  | none=>exact absurd hk (h.nl hl k)
  | some x=>exact (h.lo x.1 x.2 hl).1.lt k hk
theorem EngT.refl (h:EngM w base g F E n):EngT base g w F F E n w:=⟨h,fun k hk=>.inl hk,Chg.refl _ _,fun k hk=>.inl hk⟩
theorem EngT.trans {w1 w2:World} {F1 F2:KF} {E1 E2:KE} {n1 n2:Nat} (h:EngT base g w F F1 E1 n1 w1) (h2:EngT base g w1 F1 F2 E2 n2 w2):EngT base g w F F2 E2 n2 w2:=by
 have hs:=h.chg.size;refine ⟨h2.m,fun k hk=>?_,h.chg.trans h2.chg fun k hk hS=>?_,fun k hk=>?_⟩
 ·rcases h2.old k hk with h3 | h3
  ·exact h.old k h3
  ·right;omega
 ·rcases h.old k hS with h3 | h3
  ·exact h3
  ·omega
 ·rcases h2.ls k hk with h3 | h3
  ·exact h.ls k h3
  ·right;omega
theorem EngM.ext (h:EngM w base g F E n) (hB:Below w.heap.size w w'):EngM w' base g F E n :=
 ⟨h.blk.ext hB,h.hg,h.st.ext hB,h.ok,h.hs,h.tb.ext hB,h.tl,fun C s hl=>⟨(h.lo C s hl).1.ext hB,(h.lo C s hl).2⟩,h.nl,h.dg,h.ds,h.dt,h.di⟩
theorem EngT.ext {w1 w2:World} {F1:KF} {E1:KE} {n1:Nat} (h:EngT base g w F F1 E1 n1 w1) (hB:Below w1.heap.size w1 w2):EngT base g w F F1 E1 n1 w2 :=
 ⟨h.m.ext hB,h.old,h.chg.trans (Chg.of_ext (S:=engS g F) hB) fun k _ hS=>hS,h.ls⟩
theorem EngT.of_ext (h:EngM w base g F E n) (hB:Below w.heap.size w w'):EngT base g w F F E n w':=(EngT.refl h).ext hB
theorem EngM.drew (h:EngM w base g F E n):EngM w.drew base g F E n:=h.ext (qb3 w)
theorem EngM.mono (h:EngM w base g F E n) {m:Nat} (hm:n<=m) (hok:StOk m E.S):EngM w base g F E m:=⟨h.blk,h.hg,h.st,hok,h.hs,h.tb,le_trans h.tl hm,h.lo,h.nl,h.dg,h.ds,h.dt,h.di⟩
theorem EngM.g_tg (h:EngM w base g F E n):g≠F.tg:=h.blk.ne_t h.tb.blk (by decide)
theorem EngM.g_q (h:EngM w base g F E n):∀k,F.q.blk=some k->k≠g:=qa1 h.tb.own h.blk (by decide)
theorem EngM.g_sg (h:EngM w base g F E n):g≠F.sg:=h.blk.ne_t h.st.blk (by decide)
theorem EngM.g_sr (h:EngM w base g F E n):g≠F.sr:=fun e=>h.st.map.ne_blk h.blk e.symm
theorem EngM.tg_sg (h:EngM w base g F E n):F.tg≠F.sg:=h.tb.blk.ne_t h.st.blk (by decide)
theorem EngM.tg_sr (h:EngM w base g F E n):F.tg≠F.sr:=fun e=>h.st.map.ne_blk h.tb.blk e.symm
theorem EngM.q_sg (h:EngM w base g F E n):∀k,F.q.blk=some k->k≠F.sg:=qa1 h.tb.own h.st.blk (by decide)
theorem EngM.q_sr (h:EngM w base g F E n):∀k,F.q.blk=some k->k≠F.sr:=fun k hk e=>by
 obtain ⟨cs,hcs⟩:=h.tb.own.blk_t hk;exact h.st.map.ne_blk hcs e.symm
theorem EngM.img_tg (h:EngM w base g F E n) {p:Int×Im} (hp:p∈E.S.L) {k:Nat} (hk:p.2.v.m.P.blk=some k):k≠F.tg:=(h.st.img p hp).ne_b h.tb.blk (by decide) k hk
theorem EngM.img_g (h:EngM w base g F E n) {p:Int×Im} (hp:p∈E.S.L) {k:Nat} (hk:p.2.v.m.P.blk=some k):k≠g:=(h.st.img p hp).ne_b h.blk (by decide) k hk
theorem EngT.tab (h:EngM w base g F E n) {q':Slc} {T':List Pl} (ht:PlTM w' base F.tg q' T') (hq:∀k,q'.blk=some k->w.heap.size<=k) (hc:Chg (fun k=>k=F.tg) w w') (hl:T'.length<=n) :
  EngT base g w F { F with q:=q' } { E with T:=T' } n w':=by
 have key:∀k,engS g { F with q:=q' } k->engS g F k\/w.heap.size<=k:=by
  rintro k (hk | hk | (hk | hk) | hk)
  ·exact .inl (.inl hk)
  ·exact .inl (.inr (.inl hk))
  ·exact .inl (.inr (.inr (.inl (.inl hk))))
  ·exact .inr (hq k hk)
  ·exact .inl (.inr (.inr (.inr hk)))
 refine ⟨⟨h.blk.chg hc h.g_tg,h.hg,h.st.keep hc (fun e=>h.tg_sg e.symm) (fun e=>h.tg_sr e.symm) fun p hp k hk e=>h.img_tg hp hk e,h.ok,h.hs,ht,hl,
  fun C s hld=>⟨(h.lo C s hld).1.chg hc fun k hk e=>h.dt k (.inl e) hk,(h.lo C s hld).2⟩,h.nl,h.dg,h.ds,?_,h.di⟩,key,hc.mono fun k _ e=>.inr (.inr (.inl (.inl e))),fun k hk=>.inl hk⟩
 rintro k (hk | hk) hLS
 ·exact h.dt k (.inl hk) hLS
 ·have h1:=hq k hk;have h2:=(h.below k (.inr (.inr (.inr hLS)))).2;omega
theorem EngT.store (h:EngM w base g F E n) {S':St} {m:Nat} (hst:StM w' base F.sg F.sr S') (hok:StOk m S') (hnm:n<=m) (hc:Chg (onS F.sg F.sr) w w') (hi:∀k,imgS S' k->imgS E.S k\/w.heap.size<=k) :
  EngT base g w F F { E with S:=S' } m w':=by
 refine ⟨⟨h.blk.chg hc ?_,h.hg,hst,hok,h.hs,h.tb.chg hc ?_,le_trans h.tl hnm,fun C s hld=>⟨(h.lo C s hld).1.chg hc ?_,(h.lo C s hld).2⟩,h.nl,h.dg,h.ds,h.dt,?_⟩,fun k hk=>.inl hk,hc.mono fun k _ hk=>.inr (.inl hk),fun k hk=>.inl hk⟩
 ·rintro (e | e)
  ·exact h.g_sg e
  ·exact h.g_sr e
 ·rintro k (hk | hk) (e | e)
  ·exact h.tg_sg (hk.symm.trans e)
  ·exact h.tg_sr (hk.symm.trans e)
  ·exact h.q_sg k hk e
  ·exact h.q_sr k hk e
 ·rintro k hk (e | e)
  ·exact h.ds.1 (e ▸ hk)
  ·exact h.ds.2 (e ▸ hk)
 ·intro k hk hLS;rcases hi k hk with h1 | h1
  ·exact h.di k h1 hLS
  ·have:=(h.below k (.inr (.inr (.inr hLS)))).2;omega
theorem EngM.other (h:EngM w base g F E n) {b:Nat} {t:TypeId} {vs:List Value} (hb:Blk w b t vs) (ht:t≠qb0/\t≠qbx/\t≠qck/\t≠qas/\t≠qau) (hLS:¬F.LS b) (hc:Chg (fun k=>k=b) w w'):EngM w' base g F E n:=by
 obtain ⟨t1,t2,t3,t4,t5⟩:=ht;refine ⟨h.blk.chg hc fun e=>hb.ne_t h.blk t1 e.symm,h.hg,h.st.keep hc (fun e=>hb.ne_t h.st.blk t2 e.symm) (fun e=>h.st.map.ne_blk hb e) (fun p hp k hk e=>(h.st.img p hp).ne_b hb (fun e=>t5 e.symm) k hk e),h.ok,h.hs,h.tb.chg hc ?_,h.tl,
  fun C s hl=>⟨(h.lo C s hl).1.chg hc fun k hk e=>hLS (e ▸ hk),(h.lo C s hl).2⟩,h.nl,h.dg,h.ds,h.dt,h.di⟩
 rintro k (hk | hk) e
 ·exact hb.ne_t h.tb.blk t3 (e.symm.trans hk)
 ·exact qa1 h.tb.own hb (fun e=>t4 e.symm) k hk e
theorem EngT.other {F1:KF} {E1:KE} {n1:Nat} {w1 w2:World} (h:EngT base g w F F1 E1 n1 w1) {b:Nat} {t:TypeId} {vs:List Value} (hb:Blk w1 b t vs) (ht:t≠qb0/\t≠qbx/\t≠qck/\t≠qas/\t≠qau) (hLS:¬F1.LS b) (hw:w.heap.size<=b) (hc:Chg (fun k=>k=b) w1 w2) :
  EngT base g w F F1 E1 n1 w2:=⟨h.m.other hb ht hLS hc,h.old,h.chg.trans hc fun k hk e=>by omega,h.ls⟩
theorem qfx (hT:Tab w) {k:qaa} (hw:Wide (toL k)) (x:Int) (word:List UInt8) (hwl:word.length<=100000) {e:Option Addr} {K:qad->World->Prop}
  (hK:∀q w',Rd qae w' q (toldK k x word)->Below w.heap.size w w'->(∀j,q.blk=some j->w.heap.size<=j)->K ⟨q,0,0,false⟩ w'):qbu e k x (strB word) w K:=by
 refine qvn _ _ _ _ ?_;unfold qn0;refine nwb fun w1 hk1 hB1 hs1=>nwb fun w2 hr2 hB2 hs2=>?_;have B2:=qak hB1 hB2;have hk2:=hk1.ext hB2;refine jpO fun J hJ=>?_;have key:∀wd:List UInt8,wd=(if word=[] then codW x else word)->J (strB wd,()) w2:=by
  intro wd hwd;refine hJ _ _ ?_;refine qal (r:=qaa.rep) (x:=k) hk2.cells ?_;have hwdl:wd.length<=100000:=by
   rw [hwd];split
   ·unfold codW
    repeat' split
    all_goals (simp)
   ·exact hwl
  refine zd1 (hT.ext B2) hw wd hwdl fun q w3 hq hB3 hqb=>?_;have hr3:=hr2.ext hB3;have B3:=qak B2 hB3;have rl:=hr3.lt;refine qaj (us:=[.slice q.a q.n q.c,.int .i64 0,.int .i64 0,.bool false]) hr3 (by simp) fun w4 hr4 hg4 hs4=>?_;have hc4:Chg (fun i=>i=w1.heap.size) w3 w4:=Chg.of_grown hg4 fun k hk=>by cases hk;rfl
  have B4:Below w.heap.size w w4:=B3.trans (hc4.below (by have:=B3.size;omega) fun i hi e=>by have:=hB1.size;omega);refine qal (r:=qad.rep) (x:=⟨q,0,0,false⟩) hr4.cells ?_;refine hK q w4 ?_ B4 (fun j hj=>le_trans B2.size (hqb j hj));have hq4:Rd qae w4 q (qwm (toL k) wd):=hq.chg hc4 fun a ha e=>by
   have:=hqb a.block (slk.2 ⟨a,ha,rfl⟩);have:=hr2.lt;omega
  unfold toldK;rw [<-hwd];exact hq4
 refine cO (fun hw0=>?_) fun hw0=>?_
 ·have hw0:=eq_of_beq hw0;rw [qdy] at hw0;have hw0:word=[]:=by rw [hw0,ByteArray.toList_eq]
  refine q63 _ ?_;unfold q0i;have kk:∀wd:List UInt8,wd=codW x->J (strB wd,()) w2:=fun wd h=>key wd (by rw [if_pos hw0,h]);unfold codW at kk;refine cO (fun e=>kk _ (by rw [if_pos (eq_of_beq e)])) fun e=>?_;have n0:=beq_eq_false_iff_ne.1 e;refine cO (fun e=>kk _ (by rw [if_neg n0,if_pos (eq_of_beq e)])) fun e=>?_;have n6:=beq_eq_false_iff_ne.1 e;refine cO (fun e=>kk _ (by rw [if_neg n0,if_neg n6,if_pos (eq_of_beq e)])) fun e=>?_;exact kk _ (by rw [if_neg n0,if_neg n6,if_neg (beq_eq_false_iff_ne.1 e)])
 ·have hw0:=beq_eq_false_iff_ne.1 hw0;rw [qdy] at hw0;exact key word (by rw [if_neg (fun h=>hw0 (by rw [h,ByteArray.toList_eq]))])
theorem zbd (h:EngM w base g F E n) {K:Int->World->Prop} (hK:K (heldK E:Int) w):qiv (some ⟨g,0,none⟩) w K:=by
 refine qv6 _ ?_;unfold qnl;simp only [onPtr_some];unfold heldK at hK;cases hl:E.ld with
 | none =>
  rw [hl] at hK;refine qa8 (x:=none) (by have:=h.blk.cells 3 _ rfl;rw [hl] at this;exact this) (cT rfl hK)
 | some x =>
  obtain ⟨C,s⟩:=x;rw [hl] at hK;have hc:w.cell? ((⟨g,0,none⟩:Addr).add 3)=some (.pointer (some ⟨F.lg,0,none⟩)):=by have:=h.blk.cells 3 _ rfl;rw [hl] at this;exact this
  refine qa8 (x:=some ⟨F.lg,0,none⟩) hc (cF rfl (qa8 (x:=some ⟨F.lg,0,none⟩) hc ?_));exact zdw (h.lo C s hl).1 hK
theorem q7m (h:EngM w base g F E n) (hn:n<=100000) {ids:Slc} {L:List Int} (hr:Rd E_int w ids L) (hne:∀a,ids.a=some a->a.block≠F.tg) {K:World->Prop}
  (hK:∀q' w',EngT base g w F { F with q:=q' } { E with T:=goneT E.T L } n w'->K w'):qgd (some ⟨g,0,none⟩) ids w K:=by
 refine qvh _ _ ?_;unfold qn2;have hl:ids.n=L.length:=hr.n;have hlm:L.length<=9223372036854775807:=by rw [<-hl];exact le_trans hr.nc hr.cm
 refine lpR (fun (st:Int×Unit) w1=>∃(k:Nat) (q1:Slc),st.1=(k:Int)/\k<=L.length/\EngT base g w F { F with q:=q1 } { E with T:=goneT E.T (L.take k) } n w1/\Rd E_int w1 ids L) (fun st=>L.length-st.1.toNat)
  ⟨0,F.q,rfl,zero_le _,EngT.refl h,hr⟩ ?_
 rintro ⟨i,u⟩ w1 ⟨k,q1,hi,hk,h1,hr1⟩ I hI;dsimp only at hi ⊢;subst hi;refine cO (fun e=>?_) fun e=>?_
 ·have e:=oTq e;have hlt:k<L.length:=by omega
  obtain ⟨x,hx⟩:∃x,L[k]?=some x:=⟨_,List.getElem?_eq_getElem hlt⟩;refine hr1.ix (E:=E_int) (i:=(k:Int)) rfl (by omega) (by omega) fun hc=>?_;have e1:L[(k:Int).toNat]'(by omega)=x:=(List.getElem?_eq_some_iff.1 (by simpa using hx)).2;rw [e1] at hc;refine lI (x:=x) (by simpa using hc 0 _ rfl) ?_;simp only [onPtr_some];refine qa8 (x:=some ⟨F.tg,0,none⟩) (h1.m.blk.cells 2 _ rfl) ?_;refine zby h1.m.tb (le_trans h1.m.tl hn) (le_trans h1.m.hg (Nat.le_of_lt h1.m.blk.lt)) x fun m q2 w2 ht hq hc2=>?_;have h2:=EngT.tab h1.m ht hq hc2 (le_trans (length_filter_le _ _) h1.m.tl);rw [w64i (x:=(k:Int)+1) (by omega)];refine hI _ _ ⟨k+1,q2,by simp,by omega,?_,hr1.chg hc2 fun a ha=>hne a ha⟩ (by dsimp only;omega);have e2:goneT E.T (L.take (k+1))=(goneT E.T (L.take k)).filter fun p=>!(p.Image==x):=by
   unfold goneT;rw [take_add_one,hx,Option.toList_some,List.foldl_append];rfl
  rw [e2];exact h1.trans h2
 ·have e:=oFq e;have hkl:k=L.length:=by omega
  rw [hkl,take_length] at h1;exact hK q1 w1 h1
end
theorem q08 (n:Int):∀(f:Nat) (S:St) (G:List Int),∀p∈(S.roomF n f G).1.L,p∈S.L
 | 0,S,G,p,hp=>hp
 | f+1,S,G,p,hp=>by
  unfold St.roomF at hp;split at hp
  ·have:=q08 n f _ _ p hp;exact ((qi7 _ _ _).1 this).2
  ·exact hp
theorem zct (S:St) (n:Int):∀p∈(S.reserve n).1.L,p∈S.L:=by
 intro p hp;unfold St.reserve at hp;split at hp
 ·exact hp
 ·split at hp
  ·exact hp
  ·exact q08 n _ ({ S with res:=n }:St) _ p hp
section
variable {w w':World} {base g n:Nat} {F F':KF} {E E':KE}
theorem q6j (h:EngM w base g F E n) (hn:n<=1000) (m:Int) {K:Int->World->Prop} (hK:∀F' w',EngT base g w F F' (E.reserve m).1 n w'->F'.lg=F.lg->F'.gd=F.gd->F'.LS=F.LS->K (E.reserve m).2 w'):qg2 (some ⟨g,0,none⟩) m w K:=by
 refine qsk _ _ ?_;unfold qks;simp only [onPtr_some];unfold KE.reserve at hK;refine cO (fun e=>?_) fun e=>?_
 ·rw [if_pos (oTq e)] at hK;exact hK F w (EngT.refl h) rfl rfl rfl
 rw [if_neg (oFq e)] at hK;refine lI (x:=E.quota) (h.blk.cells 0 _ rfl) (cO (fun e=>?_) fun e=>?_)
 ·rw [if_pos (oTq e)] at hK;exact hK F w (EngT.refl h) rfl rfl rfl
 rw [if_neg (oFq e)] at hK;have hd:=h.drew;refine qa8 (x:=some ⟨F.sg,0,none⟩) (hd.blk.cells 1 _ rfl) (zbd hd ⟨hd.blk.cells 1 _ rfl,?_⟩);refine zay hd.st h.ok hn fun q w2 hst ho hc=>?_;have h2:=EngT.store hd hst (q4m h.ok _) (le_refl n) hc (fun k hk=>by
  obtain ⟨p,hp,hb⟩:=hk;exact .inl ⟨p,zct _ _ p hp,hb⟩)
 refine q7m h2.m (by omega) ho.rd (fun a ha=>?_) fun q' w3 h3=>?_
 ·have h1:=(ho.lt a.block (slk.2 ⟨a,ha,rfl⟩)).1;have h4:=h.tb.blk.lt;have e1:w.drew.heap.size=w.heap.size:=rfl;show a.block≠F.tg;omega
 ·exact hK _ w3 ((EngT.of_ext h (qb3 w)).trans (h2.trans h3)) rfl rfl rfl
theorem q1j (h:EngM w base g F E n) {K:World->Prop} (hK:∀F' w',EngT base g w F F' E.idle n w'->F'.q=F.q->F'.tg=F.tg->K w'):qeo (some ⟨g,0,none⟩) w K:=by
 refine qvq _ ?_;unfold qoc;simp only [onPtr_some];show stK ⟨g,3,none⟩ _ _ _;refine qaj h.blk (by show (3+1:Nat)<=26;omega) fun w1 hb1 hg1 hs1=>?_;have hc1:Chg (fun i=>i=g) w w1:=Chg.of_grown hg1 fun k hk=>by cases hk;rfl
 let F1:KF:={ F with LS:=fun _=>False }
 let E1:KE:={ E with ld:=none }
 have hb1:Blk w1 g qb0 (engC F1 E1):=hb1;have h1:EngT base g w F F1 E1 n w1:=by
  refine ⟨⟨hb1,h.hg,h.st.keep hc1 (fun e=>h.g_sg e.symm) (fun e=>h.g_sr e.symm) (fun p hp k hk e=>h.img_g hp hk e),h.ok,h.hs,h.tb.chg hc1 ?_,h.tl,(fun C s hl=>by cases hl),(fun _ k hk=>hk),(fun hk=>hk),⟨fun hk=>hk,fun hk=>hk⟩,(fun k _ hk=>hk),(fun k _ hk=>hk)⟩,?_,hc1.mono fun k _ e=>.inl e,fun k hk=>hk.elim⟩
  ·rintro k (hk | hk) e
   ·exact h.g_tg (e.symm.trans hk)
   ·exact h.g_q k hk e
  ·rintro k (hk | hk | hk | hk)
   ·exact .inl (.inl hk)
   ·exact .inl (.inr (.inl hk))
   ·exact .inl (.inr (.inr (.inl hk)))
   ·exact hk.elim
 refine qa8 (x:=some ⟨F.sg,0,none⟩) (h1.m.blk.cells 1 _ rfl) ?_;refine q0r h1.m.st fun w2 hst hc2 hs2=>?_;have h2:=EngT.store h1.m hst (qof h.ok 0) (le_refl n) hc2 fun k hk=>.inl hk;exact hK F1 w2 (h1.trans h2) rfl rfl
end
def cel1 (n more size:Int):Int:=wi ((wi (wi (wi (n+more)+size)-1)).tdiv size)
def cel2 (W H dx dy cw ch:Int):Int×Int :=
 if btw W 1 16384=false then (0,0) else if btw H 1 16384=false then (0,0) else if btw dx 0 64=false then (0,0) else if btw dy 0 64=false then (0,0) else if btw cw 1 64=false then (0,0) else if btw ch 1 64=false then (0,0)
 else (cel1 H dy ch,cel1 W dx cw)
def partK (at_ n side:Int):Int:=if n<1 then wi (side-at_) else if wi (side-at_)<n then wi (side-at_) else n
def pl0:Pl:=⟨0,0,false,0,0,0,0,0,0,0,0,0,0,0⟩
def matOf (S:St) (id:Int):qab:=(((lookL S.L id).map Im.v).getD nilI).m
def badPl (m:qab) (k:qaa) (v:qac):Bool:=decide (k.X<0) || (decide (k.Y<0) || (decide (k.X>=m.W) || (decide (k.Y>=m.H) || (decide (k.DX>=v.CellW) || decide (k.DY>=v.CellH)))))
def rcK (m:qab) (k:qaa) (v:qac):Int×Int:=cel2 (partK k.X k.PW m.W) (partK k.Y k.PH m.H) k.DX k.DY v.CellW v.CellH
def rowK (m:qab) (k:qaa) (v:qac):Int:=if k.Rows<1 then (rcK m k v).1 else k.Rows
def colK (m:qab) (k:qaa) (v:qac):Int:=if k.Cols<1 then (rcK m k v).2 else k.Cols
def farK (m:qab) (k:qaa) (v:qac):Bool:=decide (rowK m k v>1048576) || (decide (colK m k v>1048576) || (!btw v.CellW 1 64 || !btw v.CellH 1 64))
def putK (m:qab) (k:qaa) (id:Int) (v:qac) (r c:Int):Pl:=⟨id,k.Place,v.View.Alt,wi (v.View.Top+v.View.Row),v.View.Col,r,c,k.X,k.Y,partK k.X k.PW m.W,partK k.Y k.PH m.H,k.DX,k.DY,k.Z⟩
def qhf (S:St) (k:qaa) (id:Int) (v:qac):Pl×Int :=
 if badPl (matOf S id) k v then (pl0,1) else if farK (matOf S id) k v then (pl0,1) else (putK (matOf S id) k id v (rowK (matOf S id) k v) (colK (matOf S id) k v),0)
structure KR where
 reply:List UInt8
 rows:Int
 cols:Int
 moves:Bool
def kr0:KR:=⟨[],0,0,false⟩
def ResM (w:World) (r:qad) (R:KR):Prop:=Rd qae w r.Reply R.reply/\r.Rows=R.rows/\r.Cols=R.cols/\r.Moves=R.moves
def toldR (k:qaa) (x:Int) (word:List UInt8):KR:=⟨toldK k x word,0,0,false⟩
section
variable {w w':World} {base g n:Nat} {F F':KF} {E E':KE}
theorem ResM.ext {r:qad} {R:KR} (h:ResM w r R) (hB:Below w.heap.size w w'):ResM w' r R:=⟨h.1.ext hB,h.2⟩
theorem ResM.nil (w:World):ResM w ⟨⟨none,0,0⟩,0,0,false⟩ kr0:=⟨Rd.nil _ _,rfl,rfl,rfl⟩
theorem qeh {v lo hi:Int} {K:Bool->World->Prop} (hK:K (btw v lo hi) w):qcw v lo hi w K:=by
 refine q0g _ _ _ ?_;unfold qtg;unfold btw at hK;refine cO (fun e=>?_) fun e=>?_
 ·rw [e,Bool.true_and] at hK;exact hK
 ·rw [e,Bool.false_and] at hK;exact hK
theorem q23 {a b c:Int} (hc:c≠0) {K:Int->World->Prop} (hK:K (cel1 a b c) w):ql0 a b c w K:=by
 refine q3t _ _ _ ?_;unfold qxg;exact ⟨hc,hK⟩
theorem ze4 {W H dx dy cw ch:Int} {K:Int->Int->World->Prop} (hK:∀w',Below w.heap.size w w'->K (cel2 W H dx dy cw ch).1 (cel2 W H dx dy cw ch).2 w'):qrl W H dx dy cw ch w K:=by
 refine q3r _ _ _ _ _ _ ?_;unfold qw2;refine nwb fun w1 hb hB1 hs1=>?_;have hK:=hK w1 hB1;unfold cel2 at hK;refine lpR (fun (st:Int×Unit) w2=>w2=w1/\(st.1=0\/st.1=1/\btw W 1 16384=true\/st.1=2/\btw W 1 16384=true/\btw H 1 16384=true)) (fun st=>2-st.1.toNat) ⟨rfl,.inl rfl⟩ ?_;rintro ⟨i,u⟩ w2 ⟨rfl,hi⟩ I hI;dsimp only at hi ⊢;have neg:∀{b:Bool},(!b)=true->b=false:=by intro b;cases b<;>simp
 have pos:∀{b:Bool},(!b)=false->b=true:=by intro b;cases b<;>simp
 rcases hi with rfl | ⟨rfl,h1⟩ | ⟨rfl,h1,h2⟩
 ·refine cT rfl ⟨⟨by decide,by decide⟩,lI (x:=W) (hb.cells 0 _ rfl) (qeh (cO (fun e=>?_) fun e=>?_))⟩
  ·rw [if_pos (neg e)] at hK;exact hK
  ·exact hI _ _ ⟨rfl,.inr (.inl ⟨rfl,pos e⟩)⟩ (by show 2-(i64.wrap (0+1)).toNat<2-(0:Int).toNat;decide)
 ·refine cT rfl ⟨⟨by decide,by decide⟩,lI (x:=H) (hb.cells 1 _ rfl) (qeh (cO (fun e=>?_) fun e=>?_))⟩
  ·rw [if_neg (by rw [h1];decide),if_pos (neg e)] at hK;exact hK
  ·exact hI _ _ ⟨rfl,.inr (.inr ⟨rfl,h1,pos e⟩)⟩ (by show 2-(i64.wrap (1+1)).toNat<2-(1:Int).toNat;decide)
 ·rw [if_neg (by rw [h1];decide),if_neg (by rw [h2];decide)] at hK;refine cF rfl (jpO fun J hJ=>?_);refine qeh (cO (fun e=>?_) fun e=>?_)
  ·rw [if_pos (neg e)] at hK;exact hK
  rw [if_neg (by rw [pos e];decide)] at hK;refine qeh (cO (fun e=>?_) fun e=>?_)
  ·rw [if_pos (neg e)] at hK;exact hK
  rw [if_neg (by rw [pos e];decide)] at hK;refine qeh (cO (fun e=>?_) fun e3=>?_)
  ·rw [if_pos (neg e)] at hK;exact hK
  rw [if_neg (by rw [pos e3];decide)] at hK;refine qeh (cO (fun e=>?_) fun e4=>?_)
  ·rw [if_pos (neg e)] at hK;exact hK
  rw [if_neg (by rw [pos e4];decide)] at hK;have ch0:ch≠0:=by
   have:=pos e4;unfold btw at this;simp at this;omega
  have cw0:cw≠0:=by
   have:=pos e3;unfold btw at this;simp at this;omega
  exact hJ _ _ (q23 ch0 (q23 cw0 hK))
theorem q71 {a b c:Int} {K:Int->World->Prop} (hK:K (partK a b c) w):qnu a b c w K:=by
 refine q42 _ _ _ ?_;unfold qze;unfold partK at hK;refine cO (fun e=>?_) fun e=>?_
 ·rw [if_pos (oTq e)] at hK;exact hK
 ·rw [if_neg (oFq e)] at hK;exact hK
theorem qmx {a b:Bool} {J:Bool->Prop} {X:Prop} (hJ:J (a || b)) (h:J b->X):cond a (J true) X:=by
 cases a
 ·exact h hJ
 ·exact hJ
theorem ze0 (h:EngM w base g F E n) (k:qaa) (id:Int) (v:qac) {K:Pl->Int->World->Prop} (hK:∀w',Below w.heap.size w w'->K (qhf E.S k id v).1 (qhf E.S k id v).2 w'):qhw (some ⟨g,0,none⟩) k id v w K:=by
 refine qua _ _ _ _ ?_;unfold qm5;simp only [onPtr_some];refine nwb fun w1 hk1 hB1 hs1=>nwb fun w2 hv2 hB2 hs2=>nwb fun w3 ht3 hB3 hs3=>?_;have ht3:Blk w3 w2.heap.size qas (qag.rep.cells pl0):=ht3;have B3:=qch hB1 hB2 hB3;have h3:=h.ext B3;unfold qhf at hK;refine qa8 (x:=some ⟨F.sg,0,none⟩) (h3.blk.cells 1 _ rfl) (qxr h3.st id fun w4 hB4=>?_);have em:(((lookL E.S.L id).map Im.v).getD nilI).m=matOf E.S id:=rfl;rw [em];generalize matOf E.S id=m at *;refine qdd (vs:=qab.rep.cells m) rfl fun w6 hm6 hB6 hs6=>?_;have B6:=qch B3 hB4 hB6;have hk6:=(((hk1.ext hB2).ext hB3).ext hB4).ext hB6;have hv6:=((hv2.ext hB3).ext hB4).ext hB6;have ht6:=(ht3.ext hB4).ext hB6;have z1:=hB1.size;have z2:=hB2.size;have z3:=hB3.size;have z4:=hB4.size;have z6:=hB6.size;have lk:=hk6.lt;have lv:=hv6.lt;have lt_:=ht6.lt;have lm:=hm6.lt;refine jpO fun J1 hJ1=>jpO fun J5 hJ5=>?_;have j5:J5 (badPl m k v,()) w6:=by
  refine hJ5 _ _ ?_;cases hbad:badPl m k v
  ·rw [hbad] at hK;simp only [Bool.false_eq_true,if_false] at hK;refine cF rfl (hJ1 _ _ ?_);refine lI (x:=k.Place) (hk6.cells 10 _ rfl) ?_;refine qcu (x:=v.View.Alt) (hv6.cells 0 _ rfl) (lI (x:=v.View.Top) (hv6.cells 1 _ rfl) (lI (x:=v.View.Row) (hv6.cells 4 _ rfl) (lI (x:=v.View.Col) (hv6.cells 5 _ rfl) ?_)));refine lI (x:=k.Rows) (hk6.cells 18 _ rfl) (lI (x:=k.Cols) (hk6.cells 19 _ rfl) (lI (x:=k.X) (hk6.cells 12 _ rfl) (lI (x:=k.Y) (hk6.cells 13 _ rfl) (lI (x:=k.DX) (hk6.cells 16 _ rfl) (lI (x:=k.DY) (hk6.cells 17 _ rfl) (lI (x:=k.Z) (hk6.cells 20 _ rfl) ?_))))))
   let P0:Pl:=⟨id,k.Place,v.View.Alt,wi (v.View.Top+v.View.Row),v.View.Col,k.Rows,k.Cols,k.X,k.Y,0,0,k.DX,k.DY,k.Z⟩
   refine qdd (vs:=qag.rep.cells P0) rfl fun w9 hp9 hB9 hs9=>?_;have hk9:=(hk6.ext hB9).drew;have hv9:=(hv6.ext hB9).drew;have ht9:=(ht6.ext hB9).drew;have hm9:=(hm6.ext hB9).drew;have B9:=(qak B6 hB9).drew;refine lI (x:=k.X) (hk9.cells 12 _ rfl) (lI (x:=k.PW) (hk9.cells 14 _ rfl) (lI (x:=m.W) (hm9.cells 0 _ rfl) ?_));refine lI (x:=k.Y) (hk9.cells 13 _ rfl) (lI (x:=k.PH) (hk9.cells 15 _ rfl) (lI (x:=m.H) (hm9.cells 1 _ rfl) ?_));refine q71 ⟨hm9.cells 1 _ rfl,hk9.cells 15 _ rfl,hk9.cells 13 _ rfl,q71 ?_⟩;show stK ⟨w6.heap.size,9,none⟩ _ _ _;refine qaj hp9.drew (by show (9+1:Nat)<=14;omega) fun w12 hp12 hg12 hs12=>?_;have hc12:Chg (fun i=>i=w6.heap.size) w9.drew w12:=Chg.of_grown hg12 fun k hk=>by cases hk;rfl
   let P1:Pl:={ P0 with W:=partK k.X k.PW m.W }
   have hp12:Blk w12 w6.heap.size qas (qag.rep.cells P1):=hp12;show stK ⟨w6.heap.size,10,none⟩ _ _ _;refine qaj hp12 (by show (10+1:Nat)<=14;omega) fun w13 hp13 hg13 hs13=>?_;have hc13:Chg (fun i=>i=w6.heap.size) w12 w13:=Chg.of_grown hg13 fun k hk=>by cases hk;rfl
   let P2:Pl:={ P1 with H:=partK k.Y k.PH m.H }
   have hp13:Blk w13 w6.heap.size qas (qag.rep.cells P2):=hp13;have hcc:Chg (fun i=>i=w6.heap.size) w9.drew w13:=hc12.trans hc13 fun i _ hi=>hi;have nlt:∀{j:Nat},j<w6.heap.size->¬j=w6.heap.size:=fun h e=>by omega
   have hk13:=hk9.chg hcc (nlt lk);have hv13:=hv9.chg hcc (nlt lv);have ht13:=ht9.chg hcc (nlt lt_);have B13:Below w.heap.size w w13:=B9.trans (hcc.below (by have:=hB9.size;show w.heap.size<=w9.heap.size;omega) fun i hi e=>by omega);refine lI (x:=partK k.X k.PW m.W) (hp13.cells 9 _ rfl) (lI (x:=partK k.Y k.PH m.H) (hp13.cells 10 _ rfl) (lI (x:=k.DX) (hk13.cells 16 _ rfl) (lI (x:=k.DY) (hk13.cells 17 _ rfl) (lI (x:=v.CellW) (hv13.cells 6 _ rfl) (lI (x:=v.CellH) (hv13.cells 7 _ rfl) ?_)))));refine ze4 fun w14 hB14=>?_;have hp14:=hp13.ext hB14;have hv14:=hv13.ext hB14;have ht14:=ht13.ext hB14;have B14:=qak B13 hB14;have z13:w6.heap.size<w13.heap.size:=hp13.lt;refine jpO fun J2 hJ2=>?_;have k2:∀wx,Below w.heap.size w wx->Blk wx w6.heap.size qas (qag.rep.cells { P2 with Rows:=rowK m k v })->Blk wx w1.heap.size qbe (qac.rep.cells v)->Blk wx w2.heap.size qas (qag.rep.cells pl0)->J2 (()) wx:=by
    intro w15 B15 hp15 hv15 ht15;refine hJ2 _ _ (jpO fun J3 hJ3=>?_);have k3:∀wx,Below w.heap.size w wx->Blk wx w6.heap.size qas (qag.rep.cells { P2 with Rows:=rowK m k v,Cols:=colK m k v })->Blk wx w1.heap.size qbe (qac.rep.cells v)->Blk wx w2.heap.size qas (qag.rep.cells pl0)->J3 (()) wx:=by
     intro w16 B16 hp16 hv16 ht16;refine hJ3 _ _ (jpO fun J4 hJ4=>?_);have k4:J4 (farK m k v,()) w16:=by
      refine hJ4 _ _ ?_;cases hfar:farK m k v
      ·rw [hfar] at hK;simp only [Bool.false_eq_true,if_false] at hK;refine cF rfl (qal (r:=qag.rep) (x:={ P2 with Rows:=rowK m k v,Cols:=colK m k v }) hp16.cells ?_);refine qbk (r:=qag.rep) (x:={ P2 with Rows:=rowK m k v,Cols:=colK m k v }) ht16 rfl rfl fun w17 hc17 hs17=>?_;exact hK w17 (b1o B16 hc17 (by omega))
      ·rw [hfar] at hK;simp only [if_true] at hK;refine cT rfl ?_;refine qbk (r:=qag.rep) (x:=pl0) ht16 rfl rfl fun w17 hc17 hs17=>?_;exact hK w17 (b1o B16 hc17 (by omega))
     unfold farK at k4;refine lI (x:=rowK m k v) (hp16.cells 5 _ rfl) (qmx (J:=fun b=>J4 (b,()) w16) k4 fun k4=>?_);refine lI (x:=colK m k v) (hp16.cells 6 _ rfl) (qmx (J:=fun b=>J4 (b,()) w16) k4 fun k4=>?_);refine lI (x:=v.CellW) (hv16.cells 6 _ rfl) (qeh (qmx (J:=fun b=>J4 (b,()) w16) k4 fun k4=>?_));exact lI (x:=v.CellH) (hv16.cells 7 _ rfl) (qeh k4)
    refine lI (x:=k.Cols) (hp15.cells 6 _ rfl) (cO (fun e=>?_) fun e=>?_)
    ·show stK ⟨w6.heap.size,6,none⟩ _ _ _;refine qaj hp15 (by show (6+1:Nat)<=14;omega) fun w16 hp16 hg16 hs16=>?_;have hc16:Chg (fun i=>i=w6.heap.size) w15 w16:=Chg.of_grown hg16 fun k hk=>by cases hk;rfl
     refine k3 w16 (B15.trans (hc16.below B15.size fun i hi e=>by omega)) ?_ (hv15.chg hc16 (nlt lv)) (ht15.chg hc16 (nlt lt_));have ec:colK m k v=(rcK m k v).2:=by unfold colK;rw [if_pos (oTq e)]
     rw [ec];exact hp16
    ·have ec:colK m k v=k.Cols:=by unfold colK;rw [if_neg (oFq e)]
     refine k3 w15 B15 ?_ hv15 ht15;rw [ec];exact hp15
   refine lI (x:=k.Rows) (hp14.cells 5 _ rfl) (cO (fun e=>?_) fun e=>?_)
   ·show stK ⟨w6.heap.size,5,none⟩ _ _ _;refine qaj hp14 (by show (5+1:Nat)<=14;omega) fun w15 hp15 hg15 hs15=>?_;have hc15:Chg (fun i=>i=w6.heap.size) w14 w15:=Chg.of_grown hg15 fun k hk=>by cases hk;rfl
    refine k2 w15 (B14.trans (hc15.below B14.size fun i hi e=>by omega)) ?_ (hv14.chg hc15 (nlt lv)) (ht14.chg hc15 (nlt lt_));have ec:rowK m k v=(rcK m k v).1:=by unfold rowK;rw [if_pos (oTq e)]
    rw [ec];exact hp15
   ·have ec:rowK m k v=k.Rows:=by unfold rowK;rw [if_neg (oFq e)]
    refine k2 w14 B14 ?_ hv14 ht14;rw [ec];exact hp14
  ·rw [hbad] at hK;simp only [if_true] at hK;refine cT rfl ?_;refine qbk (r:=qag.rep) (x:=pl0) ht6 rfl rfl fun w7 hc7 hs7=>?_;exact hK w7 (b1o B6 hc7 (by omega))
 unfold badPl at j5;refine lI (x:=k.X) (hk6.cells 12 _ rfl) (qmx (J:=fun b=>J5 (b,()) w6) j5 fun j5=>?_);refine lI (x:=k.Y) (hk6.cells 13 _ rfl) (qmx (J:=fun b=>J5 (b,()) w6) j5 fun j5=>?_);refine lI (x:=k.X) (hk6.cells 12 _ rfl) (lI (x:=m.W) (hm6.cells 0 _ rfl) (qmx (J:=fun b=>J5 (b,()) w6) j5 fun j5=>?_));refine lI (x:=k.Y) (hk6.cells 13 _ rfl) (lI (x:=m.H) (hm6.cells 1 _ rfl) (qmx (J:=fun b=>J5 (b,()) w6) j5 fun j5=>?_));refine lI (x:=k.DX) (hk6.cells 16 _ rfl) (lI (x:=v.CellW) (hv6.cells 6 _ rfl) (qmx (J:=fun b=>J5 (b,()) w6) j5 fun j5=>?_));exact lI (x:=k.DY) (hk6.cells 17 _ rfl) (lI (x:=v.CellH) (hv6.cells 7 _ rfl) j5)
end
theorem StOk.mono {n m:Nat} {S:St} (h:StOk n S) (hm:n<=m):StOk m S :=
 ⟨h.q0,h.q1,h.used,h.fits,le_trans h.len hm,h.clk0,by have:=h.clk;omega,h.srt,fun p hp=>⟨(h.keys p hp).1,by have:=(h.keys p hp).2;omega⟩,h.stamps,h.borns,h.st1,h.bo1⟩
def q4o (k:qaa) (p:Pl):KR:=⟨toldK k 0 [],p.Rows,p.Cols,k.Stay !=1⟩
def putE (E:KE) (p:Pl):KE:={ E with T:=(E.T.filter fun o=>!likeP p o)++[p] }
def qce (E:KE) (k:qaa) (id:Int) (v:qac):KE×KR×Bool :=
 if (qhf E.S k id v).2=0 then
  (if mayPl (qhf E.S k id v).1 then (putE E (qhf E.S k id v).1,q4o k (qhf E.S k id v).1,true) else (E,toldR k 1 [],false))
 else (E,toldR k (qhf E.S k id v).2 [],false)
section
variable {w w':World} {base g n:Nat} {F F':KF} {E E':KE}
theorem Tab.below4 (h:Tab w) (hB:Below 4 w w'):Tab w':=var?_below (g:=3) hB (by kernel_rfl) (by decide) h
theorem EngT.belowB (h:EngM w base g F E n) {n':Nat} (hT:EngT base g w F F' E' n' w'):Below base w w':=hT.chg.below (le_trans h.hg (Nat.le_of_lt h.blk.lt)) fun i hi hs=>by have:=(h.below i hs).1;omega
theorem Tab.stepK (hTab:Tab w) (h:EngM w base g F E n) (hb:4<=base) {n':Nat} (hT:EngT base g w F F' E' n' w'):Tab w':=hTab.below4 ((EngT.belowB h hT).mono hb)
theorem EngM.up (h:EngM w base g F E n) {m:Nat} (hm:n<=m):EngM w base g F E m:=h.mono hm (h.ok.mono hm)
theorem EngT.up {F1:KF} {E1:KE} {n1:Nat} (h:EngT base g w F F1 E1 n1 w') {m:Nat} (hm:n1<=m):EngT base g w F F1 E1 m w':=⟨h.m.up hm,h.old,h.chg,h.ls⟩
theorem q4y (h:EngM w base g F E n) (hn:n<=90000) (hT:Tab w) (h4:4<=base) {k:qaa} (hw:Wide (toL k)) (id:Int) (v:qac) {K:qad->Bool->World->Prop}
  (hK:∀r F' w',ResM w' r (qce E k id v).2.1->EngT base g w F F' (qce E k id v).1 (n+1) w'->(∀j,r.Reply.blk=some j->w.heap.size<=j/\¬engS g F' j)->K r (qce E k id v).2.2 w'):qfq (some ⟨g,0,none⟩) k id v w K:=by
 refine quk _ _ _ _ ?_;unfold qmn;simp only [onPtr_some];refine nwb fun w1 hk1 hB1 hs1=>nwb fun w2 hv2 hB2 hs2=>nwb fun w3 ht3 hB3 hs3=>?_;have hk3:=(hk1.ext hB2).ext hB3;have hv3:=hv2.ext hB3;have B3:=qch hB1 hB2 hB3;refine qal (r:=qaa.rep) (x:=k) hk3.cells (qal (r:=qac.rep) (x:=v) hv3.cells ?_);refine ze0 (h.ext B3) k id v fun w4 hB4=>?_;unfold qce at hK;generalize (qhf E.S k id v).1=p at *;generalize (qhf E.S k id v).2=x at *;refine qdd (vs:=qag.rep.cells p) rfl fun w6 hp6 hB6 hs6=>?_;have B6:=qch B3 hB4 hB6;have hk6:=(hk3.ext hB4).ext hB6;have ht6:=(ht3.ext hB4).ext hB6;have h6:EngT base g w F F E (n+1) w6:=(EngT.of_ext h B6).up (by omega);have z1:=hB1.size;have z2:=hB2.size;have z3:=hB3.size;have z4:=hB4.size;have z6:=hB6.size;have nLS:∀{b:Nat},w.heap.size<=b->¬F.LS b:=fun hb hk=>by have:=(h.below _ (.inr (.inr (.inr hk)))).2;omega
 have tys:qai≠qb0/\qai≠qbx/\qai≠qck/\qai≠qas/\qai≠qau:=by decide
 have lt3:=ht3.lt;have lt6:=ht6.lt;have lk6:=hk6.lt;refine jpO fun J hJ=>?_;have bad:∀y:Int,y≠0->(∀r F' w',ResM w' r (toldR k y [])->EngT base g w F F' E (n+1) w'->(∀j,r.Reply.blk=some j->w.heap.size<=j/\¬engS g F' j)->K r false w')->J (y,()) w6:=by
  intro y hy hK;refine hJ _ _ (cT (by simpa using hy) (qal (r:=qaa.rep) (x:=k) hk6.cells ?_));refine qfx (hT.ext B6) hw y [] (by simp) fun q w8 hq hB8 hqb=>?_;have h8:=h6.ext hB8;have ht8:=ht6.ext hB8;refine qbk (r:=qad.rep) (x:=⟨q,0,0,false⟩) ht8 rfl rfl fun w9 hc9 hs9=>?_;exact hK _ F w9 ⟨hq.chg hc9 fun a ha e=>by have:=hqb a.block (slk.2 ⟨a,ha,rfl⟩);omega,rfl,rfl,rfl⟩ (h8.other ht8 tys (nLS (by omega)) (by omega) hc9) (fun j hj=>⟨by have:=hqb j hj;omega,fun hs=>by have:=(h6.m.below _ hs).2;have:=hqb j hj;omega⟩)
 by_cases hx:x=0
 ·rw [if_pos hx] at hK;refine cT (by simpa using hx) (qa8 (x:=some ⟨F.tg,0,none⟩) (h6.m.drew.blk.cells 2 _ rfl) ?_);refine qal (r:=qag.rep) (x:=p) hp6.drew.cells ?_;have h6d:=h6.ext (qb3 w6);refine zd3 h6d.m.tb (by have:=h.tl;omega) (le_trans h6d.m.hg (Nat.le_of_lt h6d.m.blk.lt)) p (fun hm w7 hB7=>?_) fun hm q' w7 ht' hq' hc7=>?_
  ·rw [if_neg (by rw [hm];decide)] at hK;have hB67:Below w6.heap.size w6 w7:=qak (qb3 w6) hB7;refine hJ _ _ (cT rfl (qal (r:=qaa.rep) (x:=k) (hk6.ext hB67).cells ?_));refine qfx (hT.ext (qak B6 hB67)) hw 1 [] (by simp) fun q w8 hq hB8 hqb=>?_;have h8:=(h6.ext hB67).ext hB8;have ht8:=(ht6.ext hB67).ext hB8;refine qbk (r:=qad.rep) (x:=⟨q,0,0,false⟩) ht8 rfl rfl fun w9 hc9 hs9=>?_;have z7:=hB67.size;exact hK _ F w9 ⟨hq.chg hc9 fun a ha e=>by have:=hqb a.block (slk.2 ⟨a,ha,rfl⟩);omega,rfl,rfl,rfl⟩ (h8.other ht8 tys (nLS (by omega)) (by omega) hc9) (fun j hj=>⟨by have:=hqb j hj;omega,fun hs=>by have:=((h6.ext hB67).m.below _ hs).2;have:=hqb j hj;omega⟩)
  ·rw [if_pos hm] at hK;have hll:((E.T.filter fun o=>!likeP p o)++[p]).length<=n+1:=by
    rw [length_append,List.length_singleton];have:=length_filter_le (fun o=>!likeP p o) E.T;have:=h.tl;omega
   have h7:=h6d.trans (EngT.tab h6d.m ht' hq' hc7 hll);have hT7:=hT.stepK h h4 h7;have z7:=hc7.size;have e6:w6.drew.heap.size=w6.heap.size:=rfl;have tgl:F.tg<w.heap.size:=h.tb.blk.lt;have hk7:=hk6.drew.chg hc7 fun e=>by omega
   have ht7:=ht6.drew.chg hc7 fun e=>by omega
   have hp7:=hp6.drew.chg hc7 fun e=>by omega
   refine hJ _ _ (cF rfl (qal (r:=qaa.rep) (x:=k) hk7.cells ?_));refine qfx hT7 hw 0 [] (by simp) fun q w10 hq hB10 hqb=>?_;refine qdd (vs:=qad.rep.cells ⟨q,0,0,false⟩) rfl fun w12 ho12 hB12 hs12=>?_;have B712:=qak hB10 hB12;have hk12:=(hk7.ext B712).drew;have hp12:=(hp7.ext B712).drew;have ht12:=(ht7.ext B712).drew;have h12:=(h7.ext B712).ext (qb3 w12);have hq12:=(hq.ext hB12).drew;refine lI (x:=p.Rows) (hp12.cells 5 _ rfl) (lI (x:=p.Cols) (hp12.cells 6 _ rfl) (lI (x:=k.Stay) (hk12.cells 21 _ rfl) ?_));have z10:=hB10.size;have z12:=hB12.size;have lk7:=hk7.lt;have lp7:=hp7.lt;have lt7:=ht7.lt;show stK ⟨w10.heap.size,1,none⟩ _ _ _;refine qaj ho12.drew (by show (1+1:Nat)<=4;omega) fun w13 ho13 hg13 hs13=>?_;have hc13:Chg (fun i=>i=w10.heap.size) w12.drew w13:=Chg.of_grown hg13 fun k hk=>by cases hk;rfl
   have ho13:Blk w13 w10.heap.size qai (qad.rep.cells ⟨q,p.Rows,0,false⟩):=ho13;have hk13:=hk12.chg hc13 fun e=>by omega
   have hp13:=hp12.chg hc13 fun e=>by omega
   have ht13:=ht12.chg hc13 fun e=>by omega
   refine ⟨hk13.cells 21 _ rfl,hp13.cells 6 _ rfl,?_⟩;show stK ⟨w10.heap.size,2,none⟩ _ _ _;refine qaj ho13 (by show (2+1:Nat)<=4;omega) fun w14 ho14 hg14 hs14=>?_;have hc14:Chg (fun i=>i=w10.heap.size) w13 w14:=Chg.of_grown hg14 fun k hk=>by cases hk;rfl
   have ho14:Blk w14 w10.heap.size qai (qad.rep.cells ⟨q,p.Rows,p.Cols,false⟩):=ho14;refine ⟨(hk13.chg hc14 fun e=>by omega).cells 21 _ rfl,?_⟩;show stK ⟨w10.heap.size,3,none⟩ _ _ _;refine qaj ho14 (by show (3+1:Nat)<=4;omega) fun w15 ho15 hg15 hs15=>?_;have hc15:Chg (fun i=>i=w10.heap.size) w14 w15:=Chg.of_grown hg15 fun k hk=>by cases hk;rfl
   have ho15:Blk w15 w10.heap.size qai (qad.rep.cells ⟨q,p.Rows,p.Cols,k.Stay !=1⟩):=ho15;have hcc:Chg (fun i=>i=w10.heap.size) w12.drew w15:=(hc13.trans hc14 fun i _ hi=>hi).trans hc15 fun i _ hi=>hi;have ht15:=ht12.chg hcc fun e=>by omega
   have h15:=h12.other ho12.drew tys (nLS (by omega)) (by omega) hcc;have hq15:Rd qae w15 q (toldK k 0 []):=qxf hq12 hcc fun hp a ha e=>by
    have:=rd_lt hq hp a ha;omega
   refine qal (r:=qad.rep) (x:=⟨q,p.Rows,p.Cols,k.Stay !=1⟩) ho15.cells ?_;refine qbk (r:=qad.rep) (x:=⟨q,p.Rows,p.Cols,k.Stay !=1⟩) ht15 rfl rfl fun w16 hc16 hs16=>?_;exact hK _ _ w16 ⟨hq15.chg hc16 fun a ha e=>by have:=hqb a.block (slk.2 ⟨a,ha,rfl⟩);omega,rfl,rfl,rfl⟩ (h15.other ht15 tys (nLS (by omega)) (by omega) hc16) (fun j hj=>⟨by have:=hqb j hj;omega,fun hs=>by have:=(h7.m.below _ hs).2;have:=hqb j hj;omega⟩)
 ·rw [if_neg hx] at hK;exact cF (by simpa using hx) (bad x hx hK)
end
theorem q7c (n:Int):∀(f:Nat) (S:St) (G:List Int),(S.roomF n f G).2.length<=G.length+f
 | 0,S,G=>by show G.length<=_;omega
 | f+1,S,G=>by
  unfold St.roomF;split
  ·have:=q7c n f (S.drop (qen S.L)) (G++[qen S.L]);rw [length_append,List.length_singleton] at this;omega
  ·show G.length<=_;omega
def pre0 (S:St) (id:Int):St:=if id=0 then { S with res:=0 } else ({ S with res:=0 }:St).drop id
theorem zji (S:St) (id:Int):∀p∈(pre0 S id).L,p∈S.L:=by
 intro p hp;unfold pre0 at hp;split at hp
 ·exact hp
 ·exact ((qi7 _ _ _).1 hp).2
theorem zi5 (S:St) (id:Int):(pre0 S id).L.length<=S.L.length:=by
 unfold pre0;split
 ·exact le_refl _
 ·exact length_filter_le _ _
theorem ze9 (S:St) (id:Int) (n:Nat):∀p∈(S.putPre id n).1.L,p∈S.L:=fun p hp=>zji S id p (q08 _ _ _ _ p hp)
theorem zdp (S:St) (id:Int) (n:Nat):(S.putPre id n).2.length<=S.L.length:=by
 have h:=q7c (n:Int) (pre0 S id).L.length (pre0 S id) [];have h2:=zi5 S id;show ((pre0 S id).roomF n (pre0 S id).L.length []).2.length<=_;simp only [List.length_nil] at h;omega
def idK (E:KE) (k:qaa) (bs:List UInt8):Int:=newId (E.S.putPre k.Id bs.length).1.L k.Id
def keptE (E:KE) (k:qaa) (W H:Int) (bs:List UInt8) (P:Slc):KE :=
 { E with S:=(E.S.putPre k.Id bs.length).1.putAt (idK E k bs) k.Number W H P bs,T:=goneT E.T ((E.S.putPre k.Id bs.length).2++[idK E k bs]) }
def qek (E:KE) (k:qaa) (bs:List UInt8):qaa:=if k.Id=0/\k.Number≠0 then { k with Id:=idK E k bs } else k
def keepK (E:KE) (k:qaa) (W H:Int) (bs:List UInt8) (P:Slc) (v:qac):KE×KR :=
 if qls E.S k.Id k.Number W H bs.length≠0 then (E,toldR k (qls E.S k.Id k.Number W H bs.length) [])
 else if k.Action≠84 then (keptE E k W H bs P,toldR (qek E k bs) 0 [])
 else ((qce (keptE E k W H bs P) (qek E k bs) (idK E k bs) v).1,(qce (keptE E k W H bs P) (qek E k bs) (idK E k bs) v).2.1)
theorem zcv {k:qaa} (hw:Wide (toL k)) {id:Int} (h:-9223372036854775808<=id/\id<=9223372036854775807):Wide (toL { k with Id:=id }):=by
 have e:toL { k with Id:=id }=(toL k).set 8 id:=rfl;intro i;rw [e,List.getElem?_set];by_cases hi:8=i
 ·rw [if_pos hi];rw [if_pos (by rw [q6h];omega)];exact h
 ·rw [if_neg hi];exact hw i
section
variable {w w':World} {base g n:Nat} {F F':KF} {E E':KE}
theorem zdh {S:St} (h:StOk n S) (id:Int):StOk n (pre0 S id):=by
 unfold pre0;split
 ·exact qof h 0
 ·exact qsy (qof h 0) id
def tyFar (t:TypeId):Prop:=t≠qb0/\t≠qbx/\t≠qck/\t≠qas/\t≠qau
instance (t:TypeId):Decidable (tyFar t):=by unfold tyFar;infer_instance
theorem EngM.far (h:EngM w base g F E n) {T:Nat->Prop} (hc:Chg T w w') (hT:∀k,T k->(∃t vs,Blk w k t vs/\tyFar t)/\¬F.LS k):EngM w' base g F E n:=by
 have nt:∀{b:Nat} {t:TypeId} {vs:List Value},Blk w b t vs->¬tyFar t->¬T b:=fun {b t vs} hb hn hTb=>by
  obtain ⟨⟨t',vs',hb',ht'⟩,_⟩:=hT _ hTb;by_cases e:t'=t
  ·exact hn (e ▸ ht')
  ·exact hb'.ne_t hb e rfl
 refine ⟨h.blk.chg hc (nt h.blk (by decide)),h.hg,h.st.keep hc (nt h.st.blk (by decide)) (fun e=>?_) (fun p hp k hk e=>?_),h.ok,h.hs,h.tb.chg hc ?_,h.tl,
  fun C s hl=>⟨(h.lo C s hl).1.chg hc fun k hk e=>(hT k e).2 hk,(h.lo C s hl).2⟩,h.nl,h.dg,h.ds,h.dt,h.di⟩
 ·obtain ⟨⟨t',vs',hb',_⟩,_⟩:=hT _ e;exact h.st.map.ne_blk hb' rfl
 ·obtain ⟨cs,hcs⟩:=((h.st.img p hp).blk k hk).2;exact nt hcs (by decide) e
 ·rintro k (hk | hk) e
  ·exact nt h.tb.blk (by decide) (hk ▸ e)
  ·obtain ⟨cs,hcs⟩:=h.tb.own.blk_t hk;exact nt hcs (by decide) e
theorem EngT.far {F1:KF} {E1:KE} {n1:Nat} {w1 w2:World} (h:EngT base g w F F1 E1 n1 w1) {T:Nat->Prop} (hc:Chg T w1 w2) (hT:∀k,T k->(∃t vs,Blk w1 k t vs/\tyFar t)/\¬F1.LS k) (hw:∀k,T k->w.heap.size<=k) :
  EngT base g w F F1 E1 n1 w2:=⟨h.m.far hc hT,h.old,h.chg.trans hc fun k hk e=>by have:=hw k e;omega,h.ls⟩
theorem EngM.not_in4 (h:EngM w base g F E n) {b:Nat} {t:TypeId} {vs:List Value} (hb:Blk w b t vs) (ht:t≠qb0/\t≠qbx/\t≠qck/\t≠qas) (hLS:¬F.LS b):¬engS g F b:=by
 obtain ⟨t1,t2,t3,t4⟩:=ht;rintro (e | (e | e) | (e | e) | e)
 ·exact hb.ne_t h.blk t1 e
 ·exact hb.ne_t h.st.blk t2 e
 ·exact h.st.map.ne_blk hb e.symm
 ·exact hb.ne_t h.tb.blk t3 e
 ·exact qa1 h.tb.own hb (fun e=>t4 e.symm) b e rfl
 ·exact hLS e
theorem EngM.not_in (h:EngM w base g F E n) {b:Nat} {t:TypeId} {vs:List Value} (hb:Blk w b t vs) (ht:tyFar t) (hLS:¬F.LS b):¬engS g F b:=by
 obtain ⟨t1,t2,t3,t4,t5⟩:=ht;rintro (e | (e | e) | (e | e) | e)
 ·exact hb.ne_t h.blk t1 e
 ·exact hb.ne_t h.st.blk t2 e
 ·exact h.st.map.ne_blk hb e.symm
 ·exact hb.ne_t h.tb.blk t3 e
 ·exact qa1 h.tb.own hb (fun e=>t4 e.symm) b e rfl
 ·exact hLS e
theorem zgg (h:EngM w base g F E n) (hn:n<=900) (hT:Tab w) (h4:4<=base) {k:qaa} (hw:Wide (toL k)) {m:qab} {bs:List UInt8} (hP:Rd qae w m.P bs) (hPg:∀a,m.P.a=some a->¬engS g F a.block) (v:qac) {K:qad->World->Prop}
  (hK:∀P r F' w',ResM w' r (keepK E k m.W m.H bs P v).2->EngT base g w F F' (keepK E k m.W m.H bs P v).1 (n+2) w'->(∀j,r.Reply.blk=some j->w.heap.size<=j/\¬engS g F' j)->K r w'):qiw (some ⟨g,0,none⟩) k m v w K:=by
 refine qvs _ _ _ _ ?_;unfold qnr;simp only [onPtr_some];refine nwb fun w1 hk1 hB1 hs1=>nwb fun w2 hm2 hB2 hs2=>nwb fun w3 hv3 hB3 hs3=>nwb fun w4 ht4 hB4 hs4=>?_;have B4:=qak (qch hB1 hB2 hB3) hB4;have hk4:=((hk1.ext hB2).ext hB3).ext hB4;have hm4:=(hm2.ext hB3).ext hB4;have hv4:=hv3.ext hB4;have h4':=(h.ext B4).drew;have B4d:=B4.drew;have z1:=hB1.size;have z2:=hB2.size;have z3:=hB3.size;have z4:=hB4.size;have lk4:=hk4.lt;have lv4:=hv4.lt;have lt4:=ht4.lt;have nE:∀{b:Nat},w.heap.size<=b->¬engS g F b:=fun hb hk=>by have:=(h.below _ hk).2;omega
 have nLS:∀{b:Nat},w.heap.size<=b->¬F.LS b:=fun hb hk=>nE hb (.inr (.inr (.inr hk)));have tys:qai≠qb0/\qai≠qbx/\qai≠qck/\qai≠qas/\qai≠qau:=by decide
 have tyk:qax≠qb0/\qax≠qbx/\qax≠qck/\qax≠qas/\qax≠qau:=by decide
 refine qa8 (x:=some ⟨F.sg,0,none⟩) (h4'.blk.cells 1 _ rfl) ?_;refine lI (x:=k.Id) (hk4.drew.cells 8 _ rfl) (lI (x:=k.Number) (hk4.drew.cells 9 _ rfl) (qal (r:=qab.rep) (x:=m) hm4.drew.cells ?_));refine zi4 h4'.st h.ok (by omega) (le_trans h4'.hg (Nat.le_of_lt h4'.blk.lt)) (hP.ext B4d) (fun _ a ha hs=>hPg a ha (.inr (.inl hs))) (fun w5 he _ hB5=>?_) fun P q w5 he hst hok hq hc5 hPb=>?_
 ·
  have B5:=qak B4d hB5;refine cT (by simpa using he) (qal (r:=qaa.rep) (x:=k) (hk4.drew.ext hB5).cells ?_);refine qfx (hT.ext B5) hw _ [] (by simp) fun q w6 hq hB6 hqb=>?_;have ht6:=(ht4.drew.ext hB5).ext hB6;have h6:EngT base g w F F E (n+2) w6:=(EngT.of_ext h (qak B5 hB6)).up (by omega);refine qbk (r:=qad.rep) (x:=⟨q,0,0,false⟩) ht6 rfl rfl fun w7 hc7 hs7=>?_;have e4:w4.drew.heap.size=w4.heap.size:=rfl;have z5:=hB5.size;refine hK ⟨none,0,0⟩ _ F w7 ?_ ?_ (fun j hj=>⟨by have:=hqb j hj;omega,fun hs=>by have:=(h.below _ hs).2;have:=hqb j hj;omega⟩)
  ·unfold keepK;rw [if_pos he];exact ⟨hq.chg hc7 fun a ha e=>by have:=hqb a.block (slk.2 ⟨a,ha,rfl⟩);omega,rfl,rfl,rfl⟩
  ·unfold keepK;rw [if_pos he];exact h6.other ht6 tys (nLS (by omega)) (by omega) hc7
 ·
  refine cF rfl ?_;have e4:w4.drew.heap.size=w4.heap.size:=rfl;have hle:=zdp E.S k.Id bs.length;have hol:=h.ok.len;have hpk:StOk n (E.S.putPre k.Id bs.length).1:=qtd _ _ (zdh h.ok k.Id);have h5:=(EngT.of_ext h B4d).trans (EngT.store h4' hst hok (by omega) hc5 (fun j hj=>by
   obtain ⟨p,hp,hb⟩:=hj;obtain ⟨a,b⟩:=p;rcases (qeu hpk.srt _ _ a b).1 hp with ⟨rfl,rfl⟩ | ⟨_,hp'⟩
   ·exact .inr (hPb j hb)
   ·exact .inl ⟨(a,b),ze9 _ _ _ _ hp',hb⟩))
  have hid:=hok.keys (newId (E.S.putPre k.Id bs.length).1.L k.Id,⟨⟨k.Number,⟨m.W,m.H,P⟩,(E.S.putPre k.Id bs.length).1.clock+1,(E.S.putPre k.Id bs.length).1.clock+1⟩,bs⟩) ((qeu hpk.srt _ _ _ _).2 (.inl ⟨rfl,rfl⟩));dsimp only at hid;have z5:=hc5.size;have hk5:=hk4.drew.chg hc5 fun e=>nE (le_refl _) (.inr (.inl e));have hv5:=hv4.drew.chg hc5 fun e=>nE (by omega:w.heap.size<=w2.heap.size) (.inr (.inl e));have ht5:=ht4.drew.chg hc5 fun e=>nE (by omega:w.heap.size<=w3.heap.size) (.inr (.inl e));refine qjg (E:=E_int) qhn hq (y:=newId (E.S.putPre k.Id bs.length).1.L k.Id) rfl z5 (by rw [qjv];omega) (by unfold maxLen;omega) fun r w9 ho9 hc9 hr9=>?_;have h9:=h5.far hc9 (fun j hj=>⟨by obtain ⟨cs,hcs⟩:=hq.blk_t hj;exact ⟨_,cs,hcs,by decide⟩,nLS (by have:=(hq.lt j hj).1;omega)⟩) fun j hj=>by have:=(hq.lt j hj).1;omega
  have nq:∀{j:Nat},j<w4.heap.size->¬q.blk=some j:=fun hj e=>by have:=(hq.lt _ e).1;omega
  have hk9:=hk5.chg hc9 (nq lk4);have hv9:=hv5.chg hc9 (nq lv4);have ht9:=ht5.chg hc9 (nq lt4);refine q7m h9.m (by omega) ho9.rd (fun a ha=>qa1 ho9 h9.m.tb.blk (by decide) a.block (slk.2 ⟨a,ha,rfl⟩)) fun q' w10 h10=>?_;have hk10:=hk9.chg h10.chg (nE (le_refl _));have hv10:=hv9.chg h10.chg (nE (by omega:w.heap.size<=w2.heap.size));have ht10:=ht9.chg h10.chg (nE (by omega:w.heap.size<=w3.heap.size));have hE10:EngT base g w F { F with q:=q' } (keptE E k m.W m.H bs P) (n+1) w10:=h9.trans h10;have ek:keepK E k m.W m.H bs P v=if k.Action≠84 then (keptE E k m.W m.H bs P,toldR (qek E k bs) 0 []) else ((qce (keptE E k m.W m.H bs P) (qek E k bs) (idK E k bs) v).1,(qce (keptE E k m.W m.H bs P) (qek E k bs) (idK E k bs) v).2.1):=by
   unfold keepK;rw [if_neg (fun hh=>hh he)]
  refine jpO fun J1 hJ1=>?_;have j1:∀wx,Blk wx w.heap.size qax (qaa.rep.cells (qek E k bs))->Blk wx w2.heap.size qbe (qac.rep.cells v)->Blk wx w3.heap.size qai [(.slice none 0 0),(.int .i64 0),(.int .i64 0),(.bool false)]->EngT base g w F { F with q:=q' } (keptE E k m.W m.H bs P) (n+1) wx->J1 (()) wx:=by
   intro w11 hk11 hv11 ht11 h11;refine hJ1 _ _ ?_;have hT11:=hT.stepK h h4 h11;have hwn:Wide (toL (qek E k bs)):=by
    unfold qek;split
    ·exact zcv hw (by unfold idK;omega)
    ·exact hw
   have ea:(qek E k bs).Action=k.Action:=by
    unfold qek;split<;>rfl
   have lt11:=ht11.lt;refine lI (x:=(qek E k bs).Action) (hk11.cells 0 _ rfl) ?_;rw [ea];by_cases hac:k.Action=84
   ·rw [if_neg (fun hh=>hh hac)] at ek;refine cF (by simpa using hac) (qal (r:=qaa.rep) (x:=qek E k bs) hk11.cells (qal (r:=qac.rep) (x:=v) hv11.cells ?_));refine q4y h11.m (by omega) hT11 h4 hwn (idK E k bs) v fun r F14 w14 hr14 h14 hrb=>?_;have hE14:=h11.trans h14;have n3:¬engS g { F with q:=q' } w3.heap.size:=h11.m.not_in ht11 tys (nLS (by omega));have ht14:=ht11.chg h14.chg n3;refine qdd (vs:=qad.rep.cells r) rfl fun w16 ho16 hB16 hs16=>?_;refine qal (r:=qad.rep) (x:=r) ho16.cells ?_;have ht16:=ht14.ext hB16;refine qbk (r:=qad.rep) (x:=r) ht16 rfl rfl fun w17 hc17 hs17=>?_;have nF14:¬F14.LS w3.heap.size:=fun hk=>by
     rcases h14.ls _ hk with hk | hk
     ·exact nLS (by omega:w.heap.size<=w3.heap.size) hk
     ·omega
    refine hK P r F14 w17 ?_ ?_ (fun j hj=>⟨by have:=(hrb j hj).1;have:=h11.chg.size;omega,(hrb j hj).2⟩)
    ·rw [ek];have hr16:=hr14.ext hB16;exact ⟨hr16.1.chg hc17 fun a ha e=>by have:=(hrb a.block (slk.2 ⟨a,ha,rfl⟩)).1;omega,hr16.2⟩
    ·rw [ek];exact (hE14.ext hB16).other ht16 tys nF14 (by omega) hc17
   ·rw [if_pos hac] at ek;refine cT (by simpa using hac) (qal (r:=qaa.rep) (x:=qek E k bs) hk11.cells ?_);refine qfx hT11 hwn 0 [] (by simp) fun q2 w12 hq2 hB12 hqb2=>?_;have ht12:=ht11.ext hB12;refine qbk (r:=qad.rep) (x:=⟨q2,0,0,false⟩) ht12 rfl rfl fun w13 hc13 hs13=>?_;refine hK P _ _ w13 ?_ (?_:EngT base g w F { F with q:=q' } _ (n+2) w13) (fun j hj=>⟨by have:=hqb2 j hj;have:=h11.chg.size;omega,fun hs=>by have:=(h11.m.below _ hs).2;have:=hqb2 j hj;omega⟩)
    ·rw [ek];exact ⟨hq2.chg hc13 fun a ha e=>by have:=hqb2 a.block (slk.2 ⟨a,ha,rfl⟩);omega,rfl,rfl,rfl⟩
    ·rw [ek];exact ((h11.ext hB12).up (by omega)).other ht12 tys (nLS (by omega)) (by omega) hc13
  refine jpO fun J2 hJ2=>?_;have j2:∀b:Bool,(b=true↔k.Id=0/\k.Number≠0)->J2 (b,()) w10:=by
   intro b hb;refine hJ2 _ _ ?_;cases b
   ·refine cF rfl (j1 w10 ?_ hv10 ht10 hE10);have:qek E k bs=k:=by unfold qek;rw [if_neg (fun hh=>by have:=hb.2 hh;cases this)]
    rw [this];exact hk10
   ·refine cT rfl ?_;show stK ⟨w.heap.size,8,none⟩ _ _ _;refine qaj hk10 (by show (8+1:Nat)<=22;omega) fun w11 hk11 hg11 hs11=>?_;have hc11:Chg (fun i=>i=w.heap.size) w10 w11:=Chg.of_grown hg11 fun k hk=>by cases hk;rfl
    refine j1 w11 ?_ (hv10.chg hc11 fun e=>by omega) (ht10.chg hc11 fun e=>by omega) (hE10.other hk10 tyk (nLS (le_refl _)) (le_refl _) hc11);have:qek E k bs={ k with Id:=idK E k bs }:=by unfold qek;rw [if_pos (hb.1 rfl)]
    rw [this];exact hk11
  refine lI (x:=k.Id) (hk10.cells 8 _ rfl) (cO (fun e=>?_) fun e=>?_)
  ·have e:=eq_of_beq e;refine lI (x:=k.Number) (hk10.cells 9 _ rfl) (j2 _ ⟨fun hh=>⟨e,by simpa using hh⟩,fun hh=>by simpa using hh.2⟩)
  ·exact j2 _ ⟨fun hh=>(by cases hh),fun hh=>absurd hh.1 (beq_eq_false_iff_ne.1 e)⟩
end
def badP:List UInt8:=[69,66,65,68,80,78,71]
def wordK (k:qaa) (x:Int):List UInt8:=if k.Format=100/\(x=2\/x=3\/x=4\/x=8\/x=1) then badP else []
noncomputable def endK (E:KE) (C:LdK) (s:LdS) (k:qaa) (P:Slc) (v:qac):KE×KR :=
 if ((resL C s).1:Int)≠0\/k.Action=113 then (E.idle,toldR k ((resL C s).1:Int) (wordK k ((resL C s).1:Int)))
 else keepK E.idle k ((resL C s).2.1:Int) ((resL C s).2.2.1:Int) (resL C s).2.2.2 P v
section
variable {w w':World} {base g n:Nat} {F F':KF} {E E':KE}
theorem EngT.load (h:EngM w base g F E n) {C:LdK} {s s':LdS} (hl:E.ld=some (C,s)) {S':Nat->Prop} (ha:LdA w' base F.lg F.gd C s' S') (hS:∀k,S' k->F.LS k\/w.heap.size<=k) (hc:Chg F.LS w w') :
  EngT base g w F { F with LS:=S' } { E with ld:=some (C,s') } n w':=by
 have old:∀k,k<w.heap.size->¬F.LS k->¬S' k:=fun k hk hn hs=>by
  rcases hS k hs with h1 | h1
  ·exact hn h1
  ·omega
 have hb:Blk w' g qb0 (engC { F with LS:=S' } { E with ld:=some (C,s') }):=by
  have h1:=h.blk.chg hc h.dg;have e:engC { F with LS:=S' } { E with ld:=some (C,s') }=engC F E:=by
   unfold engC;rw [hl];rfl
  rw [e];exact h1
 refine ⟨⟨hb,h.hg,h.st.keep hc h.ds.1 h.ds.2 (fun p hp k hk e=>h.di k ⟨p,hp,hk⟩ e),h.ok,h.hs,h.tb.chg hc h.dt,h.tl,fun C1 s1 h1=>?_,(fun h1=>by cases h1),old _ h.blk.lt h.dg,⟨old _ h.st.blk.lt h.ds.1,old _ h.st.map.lt h.ds.2⟩,fun k hk=>old _ (h.tb.lt k hk).2 (h.dt k hk),fun k hk=>?_⟩,?_,hc.mono fun k _ hk=>.inr (.inr (.inr hk)),hS⟩
 ·cases h1;exact ⟨ha,(h.lo C s hl).2⟩
 ·obtain ⟨p,hp,hb⟩:=hk;exact old _ ((h.st.img p hp).lt k hb).2 (h.di k ⟨p,hp,hb⟩)
 ·rintro k (hk | hk | hk | hk)
  ·exact .inl (.inl hk)
  ·exact .inl (.inr (.inl hk))
  ·exact .inl (.inr (.inr (.inl hk)))
  ·rcases hS k hk with h1 | h1
   ·exact .inl (.inr (.inr (.inr h1)))
   ·exact .inr h1
theorem zdq (k:qaa) (x:Int):(wordK k x).length<=100000:=by
 unfold wordK;split
 ·show (7:Nat)<=_;omega
 ·show (0:Nat)<=_;omega
theorem zkf (h:EngM w base g F E n) (hn:n<=900) (hT:Tab w) (h4:4<=base) {C:LdK} {s:LdS} (hl:E.ld=some (C,s)) (hsm:s.b.length<=32000) {k:qaa} (hw:Wide (toL k)) (v:qac) {K:qad->World->Prop}
  (hK:∀P r F' w',ResM w' r (endK E C s k P v).2->EngT base g w F F' (endK E C s k P v).1 (n+2) w'->(∀j,r.Reply.blk=some j->w.heap.size<=j/\¬engS g F' j)->K r w'):qja (some ⟨g,0,none⟩) k v w K:=by
 refine qwy _ _ _ ?_;unfold qop;simp only [onPtr_some];refine nwb fun w1 hk1 hB1 hs1=>nwb fun w2 hv2 hB2 hs2=>nwb fun w3 ht3 hB3 hs3=>?_;have B3:=qch hB1 hB2 hB3;have hk3:=(hk1.ext hB2).ext hB3;have hv3:=hv2.ext hB3;have h3:=h.ext B3;have z1:=hB1.size;have z2:=hB2.size;have z3:=hB3.size;have lk3:=hk3.lt;have lv3:=hv3.lt;have lt3:=ht3.lt;have nE:∀{b:Nat},w.heap.size<=b->¬engS g F b:=fun hb hk=>by have:=(h.below _ hk).2;omega
 have nLS:∀{b:Nat},w.heap.size<=b->¬F.LS b:=fun hb hk=>nE hb (.inr (.inr (.inr hk)));have tys:tyFar qai:=by decide
 have tyk:tyFar qax:=by decide
 refine qa8 (x:=some ⟨F.lg,0,none⟩) (by have:=h3.blk.cells 3 _ rfl;rw [hl] at this;exact this) ?_;obtain ⟨hld,hcf⟩:=h3.lo C s hl;refine zhz hld (le_trans h3.hg (Nat.le_of_lt h3.blk.lt)) hcf hsm fun m S' w4 hld4 hm4 hmS hS' hc4=>?_;have h4e:=(EngT.of_ext h B3).trans (EngT.load h3 hl hld4 hS' hc4);have hk4:=hk3.chg hc4 (nLS (le_refl _));have hv4:=hv3.chg hc4 (nLS (by omega));have ht4:=ht3.chg hc4 (nLS (by omega));have z4:=hc4.size;refine qdd (vs:=qab.rep.cells m) rfl fun w6 hm6 hB6 hs6=>?_;have hk6:=hk4.ext hB6;have hv6:=hv4.ext hB6;have ht6:=ht4.ext hB6;have h6:=h4e.ext hB6;have hmo6:=hm4.2.2.ext hB6;have z6:=hB6.size;obtain ⟨hmW,hmH,hmo⟩:=hm4;obtain ⟨x,hx⟩:∃x:Int,x=((resL C s).1:Int):=⟨_,rfl⟩;rw [<-hx];refine jpO fun J1 hJ1=>?_;have j1:J1 (strB (wordK k x),()) w6:=by
  refine hJ1 _ _ (jpO fun J2 hJ2=>?_);refine q1j h6.m fun F7 w7 h7 hq7 htg7=>?_;have nS6:∀{b:Nat} {t:TypeId} {vs:List Value},w.heap.size<=b->b<w3.heap.size->Blk w6 b t vs->tyFar t->¬engS g { F with LS:=S' } b:=fun h1 h2 hb ht=>h6.m.not_in hb ht fun hs=>by
   rcases hS' _ hs with h5 | h5
   ·exact nLS h1 h5
   ·omega
  have hE7:=h6.trans h7;have hk7:=hk6.chg h7.chg (nS6 (le_refl _) (by omega) hk6 (by decide));have hv7:=hv6.chg h7.chg (nS6 (by omega) (by omega) hv6 (by decide));have ht7:=ht6.chg h7.chg (nS6 (by omega) (by omega) ht6 (by decide));have hm7:Blk w7 w4.heap.size qaq (qab.rep.cells m):=hm6.chg h7.chg (h6.m.not_in hm6 (by decide) fun hs=>by
   have:=(hld4.lt _ hs).2;omega)
  have hT7:=hT.stepK h h4 hE7;have nLS7:∀{b:Nat},w.heap.size<=b->b<w3.heap.size->¬F7.LS b:=fun h1 h2 hs=>by
   have:∀j,¬F7.LS j:=h7.m.nl rfl;exact this _ hs
  have lt7:=ht7.lt;refine jpO fun J3 hJ3=>?_;have j3:J3 (decide (x≠0\/k.Action=113),()) w7:=by
   refine hJ3 _ _ ?_;by_cases hb:x≠0\/k.Action=113
   ·rw [dTq hb];refine cT rfl (qal (r:=qaa.rep) (x:=k) hk7.cells ?_);refine qfx hT7 hw x (wordK k x) (zdq k x) fun q w8 hq hB8 hqb=>?_;have ht8:=ht7.ext hB8;refine qbk (r:=qad.rep) (x:=⟨q,0,0,false⟩) ht8 rfl rfl fun w9 hc9 hs9=>?_;have ek:endK E C s k ⟨none,0,0⟩ v=(E.idle,toldR k x (wordK k x)):=by
     unfold endK;rw [<-hx,if_pos hb]
    have z7:=h7.chg.size;refine hK ⟨none,0,0⟩ _ F7 w9 ?_ ?_ (fun j hj=>⟨by have:=hqb j hj;omega,fun hs=>by have:=(h7.m.below _ hs).2;have:=hqb j hj;omega⟩)
    ·rw [ek];exact ⟨hq.chg hc9 fun a ha e=>by have:=hqb a.block (slk.2 ⟨a,ha,rfl⟩);omega,rfl,rfl,rfl⟩
    ·rw [ek];exact ((hE7.ext hB8).up (by omega)).other ht8 tys (nLS7 (by omega) (by omega)) (by omega) hc9
   ·rw [dFq hb];refine cF rfl (hJ2 _ _ ?_);refine qal (r:=qaa.rep) (x:=k) hk7.cells (qal (r:=qab.rep) (x:=m) hm7.cells (qal (r:=qac.rep) (x:=v) hv7.cells ?_));have hmo7:=hmo6.chg h7.chg fun j hj hs=>by
     obtain ⟨cs,hcs⟩:=hmo6.blk_t hj;exact h6.m.not_in4 hcs (by decide) (hmS j hj) hs
    refine zgg h7.m hn hT7 h4 hw hmo7.rd (fun a ha hs=>?_) v fun P r F9 w9 hr hE9 hrb=>?_
    ·have hj:m.P.blk=some a.block:=slk.2 ⟨a,ha,rfl⟩;obtain ⟨cs,hcs⟩:=hmo7.blk_t hj;exact h7.m.not_in4 hcs (by decide) (h7.m.nl rfl _) hs
    ·have n3:¬engS g F7 w2.heap.size:=h7.m.not_in ht7 tys (nLS7 (by omega) (by omega));have ht9:=ht7.chg hE9.chg n3;have ek:∀P,endK E C s k P v=keepK E.idle k m.W m.H (resL C s).2.2.2 P v:=by
      intro P;unfold endK;rw [<-hx,if_neg hb,hmW,hmH]
     refine qbk (r:=qad.rep) (x:=r) ht9 rfl rfl fun w10 hc10 hs10=>?_;have z7:=h7.chg.size;have nF9:¬F9.LS w2.heap.size:=fun hs=>by
      rcases hE9.ls _ hs with h1 | h1
      ·exact nLS7 (by omega) (by omega) h1
      ·omega
     refine hK P r F9 w10 ?_ ?_ (fun j hj=>⟨by have:=(hrb j hj).1;omega,(hrb j hj).2⟩)
     ·rw [ek];exact ⟨hr.1.chg hc10 fun a ha e=>by have:=(hrb a.block (slk.2 ⟨a,ha,rfl⟩)).1;omega,hr.2⟩
     ·rw [ek];exact (hE7.trans hE9).other ht9 tys nF9 (by omega) hc10
  by_cases hx0:x=0
  ·refine cF (by simpa using hx0) (lI (x:=k.Action) (hk7.cells 0 _ rfl) ?_);have e:(k.Action==113)=decide (x≠0\/k.Action=113):=by
    by_cases ha:k.Action=113
    ·rw [dTq (.inr ha)];exact beq_iff_eq.2 ha
    ·rw [dFq (fun hh=>hh.elim (fun h=>h hx0) ha)];exact beq_eq_false_iff_ne.2 ha
   rw [e];exact j3
  ·rw [dTq (.inl hx0)] at j3;exact cT (by simpa using hx0) j3
 have e1:(⟨#[69,66,65,68,80,78,71]⟩:ByteArray)=strB badP:=rfl;have e2:(⟨#[]⟩:ByteArray)=strB []:=rfl;rw [e1,e2];unfold wordK at j1;refine lI (x:=k.Format) (hk6.cells 5 _ rfl) (cO (fun f=>?_) fun f=>?_)
 ·have f:=eq_of_beq f;have yes:(x=2\/x=3\/x=4\/x=8\/x=1)->J1 (strB badP,()) w6:=fun h=>by rw [if_pos ⟨f,h⟩] at j1;exact j1
  refine cO (fun a=>cT a (yes (.inl (eq_of_beq a)))) fun a=>?_;refine cO (fun b=>cT b (yes (.inr (.inl (eq_of_beq b))))) fun b=>?_;refine cO (fun c=>cT c (yes (.inr (.inr (.inl (eq_of_beq c)))))) fun c=>?_;refine cO (fun d=>cT d (yes (.inr (.inr (.inr (.inl (eq_of_beq d))))))) fun d=>?_;refine cO (fun e=>yes (.inr (.inr (.inr (.inr (eq_of_beq e)))))) fun e=>?_;rw [if_neg (fun hh=>by rcases hh.2 with h | h | h | h | h<;>simp [h] at a b c d e)] at j1;exact j1
 ·rw [if_neg (fun hh=>(beq_eq_false_iff_ne.1 f) hh.1)] at j1;exact j1
end
def qfh (f k:qaa):qaa:=if k.Quiet≠0 then { f with Quiet:=k.Quiet } else f
def addE (E:KE) (C:LdK) (s:LdS) (ts:List UInt8):KE:={ E with ld:=some (C,addL C s ts) }
noncomputable def moreK (E:KE) (C:LdK) (s:LdS) (k:qaa) (ts:List UInt8) (P:Slc) (v:qac):KE×KR :=
 if (addL C s ts).err≠0 then ((addE E C s ts).idle,toldR (qfh E.first k) (((addL C s ts).err:Nat):Int) [])
 else if ((addE E C s ts).reserve 0).2≠0 then (((addE E C s ts).reserve 0).1.idle,toldR (qfh E.first k) ((addE E C s ts).reserve 0).2 [])
 else if k.More=1 then (((addE E C s ts).reserve 0).1,kr0)
 else endK ((addE E C s ts).reserve 0).1 C (addL C s ts) (qfh E.first k) P v
theorem zfg (E:KE) (m:Int):(E.reserve m).1.ld=E.ld:=by
 unfold KE.reserve;split
 ·rfl
 ·split<;>rfl
theorem zd9 {f k:qaa} (hf:Wide (toL f)) (hk:Wide (toL k)):Wide (toL (qfh f k)):=by
 unfold qfh;split
 ·have e:toL { f with Quiet:=k.Quiet }=(toL f).set 4 k.Quiet:=rfl;intro i;rw [e,List.getElem?_set];by_cases hi:4=i
  ·rw [if_pos hi,if_pos (by rw [q6h];omega)];exact hk 4
  ·rw [if_neg hi];exact hf i
 ·exact hf
section
variable {w w':World} {base g n:Nat} {F F':KF} {E E':KE}
theorem q69 (h:EngM w base g F E n) (hn:n<=900) (hT:Tab w) (h4:4<=base) {C:LdK} {s:LdS} (hl:E.ld=some (C,s)) (hov:s.over=false) {text:Slc} {ts:List UInt8} (hpot:potL s+3*ts.length<=120000) (ht:Rd qae w text ts) (htS:∀k,text.blk=some k->ts≠[]->¬F.LS k)
  {k:qaa} (hwf:Wide (toL E.first)) (hwk:Wide (toL k)) (v:qac) {K:qad->World->Prop}
  (hK:∀P r F' w',ResM w' r (moreK E C s k ts P v).2->EngT base g w F F' (moreK E C s k ts P v).1 (n+2) w'->(∀j,r.Reply.blk=some j->w.heap.size<=j/\¬engS g F' j)->K r w'):qgb (some ⟨g,0,none⟩) k text v w K:=by
 refine qvx _ _ _ _ ?_;unfold qnn;simp only [onPtr_some];refine nwb fun w1 hk1 hB1 hs1=>nwb fun w2 hv2 hB2 hs2=>nwb fun w3 ht3 hB3 hs3=>?_;have B3:=qch hB1 hB2 hB3;have h3:=h.ext B3;refine qal (r:=qaa.rep) (x:=E.first) (h3.blk.sub 4 _ rfl) ?_;refine qdd (vs:=qaa.rep.cells E.first) rfl fun w5 hf5 hB5 hs5=>?_;have B5:=qak B3 hB5;have hk5:=((hk1.ext hB2).ext hB3).ext hB5;have hv5:=(hv2.ext hB3).ext hB5;have ht5:=ht3.ext hB5;have z1:=hB1.size;have z2:=hB2.size;have z3:=hB3.size;have z5:=hB5.size;have lf5:=hf5.lt;have nE:∀{b:Nat},w.heap.size<=b->¬engS g F b:=fun hb hk=>by have:=(h.below _ hk).2;omega
 have nLS:∀{b:Nat},w.heap.size<=b->¬F.LS b:=fun hb hk=>nE hb (.inr (.inr (.inr hk)));have tys:tyFar qai:=by decide
 have hwq:=zd9 hwf hwk;refine jpO fun J1 hJ1=>?_;have j1:∀wx,Below w.heap.size w wx->w5.heap.size<=wx.heap.size->Blk wx w3.heap.size qax (qaa.rep.cells (qfh E.first k))->Blk wx w.heap.size qax (qaa.rep.cells k)->Blk wx w1.heap.size qbe (qac.rep.cells v)->Blk wx w2.heap.size qai [(.slice none 0 0),(.int .i64 0),(.int .i64 0),(.bool false)]->J1 (()) wx:=by
  intro w6 B6 z56 hf6 hk6 hv6 ht6;refine hJ1 _ _ ?_;have h6:=h.ext B6;refine qa8 (x:=some ⟨F.lg,0,none⟩) (by have:=h6.blk.cells 3 _ rfl;rw [hl] at this;exact this) ?_;obtain ⟨hld,hcf⟩:=h6.lo C s hl;refine zii hld (le_trans h6.hg (Nat.le_of_lt h6.blk.lt)) hov (ht.ext B6) htS hpot fun S' w7 hld7 hov7 hpot7 hS' hc7=>?_;have h7:=(EngT.of_ext h B6).trans (EngT.load h6 hl hld7 hS' hc7);have lf6:=hf6.lt;have z7:=hc7.size;have hf7:=hf6.chg hc7 (nLS (by omega));have hk7:=hk6.chg hc7 (nLS (le_refl _));have hv7:=hv6.chg hc7 (nLS (by omega));have ht7:=ht6.chg hc7 (nLS (by omega));have hT7:=hT.stepK h h4 h7;refine jpO fun J2 hJ2=>?_;have bad:∀(x:Int) (E2:KE) (F8:KF) (w8:World),x≠0->EngT base g w F F8 E2 n w8->w7.heap.size<=w8.heap.size->(∀j,F8.LS j->S' j)->Blk w8 w3.heap.size qax (qaa.rep.cells (qfh E.first k))->Blk w8 w2.heap.size qai [(.slice none 0 0),(.int .i64 0),(.int .i64 0),(.bool false)] ->
    (∀P,moreK E C s k ts P v=(E2.idle,toldR (qfh E.first k) x []))->J2 (x,()) w8:=by
   intro x E2 F8 w8 hx h8 z78 hLS8 hf8 ht8 em;refine hJ2 _ _ (cT (by simpa using hx) ?_);have nS:∀{b:Nat},w.heap.size<=b->b<w5.heap.size->¬F8.LS b:=fun h1 h2 hs=>by
    rcases hS' _ (hLS8 _ hs) with h5 | h5
    ·exact nLS h1 h5
    ·omega
   refine q1j h8.m fun F9 w9 h9 hq9 htg9=>?_;have hE9:=h8.trans h9;have hf9:=hf8.chg h9.chg (h8.m.not_in hf8 (by decide) (nS (by omega) (by omega)));have ht9:=ht8.chg h9.chg (h8.m.not_in ht8 (by decide) (nS (by omega) (by omega)));have z9:=h9.chg.size;refine qal (r:=qaa.rep) (x:=qfh E.first k) hf9.cells ?_;refine qfx (hT.stepK h h4 hE9) hwq x [] (by simp) fun q w10 hq hB10 hqb=>?_;have ht10:=ht9.ext hB10;refine qbk (r:=qad.rep) (x:=⟨q,0,0,false⟩) ht10 rfl rfl fun w11 hc11 hs11=>?_;refine hK ⟨none,0,0⟩ _ F9 w11 ?_ ?_ (fun j hj=>⟨by have:=hqb j hj;omega,fun hs=>by have:=(hE9.m.below _ hs).2;have:=hqb j hj;omega⟩)
   ·rw [em];exact ⟨hq.chg hc11 fun a ha e=>by have:=hqb a.block (slk.2 ⟨a,ha,rfl⟩);omega,rfl,rfl,rfl⟩
   ·rw [em];exact ((hE9.ext hB10).up (by omega)).other ht10 tys (fun hs=>h9.m.nl rfl _ hs) (by omega) hc11
  by_cases he:(addL C s ts).err=0
  ·refine cT (by rw [he];rfl) ?_;have hz7:EngM w7 base g { F with LS:=S' } (addE E C s ts) n:=h7.m;refine q6j hz7 (by omega) 0 fun F8 w8 h8 hlg8 hgd8 hLS8=>?_;have hE8:=h7.trans h8;have z8:=h8.chg.size;have nS:∀{b:Nat},w.heap.size<=b->b<w5.heap.size->¬S' b:=fun h1 h2 hs=>by
    rcases hS' _ hs with h5 | h5
    ·exact nLS h1 h5
    ·omega
   have hf8:=hf7.chg h8.chg (hz7.not_in hf7 (by decide) (nS (by omega) (by omega)));have hk8:=hk7.chg h8.chg (hz7.not_in hk7 (by decide) (nS (le_refl _) (by omega)));have hv8:=hv7.chg h8.chg (hz7.not_in hv7 (by decide) (nS (by omega) (by omega)));have ht8:=ht7.chg h8.chg (hz7.not_in ht7 (by decide) (nS (by omega) (by omega)));by_cases hx:((addE E C s ts).reserve 0).2=0
   ·rw [hx];refine hJ2 _ _ (cF rfl (lI (x:=k.More) (hk8.cells 11 _ rfl) ?_));have nF8:∀{b:Nat},w.heap.size<=b->b<w5.heap.size->¬F8.LS b:=fun h1 h2 hs=>nS h1 h2 (by rw [hLS8] at hs;exact hs);by_cases hm:k.More=1
    ·refine cT (by simpa using hm) ?_;refine qbk (r:=qad.rep) (x:=⟨⟨none,0,0⟩,0,0,false⟩) ht8 rfl rfl fun w9 hc9 hs9=>?_;have em:∀P,moreK E C s k ts P v=(((addE E C s ts).reserve 0).1,kr0):=fun P=>by
      unfold moreK;rw [if_neg (fun hh=>hh he),if_neg (fun hh=>hh hx),if_pos hm]
     refine hK ⟨none,0,0⟩ _ F8 w9 ?_ ?_ (fun j hj=>by cases hj)
     ·rw [em];exact ResM.nil _
     ·rw [em];exact (hE8.up (by omega)).other ht8 tys (nF8 (by omega) (by omega)) (by omega) hc9
    ·refine cF (by simpa using hm) (qal (r:=qaa.rep) (x:=qfh E.first k) hf8.cells (qal (r:=qac.rep) (x:=v) hv8.cells ?_));have hl8:((addE E C s ts).reserve 0).1.ld=some (C,addL C s ts):=zfg _ _;have hbl:(addL C s ts).b.length<=32000:=by
      unfold potL at hpot7 hpot;omega
     refine zkf h8.m hn (hT.stepK h h4 hE8) h4 hl8 hbl hwq v fun P r F9 w9 hr h9 hrb=>?_;have ht9:=ht8.chg h9.chg (h8.m.not_in ht8 (by decide) (nF8 (by omega) (by omega)));have lt8:=ht8.lt;refine qbk (r:=qad.rep) (x:=r) ht9 rfl rfl fun w10 hc10 hs10=>?_;have em:moreK E C s k ts P v=endK ((addE E C s ts).reserve 0).1 C (addL C s ts) (qfh E.first k) P v:=by
      unfold moreK;rw [if_neg (fun hh=>hh he),if_neg (fun hh=>hh hx),if_neg hm]
     refine hK P r F9 w10 ?_ ?_ (fun j hj=>⟨by have:=(hrb j hj).1;omega,(hrb j hj).2⟩)
     ·rw [em];exact ⟨hr.1.chg hc10 fun a ha e=>by have:=(hrb a.block (slk.2 ⟨a,ha,rfl⟩)).1;omega,hr.2⟩
     ·rw [em];refine (hE8.trans h9).other ht9 tys (fun hs=>?_) (by omega) hc10;rcases h9.ls _ hs with h1 | h1
      ·exact nF8 (by omega) (by omega) h1
      ·omega
   ·refine bad _ _ F8 w8 hx hE8 z8 (fun j hj=>by rw [hLS8] at hj;exact hj) hf8 ht8 fun P=>?_;unfold moreK;rw [if_neg (fun hh=>hh he),if_pos hx]
  ·have hne:(((addL C s ts).err:Nat):Int)≠0:=by omega
   refine cF (by simpa using he) ?_;refine bad _ (addE E C s ts) { F with LS:=S' } w7 hne h7 (le_refl _) (fun j hj=>hj) hf7 ht7 fun P=>?_;unfold moreK;rw [if_pos he]
 refine lI (x:=k.Quiet) (hk5.cells 4 _ rfl) ?_;by_cases hq:k.Quiet=0
 ·refine cF (by simpa using hq) (j1 w5 B5 (le_refl _) ?_ hk5 hv5 ht5);have:qfh E.first k=E.first:=by unfold qfh;rw [if_neg (fun hh=>hh hq)]
  rw [this];exact hf5
 ·refine cT (by simpa using hq) (lI (x:=k.Quiet) (hk5.cells 4 _ rfl) ?_);show stK ⟨w3.heap.size,4,none⟩ _ _ _;refine qaj hf5 (by show (4+1:Nat)<=22;omega) fun w6 hf6 hg6 hs6=>?_;have hc6:Chg (fun i=>i=w3.heap.size) w5 w6:=Chg.of_grown hg6 fun k hk=>by cases hk;rfl
  have:qfh E.first k={ E.first with Quiet:=k.Quiet }:=by unfold qfh;rw [if_pos hq]
  refine j1 w6 (B5.trans (hc6.below B5.size fun i hi e=>by omega)) (by omega) ?_ (hk5.chg hc6 fun e=>by omega) (hv5.chg hc6 fun e=>by omega) (ht5.chg hc6 fun e=>by omega);rw [this];exact hf6
end
def cfgK (E:KE) (k:qaa):LdK:=⟨k,E.quota.toNat,(qeq k).2⟩
def begE (E:KE) (k:qaa):KE:={ E with ld:=some (cfgK E k,ld0),first:=k }
noncomputable def qlu (E:KE) (k:qaa) (ts:List UInt8) (P:Slc) (v:qac):KE×KR :=
 if newP k E.quota≠0 then (E,toldR k ((newP k E.quota:Nat):Int) []) else moreK (begE E k) (cfgK E k) ld0 k ts P v
theorem zec (F:KF) (E:KE) (k:qaa):putL (engC F E) 4 (qaa.rep.cells k)=engC F { E with first:=k }:=by kernel_rfl
theorem zk0 (F:KF) (E:KE) (lg gd:Nat) (LS:Nat->Prop) (x:LdK×LdS):putL (engC F E) 3 [.pointer (some ⟨lg,0,none⟩)]=engC { F with lg:=lg,gd:=gd,LS:=LS } { E with ld:=some x }:=rfl
theorem q97 (F:KF) (E:KE):(engC F E).length=26:=rfl
section
variable {w w':World} {base g n:Nat} {F F':KF} {E E':KE}
theorem LdA.weak {B lg gd:Nat} {C:LdK} {s:LdS} {S:Nat->Prop} (h:LdA w B lg gd C s S) (hb:base<=B):LdA w base lg gd C s S:=by
 obtain ⟨⟨p,h1,h2⟩,h3,h4,h5,h6,h7⟩:=h;refine ⟨⟨p,h1,?_⟩,h3,h4,h5,h6,fun k hk=>⟨le_trans hb (h7 k hk).1,(h7 k hk).2⟩⟩;rcases h2 with h2 | ⟨x,a,b,c,d,e⟩
 ·exact .inl h2
 ·exact .inr ⟨x,a.base hb,b.base hb,c,d,e⟩
theorem zez (h:EngM w base g F E n) (hn:n<=900) (hT:Tab w) (h4:4<=base) (hl:E.ld=none) (hq:E.quota<=100000) {text:Slc} {ts:List UInt8} (hts:ts.length<=40000) (ht:Rd qae w text ts) (htg:∀j,text.blk=some j->ts≠[]->¬engS g F j)
  {k:qaa} (hwk:Wide (toL k)) (v:qac) {K:qad->World->Prop}
  (hK:∀P r F' w',ResM w' r (qlu E k ts P v).2->EngT base g w F F' (qlu E k ts P v).1 (n+2) w'->(∀j,r.Reply.blk=some j->w.heap.size<=j/\¬engS g F' j)->K r w'):qhv (some ⟨g,0,none⟩) k text v w K:=by
 refine qug _ _ _ _ ?_;unfold qm0;simp only [onPtr_some];refine nwb fun w1 hk1 hB1 hs1=>nwb fun w2 hv2 hB2 hs2=>nwb fun w3 ht3 hB3 hs3=>?_;have B3:=(qch hB1 hB2 hB3).drew;have hk3:=((hk1.ext hB2).ext hB3).drew;have hv3:=(hv2.ext hB3).drew;have ht3:=ht3.drew;have h3:=h.ext B3;have z1:=hB1.size;have z2:=hB2.size;have z3:=hB3.size;have lt3:=ht3.lt;have e3:w3.drew.heap.size=w3.heap.size:=rfl;have gl:=h.blk.lt;have nE:∀{b:Nat},w.heap.size<=b->¬engS g F b:=fun hb hk=>by have:=(h.below _ hk).2;omega
 have nLS:∀{b:Nat},w.heap.size<=b->¬F.LS b:=fun hb hk=>nE hb (.inr (.inr (.inr hk)));have tys:tyFar qai:=by decide
 refine qal (r:=qaa.rep) (x:=k) hk3.cells (lI (x:=E.quota) (h3.blk.cells 0 _ rfl) ?_);refine zir (fun he w4 hB4=>?_) fun he lg gd w4 hld hB4=>?_
 ·refine cT (by simp;omega) (qal (r:=qaa.rep) (x:=k) (hk3.ext hB4).cells ?_);have B4:=qak B3 hB4;refine qfx (hT.ext B4) hwk _ [] (by simp) fun q w5 hq hB5 hqb=>?_;have ht5:=(ht3.ext hB4).ext hB5;have em:∀P,qlu E k ts P v=(E,toldR k ((newP k E.quota:Nat):Int) []):=fun P=>by unfold qlu;rw [if_pos he]
  have z4:=hB4.size;refine qbk (r:=qad.rep) (x:=⟨q,0,0,false⟩) ht5 rfl rfl fun w6 hc6 hs6=>?_;refine hK ⟨none,0,0⟩ _ F w6 ?_ ?_ (fun j hj=>⟨by have:=hqb j hj;omega,fun hs=>by have:=(h.below _ hs).2;have:=hqb j hj;omega⟩)
  ·rw [em];exact ⟨hq.chg hc6 fun a ha e=>by have:=hqb a.block (slk.2 ⟨a,ha,rfl⟩);omega,rfl,rfl,rfl⟩
  ·rw [em];exact ((EngT.of_ext h (qak B4 hB5)).up (by omega)).other ht5 tys (nLS (by omega)) (by omega) hc6
 ·refine cF rfl ?_;have B4:=(qak B3 hB4).drew;have h4e:=h.ext B4;have hk4:=(hk3.ext hB4).drew;have hv4:=(hv3.ext hB4).drew;have ht4:=(ht3.ext hB4).drew;have z4:=hB4.size;have e4:w4.drew.heap.size=w4.heap.size:=rfl;refine qal (r:=qaa.rep) (x:=k) hk4.cells ?_;show stK ⟨g,3,none⟩ _ _ _;refine qaj h4e.blk (by rw [q97];show (3+1:Nat)<=26;omega) fun w7 hb7 hg7 hs7=>?_;have hc7:Chg (fun i=>i=g) w4.drew w7:=Chg.of_grown hg7 fun k hk=>by cases hk;rfl
  have hk7:=hk4.chg hc7 fun e=>by omega
  refine ⟨hk7.cells,?_⟩;show stK ⟨g,4,none⟩ _ _ _;have e22:(qaa.rep.cells k).length=22:=rfl
  let F1:KF:={ F with lg:=lg,gd:=gd,LS:=fun i=>i=lg\/i=gd }
  have hb7':Blk w7 g qb0 (engC F1 { E with ld:=some (cfgK E k,ld0) }):=by
   rw [zk0 F E lg gd (fun i=>i=lg\/i=gd) (cfgK E k,ld0)] at hb7;exact hb7
  refine qaj hb7' (by rw [e22,q97];omega) fun w8 hb8 hg8 hs8=>?_;have hc8:Chg (fun i=>i=g) w7 w8:=Chg.of_grown hg8 fun k hk=>by cases hk;rfl
  have hb8':Blk w8 g qb0 (engC F1 (begE E k)):=by
   rw [zec] at hb8;exact hb8
  have hc:Chg (fun i=>i=g) w4.drew w8:=hc7.trans hc8 fun i _ hi=>hi;have hk8:=hk4.chg hc fun e=>by omega
  have hv8:=hv4.chg hc fun e=>by omega
  have ht8:=ht4.chg hc fun e=>by omega
  have llt:∀j,(j=lg\/j=gd)->w3.heap.size<=j/\j<w4.heap.size:=fun j hj=>by have:=hld.lt j hj;omega
  have hld8:LdA w8 base lg gd (cfgK E k) ld0 (fun i=>i=lg\/i=gd):=by
   have h1:LdA w4.drew w3.drew.heap.size lg gd (cfgK E k) ld0 (fun i=>i=lg\/i=gd):=hld.ext (qb3 w4);exact (h1.chg hc fun j hj e=>by have:=llt j hj;omega).weak (by have:=h.hg;omega)
  have hq0:0<=E.quota:=by
   rcases Int.lt_or_le E.quota 0 with hlt | hge
   ·exfalso;unfold newP at he;rw [if_pos (.inl hlt)] at he;cases he
   ·exact hge
  have hcf:CfgOk (cfgK E k):=⟨by show newP k ((E.quota.toNat:Nat):Int)=0;rw [show ((E.quota.toNat:Nat):Int)=E.quota by omega];exact he,rfl,by show E.quota.toNat<=100000;omega⟩;have old:∀{j:Nat},j<w.heap.size->¬(j=lg\/j=gd):=fun hj e=>by have:=llt _ e;omega
  have h8:EngT base g w F F1 (begE E k) n w8:=by
   refine ⟨⟨hb8',h.hg,h4e.st.keep hc (fun e=>h.g_sg e.symm) (fun e=>h.g_sr e.symm) (fun p hp k hk e=>h4e.img_g hp hk e),h.ok,h.hs,h4e.tb.chg hc ?_,h.tl,(fun C s h1=>?_),(fun h1=>by cases h1),old gl,⟨old h.st.blk.lt,old h.st.map.lt⟩,(fun j hj=>old (h.tb.lt j hj).2),fun j hj=>?_⟩,?_,?_,fun j hj=>.inr (by have:=llt j hj;omega)⟩
   ·rintro j (hj | hj) e
    ·exact h.g_tg (e.symm.trans hj)
    ·exact h.g_q j hj e
   ·cases h1;exact ⟨hld8,hcf⟩
   ·obtain ⟨p,hp,hb⟩:=hj;exact old ((h.st.img p hp).lt j hb).2
   ·rintro j (hj | hj | hj | hj)
    ·exact .inl (.inl hj)
    ·exact .inl (.inr (.inl hj))
    ·exact .inl (.inr (.inr (.inl hj)))
    ·exact .inr (by have:=llt j hj;omega)
   ·exact (Chg.of_ext (S:=engS g F) B4).trans hc fun i _ hi=>.inl hi
  have ht8w:Rd qae w8 text ts:=by
   refine qxf (ht.ext B4) hc fun hp a ha e=>?_;exact htg a.block (slk.2 ⟨a,ha,rfl⟩) (fun h0=>by rw [h0] at hp;cases hp) (.inl e)
  refine qal (r:=qaa.rep) (x:=k) hk8.cells (qal (r:=qac.rep) (x:=v) hv8.cells ?_);refine q69 h8.m hn (hT.stepK h h4 h8) h4 (C:=cfgK E k) (s:=ld0) rfl rfl (by show potL ld0+_<=_;have:potL ld0=0:=rfl;omega) ht8w (fun j hj hne hs=>?_) hwk hwk v fun P r F9 w9 hr h9 hrb=>?_
  ·obtain ⟨a,ha,hab⟩:=slk.1 hj;have:=rd_lt ht (List.length_pos_iff.2 hne) a ha;exact old (hab ▸ this) hs
  ·have z8:=h8.chg.size;have lt8:=ht8.lt;have n2:¬F1.LS w2.heap.size:=fun hs=>by have:=llt _ hs;omega
   have ht9:=ht8.chg h9.chg (h8.m.not_in ht8 tys n2);refine qbk (r:=qad.rep) (x:=r) ht9 rfl rfl fun w10 hc10 hs10=>?_;have em:qlu E k ts P v=moreK (begE E k) (cfgK E k) ld0 k ts P v:=by
    unfold qlu;rw [if_neg (fun hh=>hh he)]
   refine hK P r F9 w10 ?_ ?_ (fun j hj=>⟨by have:=(hrb j hj).1;omega,(hrb j hj).2⟩)
   ·rw [em];exact ⟨hr.1.chg hc10 fun a ha e=>by have:=(hrb a.block (slk.2 ⟨a,ha,rfl⟩)).1;omega,hr.2⟩
   ·rw [em];refine (h8.trans h9).other ht9 tys (fun hs=>?_) (by omega) hc10;rcases h9.ls _ hs with h1 | h1
    ·exact n2 h1
    ·omega
end
def headB (c:UInt8) (l:List UInt8):List UInt8:=l.takeWhile fun b=>b !=c
def tailB (c:UInt8) (l:List UInt8):List UInt8:=(l.dropWhile fun b=>b !=c).drop 1
theorem cutB (c:UInt8):∀l:List UInt8,(c∈l/\l=headB c l++c::tailB c l/\∀b∈headB c l,b≠c)\/((∀b∈l,b≠c)/\headB c l=l/\tailB c l=[])
 | []=>.inr ⟨by simp,rfl,rfl⟩
 | b::l=>by
  by_cases hb:b=c
  ·subst hb;left;simp [headB,tailB]
  ·have e1:headB c (b::l)=b::headB c l:=by simp [headB,hb]
   have e2:tailB c (b::l)=tailB c l:=by simp [tailB,hb]
   rw [e1,e2];rcases cutB c l with ⟨h1,h2,h3⟩ | ⟨h1,h2,h3⟩
   ·left;refine ⟨by simp [h1],by rw [List.cons_append,<-h2],fun x hx=>?_⟩;rcases List.mem_cons.1 hx with rfl | hx
    ·exact hb
    ·exact h3 x hx
   ·right;refine ⟨fun x hx=>?_,by rw [h2],h3⟩;rcases List.mem_cons.1 hx with rfl | hx
    ·exact hb
    ·exact h1 x hx
theorem q4g:∀(l:List UInt8) (c:UInt8),(∀b∈l,b≠c)->indexByte l c=-1
 | [],c,_=>by simp [indexByte]
 | b::x,c,h=>by
  have h1:=q4g x c fun b hb=>h b (by simp [hb]);have h2:b≠c:=h b (by simp);simp [indexByte,h2,h1]
theorem zh4 (c:UInt8) (l:List UInt8):(headB c l).length<=l.length:=List.Sublist.length_le (List.takeWhile_sublist _)
theorem q1e (c:UInt8) (l:List UInt8):(tailB c l).length<=l.length:=by
 unfold tailB;have:=List.Sublist.length_le (List.dropWhile_sublist (l:=l) (fun b=>b !=c));rw [length_drop];omega
section
variable {w:World}
theorem q54 {s:Slc} {bs:List UInt8} (c:UInt8) {g o:Nat} (hs:Rd qae w s bs) (hsa:s.a=some ⟨g,o,none⟩) {sep:Slc} (hsep:Rd qae w sep [c]) (hl:bs.length<=1000000) {K:Int->World->Prop}
  (hK:K (indexByte bs c) w):qrg s sep w K:=by
 refine q3y _ _ ?_;unfold qws;have hn:=hs.n;have hsn1:sep.n=1:=hsep.n;refine cF (by rw [hsn1];rfl) (cT (by rw [hsn1];rfl) ?_);refine hsep.ix (k:=1) rfl (by omega) (by rw [List.length_singleton];decide) fun hcell=>?_;refine lI (x:=(c.toNat:Int)) (by simpa using hcell 0 _ rfl) ?_;have hc:Calls PG 123 #[.slice (some ⟨g,o,none⟩) s.n s.c,.int .u8 (c.toNat:Int)] w fun e w'=>e=.returned (.int .i64 (indexByte (Lib.bytesOf (bs.map fun b=>(b.toNat:Int))) ((c.toNat:Int)).toNat.toUInt8))/\w'=w :=
  Tryz.bytes_IndexByte g o s.n s.c (bs.map fun b=>(b.toNat:Int)) (c.toNat:Int) w (by simp;omega) (fun i hi=>by
   have hil:i<bs.length:=by omega
   have:=hs.at_ i bs[i] (by simp [hil]) 0 (.int .u8 (bs[i].toNat:Int)) rfl;simp only [Slc.at_,hsa,getD_some,add_zero] at this;rw [qat,show i*qae.k=i from mul_one i] at this;rw [this,List.getD_eq_getElem?_getD,List.getElem?_map,List.getElem?_eq_getElem hil];rfl)
 have hbytes:Lib.bytesOf (bs.map fun b=>(b.toNat:Int))=bs:=by
  unfold Lib.bytesOf;rw [List.map_map]
  conv=>rhs;rw [<-List.map_id bs]
  exact List.map_congr_left fun b _=>by simp
 rw [hbytes,show ((c.toNat:Int)).toNat.toUInt8=c by simp] at hc;have he:s=⟨some ⟨g,o,none⟩,s.n,s.c⟩:=by cases s;cases hsa;rfl
 rw [he];refine Calls.mono hc ?_;rintro e w' ⟨rfl,rfl⟩;exact ⟨_,rfl,hK⟩
theorem zj7 {s:Slc} {bs:List UInt8} (c:UInt8) {g o:Nat} (hs:Rd qae w s bs) (hsa:s.a=some ⟨g,o,none⟩) {sep:Slc} (hsep:Rd qae w sep [c]) (hl:bs.length<=1000000) {K:Slc->Slc->Bool->World->Prop}
  (hK:∀p q b w',Below w.heap.size w w'->Rd qae w' p (headB c bs)->Rd qae w' q (tailB c bs)->p.a.isSome=true->K p q b w'):qvw s sep w K:=by
 refine q62 _ _ ?_;unfold q1l;refine q54 c hs hsa hsep hl ?_;have hsn1:sep.n=1:=hsep.n;rcases cutB c bs with ⟨h1,h2,h3⟩ | ⟨h1,h2,h3⟩
 ·have hix:indexByte bs c=(headB c bs).length:=by
   conv=>lhs;rw [h2]
   exact q9e _ _ _ h3
  have hlen:bs.length=(headB c bs).length+((tailB c bs).length+1):=by
   conv=>lhs;rw [h2]
   rw [length_append,length_cons]
  rw [hix];refine cT (by simp) ?_;refine hs.slK (E:=qae) (k:=1) (l:=0) (m:=(headB c bs).length) rfl (.inl ⟨rfl,rfl⟩) (.inr rfl) (by omega) (by omega) fun hp=>?_;rw [hsn1,i64_in (by omega)];refine hs.slK (E:=qae) (k:=1) (l:=(headB c bs).length+1) (m:=bs.length) rfl (.inr (by simp)) (.inl ⟨rfl,rfl⟩) (by omega) (le_refl _) fun hq=>?_;have e12:∀x y:List UInt8,bs=x++c::y->(bs.take x.length).drop 0=x/\(bs.take bs.length).drop (x.length+1)=y:=by
   intro x y h;rw [take_length,h];exact ⟨by simp,by simp⟩
  obtain ⟨e1,e2⟩:=e12 _ _ h2;rw [e1] at hp;rw [e2] at hq;have hcut:∀l m k,(cut s.a l m k).isSome=true:=fun l m k=>by unfold cut;rw [hsa];split<;>rfl
  exact hK _ _ _ _ (qb3 w) hp.drew hq.drew (hcut _ _ _)
 ·rw [q4g bs c h1];refine cF (by decide) ?_;refine hK _ _ _ _ (Below.refl _ w) (by rw [h2];exact hs) (by rw [h3];exact Rd.nil _ _) (by rw [hsa];rfl)
theorem q21 {s:Slc} {bs:List UInt8} (hs:Rd qae w s bs) (hl:bs.length<=1000000) {K:Slc->World->Prop} (hK:∀q w',Rd qae w' q bs->(∀j,q.blk=some j->w.heap.size<=j)->Below w.heap.size w w'->K q w'):qih s w K:=by
 cases ha:s.a with
 | some a=>exact zes hs (by rw [ha];rfl) hl fun q w' ho hB=>hK q w' ho.rd (fun j hj=>(ho.lt j hj).1) hB
 | none =>
  refine qs7 _ ?_;unfold qpj;refine cT (by rw [ha];rfl) ?_;have hn:=hs.n;have hbs:bs=[]:=by
   cases bs with
   | nil=>rfl
   | cons b bs=>exact absurd (hs.some_ (by simp)) (by rw [ha];simp)
  subst hbs;exact hK _ _ (Rd.nil _ _) (fun j hj=>by cases hj) (Below.refl _ w)
theorem zca {s:Slc} {bs:List UInt8} {g o:Nat} (hs:Rd qae w s bs) (hsa:s.a=some ⟨g,o,none⟩) (hl:bs.length<=1000000) {K:Slc->Slc->World->Prop}
  (hK:∀p q w',Below w.heap.size w w'->Rd qae w' p (headB 59 bs)->Rd qae w' q (tailB 59 bs)->(∀j,p.blk=some j->w.heap.size<=j)->(∀j,q.blk=some j->w.heap.size<=j)->K p q w'):qtv s w K:=by
 refine q4s _ ?_;unfold qzk;refine qv7 (bs:=[59]) rfl rfl (by decide) fun sep w1 hsep _ hB1 hs1 _=>?_;refine zj7 59 (hs.ext hB1) hsa hsep hl fun p q b w2 hB2 hp hq hpa=>?_;have B2:=qak hB1 hB2;refine q21 hp (by have:=zh4 59 bs;omega) fun p2 w3 hp2 hpf hB3=>?_;have B3:=qak B2 hB3;refine q21 (hq.ext hB3) (by have:=q1e 59 bs;omega) fun q2 w4 hq2 hqf hB4=>?_;have z2:=B2.size;have z3:=B3.size;exact hK p2 q2 w4 (qak B3 hB4) (hp2.ext hB4) hq2 (fun j hj=>by have:=hpf j hj;omega) (fun j hj=>by have:=hqf j hj;omega)
end
def zhf (G:Value) (f:Int->Bool):Prop:=∀(w1:World) (id:Int) (K:Bool->World->Prop),K (f id) w1->callR C G [.int .i64 id] [Kind.bool] w1 K
theorem zei:zhf (.func (.func qjt) #[] #[]) fun _=>true:=by
 intro w1 id K hK;have h:qkq id w1 K:=by
  refine qrb _ ?_;unfold qjo;exact hK
 refine qj4 (by kernel_rfl) (Calls.mono h ?_);rintro e w' ⟨r,rfl,hk⟩;exact ⟨r,rfl,hk⟩
def qfl (T:List Pl) (f:Int->Bool) (S:St) (id:Int):St:=if f id && !(T.any fun p=>p.Image==id) then S.drop id else S
def qjd (T:List Pl) (f:Int->Bool) (S:St) (ids:List Int):St:=ids.foldl (qfl T f) S
def qfi (E:KE) (f:Int->Bool) (ids:List Int):KE:={ E with S:=qjd E.T f E.S ids }
theorem zcg (E:KE) (f:Int->Bool) (ids:List Int) (x:Int):qfi E f (ids++[x])={ E with S:=qfl E.T f (qfi E f ids).S x }:=by
 unfold qfi qjd;rw [List.foldl_append];rfl
section
variable {w w':World} {base g n:Nat} {F F':KF} {E E':KE}
theorem EngT.drop1 (h:EngM w base g F E n) {id:Int} (hst:StM w' base F.sg F.sr (E.S.drop id)) (hc:Chg (onS F.sg F.sr) w w'):EngT base g w F F { E with S:=E.S.drop id } n w' :=
 EngT.store h hst (qsy h.ok id) (le_refl _) hc fun k hk=>by
  obtain ⟨p,hp,hb⟩:=hk;exact .inl ⟨p,((qi7 _ _ _).1 hp).2,hb⟩
theorem zdj (h:EngM w base g F E n) (hn:n<=100000) {ids:Slc} {L:List Int} (hr:Rd E_int w ids L) (hne:∀a,ids.a=some a->¬onS F.sg F.sr a.block) {G:Value} {f:Int->Bool} (hG:zhf G f) {K:World->Prop}
  (hK:∀w',EngT base g w F F (qfi E f L) n w'->K w'):qhy (some ⟨g,0,none⟩) ids G w K:=by
 refine quj _ _ _ ?_;unfold qm4;have hl:ids.n=L.length:=hr.n;have hlm:L.length<=9223372036854775807:=by rw [<-hl];exact le_trans hr.nc hr.cm
 refine lpR (fun (st:Int×Unit) w1=>∃k:Nat,st.1=(k:Int)/\k<=L.length/\EngT base g w F F (qfi E f (L.take k)) n w1/\Rd E_int w1 ids L) (fun st=>L.length-st.1.toNat)
  ⟨0,rfl,zero_le _,EngT.refl h,hr⟩ ?_
 rintro ⟨i,u⟩ w1 ⟨k,hi,hk,h1,hr1⟩ I hI;dsimp only at hi ⊢;subst hi;refine cO (fun e=>?_) fun e=>?_
 ·have e:=oTq e;have hlt:k<L.length:=by omega
  obtain ⟨x,hx⟩:∃x,L[k]?=some x:=⟨_,List.getElem?_eq_getElem hlt⟩;have tk:L.take (k+1)=L.take k++[x]:=by rw [take_add_one,hx];rfl
  refine hr1.ix (E:=E_int) (i:=(k:Int)) rfl (by omega) (by omega) fun hc=>?_;have e1:L[(k:Int).toNat]'(by omega)=x:=(List.getElem?_eq_some_iff.1 (by simpa using hx)).2;rw [e1] at hc;refine lI (x:=x) (by simpa using hc 0 _ rfl) ?_;rw [w64i (x:=(k:Int)+1) (by omega)];refine jpO fun J hJ=>?_;have nxt:∀w2,EngT base g w1 F F { (qfi E f (L.take k)) with S:=qfl E.T f (qfi E f (L.take k)).S x } n w2->Rd E_int w2 ids L->I ((k:Int)+1,()) w2:=by
   intro w2 h2 hr2;refine hI _ _ ⟨k+1,by simp,by omega,?_,hr2⟩ (by dsimp only;omega);rw [tk,zcg];exact h1.trans h2
  refine hG w1 x _ ?_;refine cO (fun hf=>?_) fun hf=>?_
  ·simp only [onPtr_some];refine qa8 (x:=some ⟨F.tg,0,none⟩) (h1.m.blk.cells 2 _ rfl) ?_;refine q4t h1.m.tb (le_trans h1.m.tl hn) x fun w2 hB2=>hJ _ _ ?_;have eT:(qfi E f (L.take k)).T=E.T:=rfl;rw [eT];have h2:=EngT.of_ext h1.m hB2;refine cO (fun ha=>?_) fun ha=>?_
   ·simp only [onPtr_some];refine qa8 (x:=some ⟨F.sg,0,none⟩) (h2.m.blk.cells 1 _ rfl) ?_;refine q0y h2.m.st h2.m.ok x fun w3 hst hc3=>?_;refine nxt w3 ?_ (qxf (hr1.ext hB2) hc3 fun _ a ha=>hne a ha);have es:qfl E.T f (qfi E f (L.take k)).S x=(qfi E f (L.take k)).S.drop x:=by
     unfold qfl;dsimp only at ha;rw [hf,ha];rfl
    rw [es];exact h2.trans (EngT.drop1 h2.m hst hc3)
   ·refine nxt w2 ?_ (hr1.ext hB2);have es:qfl E.T f (qfi E f (L.take k)).S x=(qfi E f (L.take k)).S:=by
     unfold qfl;dsimp only at ha;rw [hf,ha];rfl
    rw [es];exact h2
  ·refine hJ _ _ (cF rfl (nxt w1 ?_ hr1));have es:qfl E.T f (qfi E f (L.take k)).S x=(qfi E f (L.take k)).S:=by
    unfold qfl;rw [hf];rfl
   rw [es];exact EngT.refl h1.m
 ·have e:=oFq e;have hkl:k=L.length:=by omega
  rw [hkl,take_length] at h1;exact hK w1 h1
theorem zge (h:EngM w base g F E n) {w1:World} {q':Slc} {r:Slc} {T:Type} {El':El T} {xs:List T} (hr:Go.Vc.Own El' w1 w.heap.size r xs) (hne:∀k,r.blk=some k->q'.blk≠some k):∀k,r.blk=some k->¬engS g { F with q:=q' } k:=by
 intro k hk hs;have hlt:=hr.lt k hk;have old:engS g F k->False:=fun h3=>by
  have:=(h.below k h3).2;omega
 rcases hs with e | e | (e | e) | e
 ·exact old (.inl e)
 ·exact old (.inr (.inl e))
 ·exact old (.inr (.inr (.inl (.inl e))))
 ·exact hne k hk e
 ·exact old (.inr (.inr (.inr e)))
end
open Classical in
noncomputable def numK (S:St) (n:Int):Int×Bool:=if h:∃r:Int×Bool,qj9 S.L n r.1 r.2 then h.choose else (0,false)
theorem zc9 {m:Nat} {S:St} (hk:StOk m S) {n b:Int} {ok:Bool} (h:qj9 S.L n b ok):numK S n=(b,ok):=by
 have hx:∃r:Int×Bool,qj9 S.L n r.1 r.2:=⟨(b,ok),h⟩;unfold numK;rw [dif_pos hx];obtain ⟨h1,h2⟩:=qj9.one hk hx.choose_spec h;exact Prod.ext h1 h2
noncomputable def qcj (S:St) (k:qaa):Int×Bool:=if k.Id=0 then numK S k.Number else (k.Id,(lookL S.L k.Id).isSome)
noncomputable def showK (E:KE) (k:qaa) (v:qac):KE×KR :=
 if (qcj E.S k).2=false then (E,toldR k 7 [])
 else if (qce E { k with Id:=(qcj E.S k).1 } (qcj E.S k).1 v).2.2 then
  ({ (qce E { k with Id:=(qcj E.S k).1 } (qcj E.S k).1 v).1 with S:=(qce E { k with Id:=(qcj E.S k).1 } (qcj E.S k).1 v).1.S.use (qcj E.S k).1 },(qce E { k with Id:=(qcj E.S k).1 } (qcj E.S k).1 v).2.1)
 else ((qce E { k with Id:=(qcj E.S k).1 } (qcj E.S k).1 v).1,(qce E { k with Id:=(qcj E.S k).1 } (qcj E.S k).1 v).2.1)
section
variable {w w':World} {base g n:Nat} {F F':KF} {E E':KE}
theorem zkk {m:Nat} {S:St} (hk:StOk m S) (hm:m<=1000) {n b:Int} {ok:Bool} (h:qj9 S.L n b ok):-9223372036854775808<=b/\b<=9223372036854775807:=by
 rcases h with ⟨_,rfl,_⟩ | ⟨_,x,hx,_⟩
 ·omega
 ·have:=hk.keys _ hx;dsimp only at this;omega
theorem zdy (h:EngM w base g F E n) (hn:n<=1000) (k:qaa) (hwk:Wide (toL k)) {K:Int->Bool->World->Prop}
  (hK:∀w',Below w.heap.size w w'->(-9223372036854775808<=(qcj E.S k).1/\(qcj E.S k).1<=9223372036854775807)->K (qcj E.S k).1 (qcj E.S k).2 w'):qh3 (some ⟨g,0,none⟩) k w K:=by
 refine quh _ _ ?_;unfold qm1;simp only [onPtr_some];refine nwb fun w1 hk1 hB1 hs1=>?_;have h1:=(h.ext hB1).drew;have hk1d:=hk1.drew;have B1:=hB1.drew;unfold qcj at hK;refine lI (x:=k.Id) (hk1.cells 8 _ rfl) (cO (fun e=>?_) fun e=>?_)
 ·rw [if_pos (eq_of_beq e)] at hK;refine qa8 (x:=some ⟨F.sg,0,none⟩) (h1.blk.cells 1 _ rfl) (lI (x:=k.Number) (hk1d.cells 9 _ rfl) ?_);refine qvj h1.st h.ok k.Number fun b ok w2 hN hB2=>?_;rw [zc9 h.ok hN] at hK;exact hK w2 (qak B1 hB2) (zkk h.ok hn hN)
 ·rw [if_neg (beq_eq_false_iff_ne.1 e)] at hK;have hid:-9223372036854775808<=k.Id/\k.Id<=9223372036854775807:=hwk 8;refine qa8 (x:=some ⟨F.sg,0,none⟩) (h1.blk.cells 1 _ rfl) (lI (x:=k.Id) (hk1d.cells 8 _ rfl) ⟨?_,?_⟩)
  ·refine qxr h1.st k.Id fun w2 hB2=>?_;refine nwb fun w3 hx3 hB3 hs3=>?_;have hk3:=(hk1d.ext hB2).ext hB3;have h3:=(h1.ext hB2).ext hB3;refine ⟨hk3.cells 8 _ rfl,h3.blk.cells 1 _ rfl,?_⟩;refine qaj hx3 (le_refl _) fun w4 hx4 hg4 hs4=>?_;have hc4:Chg (fun i=>i=w2.heap.size) w3 w4:=Chg.of_grown hg4 fun k hk=>by cases hk;rfl
   have z2:=hB2.size;have lk:=hk1d.lt;have z1:w.heap.size<=w1.drew.heap.size:=B1.size;refine lI (x:=k.Id) ((hk3.chg hc4 fun e=>by omega).cells 8 _ rfl) ?_;exact hK w4 (b1o (qch B1 hB2 hB3) hc4 (by omega)) hid
  ·refine nwb fun w2 hx2 hB2 hs2=>?_;have hk2:=hk1d.ext hB2;have h2:=h1.ext hB2;refine ⟨hk2.cells 8 _ rfl,h2.blk.cells 1 _ rfl,?_⟩;refine qxr h2.st k.Id fun w3 hB3=>?_;refine qaj (hx2.ext hB3) (le_refl _) fun w4 hx4 hg4 hs4=>?_;have hc4:Chg (fun i=>i=w1.drew.heap.size) w3 w4:=Chg.of_grown hg4 fun k hk=>by cases hk;rfl
   have lk:=hk1d.lt;have z1:w.heap.size<=w1.drew.heap.size:=B1.size;refine lI (x:=k.Id) (((hk2.ext hB3).chg hc4 fun e=>by omega).cells 8 _ rfl) ?_;exact hK w4 (b1o (qch B1 hB2 hB3) hc4 (by omega)) hid
theorem zk3 {m:Nat} {S:St} (hk:StOk m S) (id:Int):∀k,imgS (S.use id) k->imgS S k:=by
 rintro k ⟨p,hp,hb⟩;unfold St.use at hp;split at hp
 ·rename_i x hx;obtain ⟨a,b⟩:=p;rcases (qeu hk.srt _ _ a b).1 hp with ⟨rfl,rfl⟩ | ⟨_,hp'⟩
  ·exact ⟨(a,x),(qco hk.srt).1 hx,hb⟩
  ·exact ⟨(a,b),hp',hb⟩
 ·exact ⟨p,hp,hb⟩
theorem zf6 (h:EngM w base g F E n) (hn:n<=900) (hT:Tab w) (h4:4<=base) {k:qaa} (hwk:Wide (toL k)) (v:qac) {K:qad->World->Prop}
  (hK:∀r F' w',ResM w' r (showK E k v).2->EngT base g w F F' (showK E k v).1 (n+2) w'->(∀j,r.Reply.blk=some j->w.heap.size<=j/\¬engS g F' j)->K r w'):qir (some ⟨g,0,none⟩) k v w K:=by
 refine qvb _ _ _ ?_;unfold qnv;simp only [onPtr_some];refine nwb fun w1 hk1 hB1 hs1=>nwb fun w2 hv2 hB2 hs2=>nwb fun w3 ht3 hB3 hs3=>?_;have B3:=qch hB1 hB2 hB3;have hk3:=(hk1.ext hB2).ext hB3;have hv3:=hv2.ext hB3;have h3:=h.ext B3;have nE:∀{b:Nat},w.heap.size<=b->¬engS g F b:=fun hb hk=>by have:=(h.below _ hk).2;omega
 have nLS:∀{b:Nat},w.heap.size<=b->¬F.LS b:=fun hb hk=>nE hb (.inr (.inr (.inr hk)));have tys:tyFar qai:=by decide
 have z1:=hB1.size;have z2:=hB2.size;have z3:=hB3.size;have lt3:=ht3.lt;refine qal (r:=qaa.rep) (x:=k) hk3.cells ?_;refine zdy h3 (by omega) k hwk fun w4 hB4 hid=>?_;unfold showK at hK;generalize (qcj E.S k).1=id at *;generalize (qcj E.S k).2=is_ at *;have B4:=qak B3 hB4;have hk4:=hk3.ext hB4;have hv4:=hv3.ext hB4;have ht4:=ht3.ext hB4;have z4:=hB4.size;cases is_
 ·simp only [if_true] at hK;refine cT rfl (qal (r:=qaa.rep) (x:=k) hk4.cells ?_);refine qfx (hT.ext B4) hwk 7 [] (by simp) fun q w5 hq hB5 hqb=>?_;have ht5:=ht4.ext hB5;refine qbk (r:=qad.rep) (x:=⟨q,0,0,false⟩) ht5 rfl rfl fun w6 hc6 hs6=>?_;exact hK _ F w6 ⟨hq.chg hc6 fun a ha e=>by have:=hqb a.block (slk.2 ⟨a,ha,rfl⟩);omega,rfl,rfl,rfl⟩ (((EngT.of_ext h (qak B4 hB5)).up (by omega)).other ht5 tys (nLS (by omega)) (by omega) hc6) (fun j hj=>⟨by have:=hqb j hj;omega,fun hs=>by have:=(h.below _ hs).2;have:=hqb j hj;omega⟩)
 ·rw [if_neg (by decide)] at hK;refine cF rfl ?_;show stK ⟨w.heap.size,8,none⟩ _ _ _;refine qaj hk4 (by show (8+1:Nat)<=22;omega) fun w5 hk5 hg5 hs5=>?_;have hc5:Chg (fun i=>i=w.heap.size) w4 w5:=Chg.of_grown hg5 fun k hk=>by cases hk;rfl
  have hk5:Blk w5 w.heap.size qax (qaa.rep.cells { k with Id:=id }):=hk5;have B5:=b1o B4 hc5 (le_refl _);have hv5:=hv4.chg hc5 fun e=>by omega
  have ht5:=ht4.chg hc5 fun e=>by omega
  have h5:=EngT.of_ext h B5;have lv5:=hv5.lt;have lt5:=ht5.lt;refine qal (r:=qaa.rep) (x:={ k with Id:=id }) hk5.cells (qal (r:=qac.rep) (x:=v) hv5.cells ?_);refine q4y h5.m (by omega) (hT.ext B5) h4 (zcv hwk hid) id v fun r F6 w6 hr6 h6 hrb=>?_;generalize qce E { k with Id:=id } id v=R at *;obtain ⟨E6,R6,ok⟩:=R;dsimp only at hr6 h6 hK ⊢;have hE6:=h5.trans h6;have ht6:=ht5.chg h6.chg (nE (by omega));refine qdd (vs:=qad.rep.cells r) rfl fun w8 ho8 hB8 hs8=>?_;have h8:=hE6.ext hB8;have ht8:=ht6.ext hB8;have hr8:=hr6.ext hB8;have z5:=B5.size;have z8:=hB8.size;have z6:=h6.chg.size;have nF6:∀{b:Nat},w.heap.size<=b->b<w5.heap.size->¬F6.LS b:=fun h1 h2 hs=>by
   rcases h6.ls _ hs with h7 | h7
   ·exact nLS h1 h7
   ·omega
  cases ok
  ·rw [if_neg (by decide)] at hK;refine cF rfl (qal (r:=qad.rep) (x:=r) ho8.cells ?_);refine qbk (r:=qad.rep) (x:=r) ht8 rfl rfl fun w9 hc9 hs9=>?_;exact hK r F6 w9 ⟨hr8.1.chg hc9 fun a ha e=>by have:=(hrb a.block (slk.2 ⟨a,ha,rfl⟩)).1;omega,hr8.2⟩ ((h8.up (by omega)).other ht8 tys (nF6 (by omega) (by omega)) (by omega) hc9) (fun j hj=>⟨by have:=(hrb j hj).1;omega,(hrb j hj).2⟩)
  ·rw [if_pos rfl] at hK;refine cT rfl (qa8 (x:=some ⟨F6.sg,0,none⟩) (h8.m.blk.cells 1 _ rfl) ?_);refine zkb h8.m.st h8.m.ok (by omega) id fun w9 hst hc9=>?_;have h9:=h8.trans (EngT.store h8.m hst (zl7 h8.m.ok id) (by omega) hc9 fun j hj=>.inl (zk3 h8.m.ok id j hj));have nS:∀{b:Nat} {t:TypeId} {vs:List Value},Blk w8 b t vs->t≠qbx->¬onS F6.sg F6.sr b:=fun hb ht hs=>by
    rcases hs with e | e
    ·exact hb.ne_t h8.m.st.blk ht e
    ·exact h8.m.st.map.ne_blk hb e.symm
   have ho9:=ho8.chg hc9 (nS ho8 (by decide));have ht9:=ht8.chg hc9 (nS ht8 (by decide));have z9:=hc9.size;refine qal (r:=qad.rep) (x:=r) ho9.cells ?_;refine qbk (r:=qad.rep) (x:=r) ht9 rfl rfl fun w10 hc10 hs10=>?_;refine hK r F6 w10 ⟨?_,hr8.2⟩ (h9.other ht9 tys (nF6 (by omega) (by omega)) (by omega) hc10) (fun j hj=>⟨by have:=(hrb j hj).1;omega,(hrb j hj).2⟩);have hr9:Rd qae w9 r.Reply R6.reply:=hr8.1.chg hc9 fun a ha hs=>?_
   ·exact hr9.chg hc10 fun a ha e=>by have:=(hrb a.block (slk.2 ⟨a,ha,rfl⟩)).1;omega
   ·exact (hrb a.block (slk.2 ⟨a,ha,rfl⟩)).2 (.inr (.inl hs))
end
def capK (k:qaa):Bool:=decide (k.What>=65) && decide (k.What<=90)
def qjb (S:St) (k:qaa):List Int:=(S.L.map (·.1)).filter fun id=>decide (id>=k.X) && decide (id<=k.Y)
noncomputable def idsK (E:KE) (k:qaa):Option (List Int×Int) :=
 if k.What=110\/k.What=78 then (if (numK E.S k.Number).2 then some ([(numK E.S k.Number).1],(numK E.S k.Number).1) else none)
 else if k.What=105\/k.What=73 then some ([k.Id],k.Id)
 else if k.What=114\/k.What=82 then some (qjb E.S k,k.Id)
 else some ([],k.Id)
def askK (k:qaa) (im:Int):PAsk:=⟨k.What,im,k.Place,k.X,k.Y,k.Z⟩
def goneK (E:KE) (k:qaa) (v:qac) (ids:List Int) (im:Int):KE :=
 if capK k then qfi { E with T:=E.T.filter fun p=>!qel (askK k im) p v.View } (fun _=>true) (ids++(E.T.filter fun p=>qel (askK k im) p v.View).map (·.Image))
 else { E with T:=E.T.filter fun p=>!qel (askK k im) p v.View }
noncomputable def qfc (E:KE) (k:qaa) (v:qac):KE:=match idsK E k with
 | none=>E
 | some (ids,im)=>goneK E k v ids im
section
variable {w w':World} {base g n:Nat} {F F':KF} {E E':KE}
theorem za6 (h:EngM w base g F E n) (hn:n<=1000) {b:Nat} {k:qaa} (hk:Blk w b qax (qaa.rep.cells k)) {J2:Slc×Unit->World->Prop}
  (hJ:∀s w',Below w.heap.size w w'->Go.Vc.Own E_int w' w.heap.size s (qjb E.S k)->J2 (s,()) w') :
  onPtr (some ⟨g,0,none⟩) fun t67 =>
       ldP (t67.add 1) w fun t69 =>
       qeb t69 w fun t70 w19 =>
       loopP (σ:=Slc×Int×Unit) (fun I7 s_6 w20 =>
        cond (decide (s_6.2.1<((t70.n:Nat):Int)))
         (
          ixK t70 s_6.2.1 1 fun t74 =>
          ldI .i64 t74 w20 fun t75 =>
          joinP (σ:=Bool×Unit) (fun s_7 w21 =>
           cond s_7.1
            (
            nw qa9 [(.int .i64 t75)] w21 fun t88 w22 =>
            apK PG #[qbh,qbh] qbh s_6.1 (⟨(some t88),1,1⟩:Slc) w22 fun t89 w23 =>
            I7 (t89,(i64.wrap (s_6.2.1+(1:Int))),()) w23)
            (I7 (s_6.1,(i64.wrap (s_6.2.1+(1:Int))),()) w21)) fun J8 =>
          ldI .i64 ((⟨b,0,none⟩:Addr).add 12) w20 fun t78 =>
          cond (decide (t75>=t78))
           (
           ldI .i64 ((⟨b,0,none⟩:Addr).add 13) w20 fun t83 =>
           J8 ((decide (t75<=t83)),()) w20)
           (J8 (false,()) w20))
         (J2 (s_6.1,()) w20)) (⟨none,0,0⟩,0,()) w19:=by
 simp only [onPtr_some];refine qa8 (x:=some ⟨F.sg,0,none⟩) (h.blk.cells 1 _ rfl) ?_;refine zah h.st h.ok hn fun q w1 hq hB1=>?_;obtain ⟨L,hL⟩:∃L,E.S.L.map (·.1)=L:=⟨_,rfl⟩;have hr:qjb E.S k=L.filter fun id=>decide (id>=k.X) && decide (id<=k.Y):=by unfold qjb;rw [hL]
 rw [hL] at hq;rw [hr] at hJ;have hl:q.n=L.length:=hq.rd.n;have hLn:L.length<=n:=by rw [<-hL,length_map];exact h.ok.len
 have z1:=hB1.size;refine lpR (fun (st:Slc×Int×Unit) w2=>∃i:Nat,st.2.1=(i:Int)/\i<=L.length/\Below w.heap.size w w2/\w1.heap.size<=w2.heap.size/\Go.Vc.Own E_int w2 w.heap.size q L/\(∀j,q.blk=some j->j<w1.heap.size)/\Go.Vc.Own E_int w2 w1.heap.size st.1 ((L.take i).filter fun id=>decide (id>=k.X) && decide (id<=k.Y))) (fun st=>L.length-st.2.1.toNat)
  ⟨0,rfl,zero_le _,hB1,le_refl _,hq,fun j hj=>(hq.lt j hj).2,Go.Vc.Own.nil _ _ _⟩ ?_
 rintro ⟨s,i,u⟩ w2 ⟨m,hi,hm,B2,z2,hq2,hqlt,hs2⟩ I hI;dsimp only at hi hs2 ⊢;subst hi;refine cO (fun e=>?_) fun e=>?_
 ·have e:=oTq e;have hlt:m<L.length:=by omega
  obtain ⟨x,hx⟩:∃x,L[m]?=some x:=⟨_,List.getElem?_eq_getElem hlt⟩;have tk:L.take (m+1)=L.take m++[x]:=by rw [take_add_one,hx];rfl
  have hk2:=hk.below B2 hk.lt;refine hq2.rd.ix (E:=E_int) (i:=(m:Int)) rfl (by omega) (by omega) fun hc=>?_;have e1:L[(m:Int).toNat]'(by omega)=x:=(List.getElem?_eq_some_iff.1 (by simpa using hx)).2;rw [e1] at hc;refine lI (x:=x) (by simpa using hc 0 _ rfl) ?_;rw [w64i (x:=(m:Int)+1) (by omega)];have hfl:((L.take m).filter fun id=>decide (id>=k.X) && decide (id<=k.Y)).length<=1000:=by
   have:=length_filter_le (fun id=>decide (id>=k.X) && decide (id<=k.Y)) (L.take m);rw [length_take] at this;omega
  refine jpO fun J hJ8=>?_;have j8:J ((decide (x>=k.X) && decide (x<=k.Y)),()) w2:=by
   refine hJ8 _ _ ?_;refine cO (fun hf=>?_) fun hf=>?_
   ·dsimp only at hf;refine qjg (E:=E_int) qhn hs2 (y:=x) rfl z2 (by rw [qjv];omega) (by unfold maxLen;omega) fun r w3 ho hc3 hr3=>?_;have nlt:∀j,s.blk=some j->w1.heap.size<=j:=fun j hj=>(hs2.lt j hj).1;have z3:=hc3.size;refine hI _ _ ⟨m+1,by simp,by omega,B2.trans (hc3.below (by omega) fun j hj e=>by have:=nlt j e;omega),by omega,hq2.chg hc3 (fun j hj e=>by have:=nlt j e;have:=hqlt j hj;omega),hqlt,?_⟩ (by dsimp only;omega);have e9:List.filter (fun id=>decide (id>=k.X) && decide (id<=k.Y)) [x]=[x]:=by simp only [List.filter,hf]
    rw [tk,List.filter_append,e9];exact ho
   ·dsimp only at hf;refine hI _ _ ⟨m+1,by simp,by omega,B2,z2,hq2,hqlt,?_⟩ (by dsimp only;omega);have e9:List.filter (fun id=>decide (id>=k.X) && decide (id<=k.Y)) [x]=[]:=by simp only [List.filter,hf]
    rw [tk,List.filter_append,e9,List.append_nil];exact hs2
  refine lI (x:=k.X) (hk2.cells 12 _ rfl) (cO (fun e1=>?_) fun e1=>?_)
  ·rw [e1,Bool.true_and] at j8;exact lI (x:=k.Y) (hk2.cells 13 _ rfl) j8
  ·rw [e1,Bool.false_and] at j8;exact j8
 ·have e:=oFq e;have hml:m=L.length:=by omega
  subst hml;rw [take_length] at hs2;exact hJ s w2 B2 (hs2.base z1)
theorem zb9 (h:EngM w base g F E n) (hn:n<=900) (k:qaa) (v:qac) {K:World->Prop} (hK:∀F' w',EngT base g w F F' (qfc E k v) n w'->K w'):qhb (some ⟨g,0,none⟩) k v w K:=by
 refine qtc _ _ _ ?_;unfold qlk;refine nwb fun w1 hk1 hB1 hs1=>nwb fun w2 hv2 hB2 hs2=>?_;have hk2:=hk1.ext hB2;have B2:=qak hB1 hB2;have z1:=hB1.size;have z2:=hB2.size;have gl:=h.blk.lt;have nE:∀{b:Nat},w.heap.size<=b->¬engS g F b:=fun hb hk=>by have:=(h.below _ hk).2;omega
 have nLS:∀{b:Nat},w.heap.size<=b->¬F.LS b:=fun hb hk=>nE hb (.inr (.inr (.inr hk)));refine lI (x:=k.What) (hk2.cells 3 _ rfl) (lI (x:=k.Id) (hk2.cells 8 _ rfl) (lI (x:=k.Place) (hk2.cells 10 _ rfl) (lI (x:=k.X) (hk2.cells 12 _ rfl) (lI (x:=k.Y) (hk2.cells 13 _ rfl) (lI (x:=k.Z) (hk2.cells 20 _ rfl) ?_)))));refine qdd (vs:=qbi.rep.cells (askK k k.Id)) rfl fun w4 ha4 hB4 hs4=>?_;have hk4:=hk2.ext hB4;have hv4:=hv2.ext hB4;have B4:=qak B2 hB4;have z4:=hB4.size;unfold qfc at hK;refine jpO fun J1 hJ1=>?_;have j1:J1 (capK k,()) w4:=by
  refine hJ1 _ _ ?_;refine jpO fun J2 hJ2=>?_;have j2:∀(wx:World) (ids:Slc) (L:List Int) (im:Int) (b:Nat),EngT base g w F F E n wx->Blk wx w1.heap.size qbe (qac.rep.cells v)->Blk wx w2.heap.size qhe (qbi.rep.cells (askK k im)) ->
    w.heap.size<=b->b<=wx.heap.size->Go.Vc.Own E_int wx b ids L->L.length<=2000->idsK E k=some (L,im)->J2 (ids,()) wx:=by
   intro wx ids L im b hx hvx hax hb hbx ho hLl hid;have hK:∀F' w',EngT base g w F F' (goneK E k v L im) n w'->K w':=by
    rw [hid] at hK;exact hK
   refine hJ2 _ _ ?_;simp only [onPtr_some];have hxd:=hx.ext (qb3 wx);refine qa8 (x:=some ⟨F.tg,0,none⟩) (hxd.m.blk.cells 2 _ rfl) ?_;refine qal (r:=qbi.rep) (x:=askK k im) hax.drew.cells ?_;refine qal (r:=qay.rep) (x:=v.View) (hvx.drew.sub 0 _ rfl) ?_;refine q8y hxd.m.tb (by have:=h.tl;omega) (le_trans hxd.m.hg (Nat.le_of_lt hxd.m.blk.lt)) _ _ fun r q' w7 hr ht hq hne hc7=>?_;have h7:=EngT.tab hxd.m ht hq hc7 (le_trans (length_filter_le _ _) h.tl);have e0:wx.drew.heap.size=wx.heap.size:=rfl;have hfr:=zge hxd.m hr hne;have hE7:=hxd.trans h7;have hDl:=le_trans (length_filter_le (fun p=>qel (askK k im) p v.View) E.T) h.tl;unfold goneK at hK;generalize hD:E.T.filter (fun p=>qel (askK k im) p v.View)=D at *;generalize hE1:({ E with T:=E.T.filter fun p=>!qel (askK k im) p v.View }:KE)=E1 at *;have ho7:Go.Vc.Own E_int w7 b ids L:=ho.drew.chg hc7 fun j hj e=>by
    have:=(ho.lt j hj).1;have:=h.tb.blk.lt;omega
   have z7:=hc7.size;have rl:r.n=D.length:=hr.rd.n;refine lpR (fun (st:Slc×Int×Unit) w8=>∃m:Nat,st.2.1=(m:Int)/\m<=D.length/\EngT base g w F { F with q:=q' } E1 n w8/\Go.Vc.Own E_int w8 b st.1 (L++(D.take m).map (·.Image))/\Go.Vc.Own qa7 w8 wx.drew.heap.size r D/\w7.heap.size<=w8.heap.size) (fun st=>D.length-st.2.1.toNat)
    ⟨0,rfl,zero_le _,hE7,by simpa using ho7,hr,le_refl _⟩ ?_
   rintro ⟨s,i,u⟩ w8 ⟨m,hi,hm,h8,ho8,hr8,z8⟩ I hI;dsimp only at hi ho8 ⊢;subst hi;refine cO (fun e=>?_) fun e=>?_
   ·have e:=oTq e;have hlt:m<D.length:=by omega
    obtain ⟨p,hp⟩:∃p,D[m]?=some p:=⟨_,List.getElem?_eq_getElem hlt⟩;have tk:(D.take (m+1)).map (·.Image)=(D.take m).map (·.Image)++[p.Image]:=by rw [take_add_one,hp,List.map_append];rfl
    refine hr8.rd.ix (E:=qa7) (i:=(m:Int)) rfl (by omega) (by omega) fun hx=>?_;have hx:qao w8 (r.at_ qa7.k (m:Int).toNat) (qag.rep.cells p):=by
     simp only [Int.toNat_natCast] at hx ⊢;have e1:D[m]'hlt=p:=(List.getElem?_eq_some_iff.1 hp).2;rw [e1] at hx;exact hx
    refine qal (r:=qag.rep) (x:=p) hx ?_;refine qdd (vs:=qag.rep.cells p) rfl fun w9 hb9 hB9 hs9=>?_;refine lI (x:=p.Image) (hb9.cells 0 _ rfl) ?_;have ho9:=ho8.ext hB9;have hml:((D.take m).map (·.Image)).length<=1000:=by rw [length_map,length_take];omega
    refine qjg (E:=E_int) qhn ho9 (y:=p.Image) rfl (by omega) (by rw [qjv,length_append];omega) (by unfold maxLen;rw [length_append];omega) fun t w10 ho10 hc10 ht10=>?_;rw [w64i (x:=(m:Int)+1) (by omega)];have z10:=hc10.size;refine hI _ _ ⟨m+1,by simp,by omega,?_,?_,?_,by omega⟩ (by dsimp only;omega)
    ·exact (h8.ext hB9).far hc10 (fun j hj=>⟨by obtain ⟨cs,hcs⟩:=ho9.blk_t hj;exact ⟨_,cs,hcs,by decide⟩,nLS (by have:=(ho9.lt j hj).1;omega)⟩) fun j hj=>by have:=(ho9.lt j hj).1;omega
    ·rw [tk,<-List.append_assoc];exact ho10
    ·exact (hr8.ext hB9).chg hc10 fun j hj e=>by
      obtain ⟨cs,hcs⟩:=ho9.blk_t e;exact qpe (hr8.ext hB9) hcs (by decide) j hj rfl
   ·have e:=oFq e;have hml:m=D.length:=by omega
    subst hml;rw [take_length] at ho8;refine cO (fun hc=>?_) fun hc=>?_
    ·rw [hc] at hK;simp only [if_true] at hK;refine zdj h8.m (by omega) ho8.rd (fun a ha hs=>?_) zei fun w9 h9=>hK _ w9 (h8.trans h9);have:=(ho8.lt a.block (slk.2 ⟨a,ha,rfl⟩)).1;exact nE (by omega) (.inr (.inl hs))
    ·rw [hc] at hK;simp only [Bool.false_eq_true,if_false] at hK;exact hK _ w8 h8
  have h4:=EngT.of_ext h B4;have ha4l:=ha4.lt;refine lI (x:=k.What) (hk4.cells 3 _ rfl) ?_;refine jpO fun J4 hJ4=>?_;have j4:∀(wx:World) (im:Int),EngT base g w F F E n wx->Blk wx w1.heap.size qbe (qac.rep.cells v)->Blk wx w2.heap.size qhe (qbi.rep.cells (askK k im))->idsK E k=some ([im],im)->J4 () wx:=by
   intro wx im hx hvx hax hid;refine hJ4 _ _ (lI (x:=im) (hax.cells 1 _ rfl) ?_);have zx:=hx.chg.size;refine qjg (E:=E_int) qhn (Go.Vc.Own.nil E_int wx wx.heap.size) (y:=im) rfl (le_refl _) (by rw [qjv];simp) (by unfold maxLen;simp) fun t w5 ho5 hc5 ht5=>?_;have hBf:Below wx.heap.size wx w5:=hc5.below (le_refl _) fun j hj e=>by cases e
   exact j2 w5 t [im] im wx.heap.size (hx.ext hBf) (hvx.ext hBf) (hax.ext hBf) zx hBf.size ho5 (by simp) hid
  have hnil:idsK E k=some ([],k.Id)->J2 ((⟨none,0,0⟩:Slc),()) w4:=fun hid=>j2 w4 _ [] k.Id w.heap.size h4 hv4 ha4 (le_refl _) B4.size (Go.Vc.Own.nil _ _ _) (by simp) hid;refine jpO fun J5 hJ5=>?_;have j5:k.What≠110->k.What≠78->J5 () w4:=by
   intro n1 n2;refine hJ5 _ _ (jpO fun J6 hJ6=>?_);have j6:k.What≠105->k.What≠73->J6 () w4:=by
    intro n3 n4;refine hJ6 _ _ ?_;have lp:(k.What=114\/k.What=82)->∀s w',Below w4.heap.size w4 w'->Go.Vc.Own E_int w' w4.heap.size s (qjb E.S k)->J2 (s,()) w':=by
     intro hw s w5 hB5 ho5;have hid:idsK E k=some (qjb E.S k,k.Id):=by
      unfold idsK;rw [if_neg (by omega),if_neg (by omega),if_pos hw]
     have hrl:(qjb E.S k).length<=2000:=by
      have:=length_filter_le (fun id=>decide (id>=k.X) && decide (id<=k.Y)) (E.S.L.map (·.1));rw [length_map] at this;have:=h.ok.len;unfold qjb;omega
     exact j2 w5 s _ k.Id w4.heap.size (h4.ext hB5) (hv4.ext hB5) (ha4.ext hB5) B4.size hB5.size ho5 hrl hid
    refine cO (fun e=>?_) fun e=>?_
    ·refine cT e ?_;exact za6 h4.m (by omega) hk4 (lp (.inl (eq_of_beq e)))
    ·have n5:=beq_eq_false_iff_ne.1 e;refine cO (fun e=>?_) fun e=>?_
     ·exact za6 h4.m (by omega) hk4 (lp (.inr (eq_of_beq e)))
     ·have n6:=beq_eq_false_iff_ne.1 e;refine hnil ?_;unfold idsK;rw [if_neg (by omega),if_neg (by omega),if_neg (by omega)]
   have k4:(k.What=105\/k.What=73)->J4 () w4:=fun hw=>j4 w4 k.Id h4 hv4 ha4 (by
    unfold idsK;rw [if_neg (by omega),if_pos hw])
   refine cO (fun e=>?_) fun e=>?_
   ·exact cT e (k4 (.inl (eq_of_beq e)))
   ·have n3:=beq_eq_false_iff_ne.1 e;refine cO (fun e=>?_) fun e=>?_
    ·exact k4 (.inr (eq_of_beq e))
    ·exact j6 n3 (beq_eq_false_iff_ne.1 e)
  have num:(k.What=110\/k.What=78)->∀(b:Int) (ok:Bool) (w5:World),qj9 E.S.L k.Number b ok->Below w4.drew.heap.size w4.drew w5->cond (!ok) (K w5) (stK ((⟨w2.heap.size,0,none⟩:Addr).add 1) [(.int .i64 b)] w5 fun w30=>J4 () w30):=by
   intro hw b ok w5 hN hB5;have hne:=zc9 h.ok hN;have B45:Below w4.heap.size w4 w5:=qak (qb3 w4) hB5;have h5:=h4.ext B45;cases ok
   ·have hid:idsK E k=none:=by
     unfold idsK;rw [if_pos hw,hne];rfl
    rw [hid] at hK;exact cT rfl (hK F w5 h5)
   ·have hid:idsK E k=some ([b],b):=by
     unfold idsK;rw [if_pos hw,hne];rfl
    refine cF rfl ?_;have ha5:=ha4.ext B45;have hv5:=hv4.ext B45;show stK ⟨w2.heap.size,1,none⟩ _ _ _;refine qaj ha5 (by show (1+1:Nat)<=6;omega) fun w6 ha6 hg6 hs6=>?_;have hc6:Chg (fun i=>i=w2.heap.size) w5 w6:=Chg.of_grown hg6 fun k hk=>by cases hk;rfl
    have lv5:=hv4.lt;refine j4 w6 b (h5.other ha5 (by decide) (nLS (by omega)) (by omega) hc6) (hv5.chg hc6 fun e=>by have:=hv2.lt;omega) ha6 hid
  simp only [onPtr_some];refine cO (fun e=>?_) fun e=>?_
  ·refine cT e ?_;refine qa8 (x:=some ⟨F.sg,0,none⟩) (h4.m.drew.blk.cells 1 _ rfl) (lI (x:=k.Number) (hk4.drew.cells 9 _ rfl) ?_);exact qvj h4.m.drew.st h.ok k.Number fun b ok w5 hN hB5=>num (.inl (eq_of_beq e)) b ok w5 hN hB5
  ·have n1:=beq_eq_false_iff_ne.1 e;refine cO (fun e=>?_) fun e=>?_
   ·refine qa8 (x:=some ⟨F.sg,0,none⟩) (h4.m.drew.blk.cells 1 _ rfl) (lI (x:=k.Number) (hk4.drew.cells 9 _ rfl) ?_);exact qvj h4.m.drew.st h.ok k.Number fun b ok w5 hN hB5=>num (.inr (eq_of_beq e)) b ok w5 hN hB5
   ·exact j5 n1 (beq_eq_false_iff_ne.1 e)
 unfold capK at j1;refine lI (x:=k.What) (hk4.cells 3 _ rfl) (cO (fun e1=>?_) fun e1=>?_)
 ·rw [e1,Bool.true_and] at j1;exact lI (x:=k.What) (hk4.cells 3 _ rfl) j1
 ·rw [e1,Bool.false_and] at j1;exact j1
end
def Sml (L:List Int):Prop:=∀x∈L,-4294967296<=x/\x<=4294967295
theorem Sml.set {L:List Int} (h:Sml L) (j:Nat) {x:Int} (hx:-4294967296<=x/\x<=4294967295):Sml (L.set j x):=fun y hy=>by
 rcases List.mem_or_eq_of_mem_set hy with h1 | rfl
 ·exact h y h1
 ·exact hx
theorem zj5 {v:List UInt8} {n:Nat} (h:readN v=some n):n<=4294967295:=by
 unfold readN at h;split at h
 ·cases h
 ·obtain ⟨m,_,h2⟩:=Option.bind_eq_some_iff.1 h;split at h2
  ·cases h2;assumption
  ·cases h2
theorem zg2 {v:List UInt8} {m:Int} (h:qqd v=some m):-4294967296<=m/\m<=4294967295:=by
 have key:∀x:Int,near x=true->-4294967296<=x/\x<=4294967295:=fun x hx=>by
  unfold near at hx;simp only [Bool.and_eq_true,decide_eq_true_eq] at hx;omega
 unfold qqd at h;split at h
 all_goals
  obtain ⟨n,_,h2⟩:=Option.bind_eq_some_iff.1 h;split at h2
  ·rename_i hnear;injection h2 with h2
   rw [<-h2];exact key _ hnear
  ·cases h2
theorem zjz {k k':List Int} {s:List UInt8} (hk:Sml k/\k.length=22) (h:oneL k s=some k'):Sml k'/\k'.length=22:=by
 have st:∀(j:Nat) {x:Int},(-4294967296<=x/\x<=4294967295)->Sml (k.set j x)/\(k.set j x).length=22:=fun j x hx=>⟨hk.1.set j hx,by rw [List.length_set];exact hk.2⟩;unfold oneL at h;split at h
 ·split at h
  ·cases h
  ·split at h
   ·obtain ⟨m,hm,rfl⟩:=Option.map_eq_some_iff.1 h;exact st _ (zg2 hm)
   ·split at h
    ·rename_i j _;unfold sgnL at h;split at h
     ·rename_i b;split at h
      ·cases h;have:=b.toNat_lt;exact st _ (by omega)
      ·cases h
     ·cases h
    ·split at h
     ·obtain ⟨m,hm,rfl⟩:=Option.map_eq_some_iff.1 h;obtain ⟨a,ha,hb⟩:=Option.bind_eq_some_iff.1 hm;have:=zj5 ha;injection hb with hb
      exact st _ (by omega)
     ·cases h;exact hk
 ·cases h
theorem q9f:∀(l:List (List UInt8)) (k k':List Int),(Sml k/\k.length=22)->l.foldlM oneL k=some k'->Sml k'/\k'.length=22
 | [],k,k',hk,h=>by
  cases h;exact hk
 | s::l,k,k',hk,h=>by
  rw [List.foldlM_cons] at h;obtain ⟨k1,h1,h2⟩:=Option.bind_eq_some_iff.1 h;exact q9f l k1 k' (zjz hk h1) h2
theorem q7p:Sml qc2/\qc2.length=22:=by
 refine ⟨?_,rfl⟩;intro x hx;simp [qc2] at hx;omega
theorem zha (b:List UInt8):Sml (qdk b).1/\(qdk b).1.length=22:=by
 have hz:Sml zeroL/\zeroL.length=22:=by
  refine ⟨fun x hx=>?_,rfl⟩;unfold zeroL at hx;have:=List.eq_of_mem_replicate hx;omega
 unfold qdk;split
 ·exact hz
 ·split
  ·exact q7p
  ·split
   ·rename_i k hk;exact q9f _ _ _ q7p hk
   ·exact hz
theorem q5f (b:List UInt8):Wide (toL (ofL (qdk b).1)):=by
 obtain ⟨h1,h2⟩:=zha b;rw [zij h2];intro i;cases hx:(qdk b).1[i]? with
 | none=>simp
 | some x =>
  have:=h1 x (List.mem_of_getElem? hx);simp only [getD_some];omega
noncomputable def goK (E:KE) (k:qaa) (ts:List UInt8) (P:Slc) (v:qac):KE×KR :=
 if k.Action=116\/k.Action=84\/k.Action=113 then qlu E k ts P v
 else if k.Action=112 then showK E k v
 else if k.Action=100 then (qfc E k v,kr0)
 else (E,toldR k 1 [])
noncomputable def cmdK (E:KE) (k:qaa) (ts:List UInt8) (P:Slc) (v:qac):KE×KR:=match E.ld with
 | some (C,s)=>if k.Action≠100 then moreK E C s k ts P v else goK E.idle k ts P v
 | none=>goK E k ts P v
noncomputable def doK (E:KE) (c:List UInt8) (P:Slc) (v:qac):KE×KR:=match c with
 | []=>(E,kr0)
 | b::r=>if b≠71 then (E,kr0) else if (qdk (headB 59 r)).2≠0 then (E,kr0) else cmdK E (ofL (qdk (headB 59 r)).1) (tailB 59 r) P v
section
variable {w w':World} {base g n:Nat} {F F':KF} {E E':KE}
theorem zle {s:Slc} {b:UInt8} {r:List UInt8} (h:Rd qae w s (b::r)) {a:Addr} (ha:s.a=some a):a.spot=none:=by
 have h1:=h.at_ 0 b rfl 0 (.int .u8 (b.toNat:Int)) rfl;have e:((s.at_ qae.k 0).add 0).spot=a.spot:=by
  unfold Slc.at_;rw [ha];rfl
 cases hs:a.spot with
 | none=>rfl
 | some x =>
  exfalso;unfold World.cell? at h1;rw [e,hs] at h1;split at h1
  ·cases h1
  ·cases h1
theorem q13 (h:EngM w base g F E n) (hn:n<=900) (hT:Tab w) (h4:4<=base) (hq:E.quota<=100000) {c:Slc} {bs:List UInt8} (hbs:bs.length<=40000) (hc:Rd qae w c bs)
  (hld:∀C s,E.ld=some (C,s)->s.over=false/\potL s+3*bs.length<=120000/\Wide (toL E.first)) (v:qac) {K:qad->World->Prop}
  (hK:∀P r F' w',ResM w' r (doK E bs P v).2->EngT base g w F F' (doK E bs P v).1 (n+2) w'->(∀j,r.Reply.blk=some j->w.heap.size<=j/\¬engS g F' j)->K r w'):qcg (some ⟨g,0,none⟩) c v w K:=by
 refine qyn _ _ _ ?_;unfold qqf;refine nwb fun w1 hv1 hB1 hs1=>nwb fun w2 ht2 hB2 hs2=>?_;have B2:=qak hB1 hB2;have hv2:=hv1.ext hB2;have z1:=hB1.size;have z2:=hB2.size;have lt2:=ht2.lt;have lv2:=hv2.lt;have nE:∀{b:Nat},w.heap.size<=b->¬engS g F b:=fun hb hk=>by have:=(h.below _ hk).2;omega
 have nLS:∀{b:Nat},w.heap.size<=b->¬F.LS b:=fun hb hk=>nE hb (.inr (.inr (.inr hk)));have tys:tyFar qai:=by decide
 have fin:∀(P:Slc) (r:qad) (R:KR) (F':KF) (E':KE) (wz:World) (vs:List Value),vs.length=4->Blk wz w1.heap.size qai vs->EngT base g w F F' E' (n+2) wz->ResM wz r R->¬F'.LS w1.heap.size ->
   (∀j,r.Reply.blk=some j->w1.heap.size<j/\¬engS g F' j)->doK E bs P v=(E',R)->stK ⟨w1.heap.size,0,none⟩ (qad.rep.cells r) wz fun w12=>ldS qad.rep ⟨w1.heap.size,0,none⟩ w12 fun r_1=>K r_1 w12:=by
  intro P r R F' E' wz vs hvs hb hE hr hls hf hd;refine qbk (r:=qad.rep) (x:=r) hb rfl (by rw [hvs];rfl) fun w9 hc9 hs9=>?_;refine hK P r F' w9 ?_ ?_ fun j hj=>⟨by have:=(hf j hj).1;omega,(hf j hj).2⟩
  ·rw [hd];exact ⟨hr.1.chg hc9 fun a ha e=>by have:=(hf a.block (slk.2 ⟨a,ha,rfl⟩)).1;omega,hr.2⟩
  ·rw [hd];exact hE.other hb tys hls (by omega) hc9
 have no:∀(wz:World) (vs:List Value),vs.length=4->Blk wz w1.heap.size qai vs->EngT base g w F F E (n+2) wz->(∀P,doK E bs P v=(E,kr0))->stK ⟨w1.heap.size,0,none⟩ [(.slice none 0 0),(.int .i64 0),(.int .i64 0),(.bool false)] wz fun w12=>ldS qad.rep ⟨w1.heap.size,0,none⟩ w12 fun r_1=>K r_1 w12:=by
  intro wz vs hvs hb hE hd;exact fin ⟨none,0,0⟩ ⟨⟨none,0,0⟩,0,0,false⟩ kr0 F E wz vs hvs hb hE (ResM.nil _) (nLS (by omega)) (fun j hj=>by cases hj) (hd _)
 have hcn:=hc.n;have hc2:=hc.ext B2;have h2:EngT base g w F F E (n+2) w2:=(EngT.of_ext h B2).up (by omega);refine jpO fun J1 hJ1=>?_;cases bs with
 | nil =>
  refine cT (by rw [hcn];rfl) ?_;exact no w2 _ rfl ht2 h2 fun P=>rfl
 | cons b r =>
  rw [length_cons] at hcn hbs;refine cF (by rw [hcn];simp;omega) ?_;refine hc2.ix (E:=qae) (i:=0) rfl (by decide) (by simp) fun hcell=>?_;refine lI (x:=(b.toNat:Int)) (by simpa using hcell 0 _ rfl) ?_;by_cases hb:b=71
  ·subst hb;refine cF rfl (hJ1 _ _ ?_);refine hc2.slK (E:=qae) (k:=1) (l:=1) (m:=r.length+1) rfl (.inr rfl) (.inl ⟨rfl,by rw [length_cons]⟩) (by omega) (by rw [length_cons];omega) fun hc3=>?_;have er:((71::r).take (r.length+1)).drop 1=r:=by simp
   rw [er] at hc3;obtain ⟨a,ha⟩:∃a,c.a=some a:=Option.isSome_iff_exists.1 (hc.some_ (by simp));have hsp:=zle hc ha;have hca3:∃o,cut c.a 1 c.c qae.k=some ⟨a.block,o,none⟩:=by
    rw [ha];obtain ⟨ab,ao,asp⟩:=a;dsimp only at hsp;subst hsp;unfold cut;split
    ·exact ⟨_,rfl⟩
    ·exact ⟨_,rfl⟩
   obtain ⟨o,ho⟩:=hca3;refine zca hc3 (g:=a.block) (o:=o) ho (by omega) fun p q w4 hB4 hp hq4 hpf hqf=>?_;refine zfl hp fun w5 hB5=>?_;have hwk:=q5f (headB 59 r);have hdo:∀P,doK E (71::r) P v=if (qdk (headB 59 r)).2≠0 then (E,kr0) else cmdK E (ofL (qdk (headB 59 r)).1) (tailB 59 r) P v:=fun P=>by
    unfold doK;dsimp only;rw [if_neg (by decide)]
   have htl:=q1e 59 r;have hts:(tailB 59 r).length<=40000:=by omega
   generalize ofL (qdk (headB 59 r)).1=k at *;generalize (qdk (headB 59 r)).2=x at *;generalize tailB 59 r=ts at *;refine qdd (vs:=qaa.rep.cells k) rfl fun w7 hk7 hB7 hs7=>?_;have B27:Below w2.heap.size w2 w7:=qch hB4 hB5 hB7;have B7:=qak B2 B27;have hv7:=hv2.ext B27;have ht7:=ht2.ext B27;have h7:=EngT.of_ext h B7;have hq7:=(hq4.ext hB5).ext hB7;have z4:=hB4.size;have z5:=hB5.size;have z7:=hB7.size;have z27:=B27.size;have lk7:=hk7.lt;refine cO (fun e=>?_) fun e=>?_
   ·exact no w7 _ rfl ht7 (h7.up (by omega)) fun P=>by rw [hdo,if_pos (bne_iff_ne.1 e)]
   have hx0:x=0:=by simpa using e
   subst hx0;have hdo:∀P,doK E (71::r) P v=cmdK E k ts P v:=fun P=>by rw [hdo,if_neg (by decide)]
   refine jpO fun J2 hJ2=>?_;have qe:∀j,q.blk=some j->¬engS g F j:=fun j hj=>nE (by have:=hqf j hj;omega);have j2:∀(wz:World) (F1:KF) (E1:KE),E1.ld=none->E1.quota=E.quota->EngT base g w F F1 E1 n wz->w7.heap.size<=wz.heap.size->Blk wz w.heap.size qbe (qac.rep.cells v)->Blk wz w1.heap.size qai [(.slice none 0 0),(.int .i64 0),(.int .i64 0),(.bool false)] ->
     Blk wz w5.heap.size qax (qaa.rep.cells k)->Rd qae wz q ts->(∀j,q.blk=some j->ts≠[]->¬engS g F1 j)->(∀P,doK E (71::r) P v=goK E1 k ts P v)->J2 () wz:=by
    intro wz F1 E1 hl1 hq1 h1 zz hvz htz hkz hqz hqe hd;refine hJ2 _ _ ?_;have hTz:=hT.stepK h h4 h1;have nl1:∀j,¬F1.LS j:=h1.m.nl hl1;have nF:∀{F2:KF} {E2:KE} {w2':World},EngT base g wz F1 F2 E2 (n+2) w2'->¬F2.LS w1.heap.size:=fun hT hs=>by
     rcases hT.ls _ hs with h3 | h3
     ·exact nl1 _ h3
     ·omega
    have keep:∀{F2:KF} {E2:KE} {w2':World} {m:Nat},EngT base g wz F1 F2 E2 m w2'->Blk w2' w1.heap.size qai [(.slice none 0 0),(.int .i64 0),(.int .i64 0),(.bool false)]:=fun hT=>htz.chg hT.chg (h1.m.not_in htz tys (nl1 _));refine jpO fun J3 hJ3=>?_;have j3:k.Action≠116->k.Action≠84->k.Action≠113->k.Action≠112->k.Action≠100->J3 () wz:=by
     intro n1 n2 n3 n4 n5;refine hJ3 _ _ (qal (r:=qaa.rep) (x:=k) hkz.cells ?_);refine qfx hTz hwk 1 [] (by simp) fun q2 w10 hq2 hB10 hqb2=>?_;have ht10:=htz.ext hB10;have lz:=htz.lt;refine fin ⟨none,0,0⟩ ⟨q2,0,0,false⟩ (toldR k 1 []) F1 E1 w10 _ rfl ht10 ((h1.ext hB10).up (by omega)) ⟨hq2,rfl,rfl,rfl⟩ (nl1 _) (fun j hj=>⟨by have:=hqb2 j hj;omega,fun hs=>by have:=(h1.m.below _ hs).2;have:=hqb2 j hj;omega⟩) ?_;rw [hd];unfold goK;rw [if_neg (by omega),if_neg (by omega),if_neg (by omega)]
    refine lI (x:=k.Action) (hkz.cells 0 _ rfl) ?_;refine jpO fun J4 hJ4=>?_;have j4:(k.Action=116\/k.Action=84\/k.Action=113)->J4 () wz:=by
     intro hw;refine hJ4 _ _ (qal (r:=qaa.rep) (x:=k) hkz.cells (qal (r:=qac.rep) (x:=v) hvz.cells ?_));refine zez h1.m hn hTz h4 hl1 (by omega) hts hqz (fun j hj hne=>hqe j hj hne) hwk v fun P r2 F9 w9 hr9 h9 hrb=>?_;have lz:=htz.lt;refine fin P r2 _ F9 _ w9 _ rfl (keep h9) (h1.trans h9) hr9 (nF h9) (fun j hj=>⟨by have:=(hrb j hj).1;omega,(hrb j hj).2⟩) ?_;rw [hd];unfold goK;rw [if_pos hw]
    refine cO (fun e=>j4 (.inl (eq_of_beq e))) fun e=>?_;have n1:=beq_eq_false_iff_ne.1 e;refine cO (fun e=>j4 (.inr (.inl (eq_of_beq e)))) fun e=>?_;have n2:=beq_eq_false_iff_ne.1 e;refine cO (fun e=>j4 (.inr (.inr (eq_of_beq e)))) fun e=>?_;have n3:=beq_eq_false_iff_ne.1 e;refine cO (fun e=>?_) fun e=>?_
    ·have hp2:=eq_of_beq e;refine qal (r:=qaa.rep) (x:=k) hkz.cells (qal (r:=qac.rep) (x:=v) hvz.cells ?_);refine zf6 h1.m hn hTz h4 hwk v fun r2 F9 w9 hr9 h9 hrb=>?_;have lz:=htz.lt;refine fin ⟨none,0,0⟩ r2 _ F9 _ w9 _ rfl (keep h9) (h1.trans h9) hr9 (nF h9) (fun j hj=>⟨by have:=(hrb j hj).1;omega,(hrb j hj).2⟩) ?_;rw [hd];unfold goK;rw [if_neg (by omega),if_pos hp2]
    have n4:=beq_eq_false_iff_ne.1 e;refine cO (fun e=>?_) fun e=>j3 n1 n2 n3 n4 (beq_eq_false_iff_ne.1 e);have hp2:=eq_of_beq e;refine qal (r:=qaa.rep) (x:=k) hkz.cells (qal (r:=qac.rep) (x:=v) hvz.cells ?_);refine zb9 h1.m hn k v fun F9 w9 h9=>?_;have h9':=h9.up (m:=n+2) (by omega);refine fin ⟨none,0,0⟩ ⟨⟨none,0,0⟩,0,0,false⟩ kr0 F9 _ w9 _ rfl (keep h9) (h1.trans h9') (ResM.nil _) (nF h9') (fun j hj=>by cases hj) ?_;rw [hd];unfold goK;rw [if_neg (by omega),if_neg (by omega),if_pos hp2]
   simp only [onPtr_some];have h7m:=h7.m;cases hl:E.ld with
   | none =>
    refine qa8 (x:=none) (by have:=h7m.blk.cells 3 _ rfl;rw [hl] at this;exact this) (cF rfl ?_);refine j2 w7 F E hl rfl h7 (le_refl _) hv7 ht7 hk7 hq7 (fun j hj _=>qe j hj) fun P=>?_;rw [hdo];unfold cmdK;rw [hl]
   | some Cs =>
    obtain ⟨C,s⟩:=Cs;obtain ⟨hov,hpot,hwf⟩:=hld C s hl;refine qa8 (x:=some ⟨F.lg,0,none⟩) (by have:=h7m.blk.cells 3 _ rfl;rw [hl] at this;exact this) (cT rfl ?_);refine lI (x:=k.Action) (hk7.cells 0 _ rfl) ?_;have nt7:¬engS g F w1.heap.size:=nE (by omega);refine cO (fun e=>?_) fun e=>?_
    ·have hac:=bne_iff_ne.1 e;refine qal (r:=qaa.rep) (x:=k) hk7.cells (qal (r:=qac.rep) (x:=v) hv7.cells ?_);refine q69 h7m hn (hT.stepK h h4 h7) h4 hl hov (by rw [length_cons] at hpot;omega) hq7 (fun j hj _ hs=>qe j hj (.inr (.inr (.inr hs)))) hwf hwk v fun P r2 F9 w9 hr9 h9 hrb=>?_;refine fin P r2 _ F9 _ w9 _ rfl (ht7.chg h9.chg nt7) (h7.trans h9) hr9 (fun hs=>?_) (fun j hj=>⟨by have:=(hrb j hj).1;omega,(hrb j hj).2⟩) ?_
     ·rcases h9.ls _ hs with h3 | h3
      ·exact nt7 (.inr (.inr (.inr h3)))
      ·omega
     ·rw [hdo];unfold cmdK;rw [hl];dsimp only;rw [if_pos hac]
    ·have hac:k.Action=100:=by simpa using e
     refine q1j h7m fun F8 w8 h8 hq8 ht8=>?_;have z8:=h8.chg.size;refine j2 w8 F8 E.idle rfl rfl (h7.trans h8) z8 (hv7.chg h8.chg (nE (le_refl _))) (ht7.chg h8.chg nt7) (hk7.chg h8.chg (nE (by omega))) (hq7.chg h8.chg fun a ha hs=>qe a.block (slk.2 ⟨a,ha,rfl⟩) hs) (fun j hj hne hs=>?_) fun P=>?_
     ·rcases h8.old j hs with h3 | h3
      ·exact qe j hj h3
      ·obtain ⟨a2,ha2,rfl⟩:=slk.1 hj;have:=rd_lt hq7 (List.length_pos_iff.2 hne) a2 ha2;omega
     ·rw [hdo];unfold cmdK;rw [hl];dsimp only;rw [if_neg (fun hh=>hh hac)]
  ·refine cT (bne_iff_ne.2 fun hh=>hb (by apply UInt8.toNat_inj.1;show b.toNat=71;omega)) ?_;exact no w2 _ rfl ht2 h2 fun P=>by unfold doK;dsimp only;rw [if_pos hb]
end
section
variable {w w':World} {base g n:Nat} {F F':KF} {E E':KE}
end
def HasI (S:St) (id:Int):Prop:=∃x,(id,x)∈S.L
def Here (T:List Pl) (S:St):Prop:=∀p∈T,HasI S p.Image
theorem q5p (n:Int):∀(f:Nat) (S:St) (G:List Int) (k:Int),k∈G->k∈(S.roomF n f G).2
 | 0,S,G,k,h=>h
 | f+1,S,G,k,h=>by
  unfold St.roomF;split
  ·exact q5p n f _ _ k (List.mem_append_left _ h)
  ·exact h
theorem q8c (n:Int):∀(f:Nat) (S:St) (G:List Int) (k:Int),HasI S k->k ∉ (S.roomF n f G).2->HasI (S.roomF n f G).1 k
 | 0,S,G,k,h,_=>h
 | f+1,S,G,k,h,hk=>by
  unfold St.roomF at hk ⊢;split at hk
  ·rename_i hc;rw [if_pos hc];refine q8c n f _ _ k ?_ hk;obtain ⟨x,hx⟩:=h;refine ⟨x,(qi7 _ _ _).2 ⟨fun e=>?_,hx⟩⟩;exact hk (q5p n f _ _ k (by rw [e];simp))
  ·rename_i hc;rw [if_neg hc];exact h
theorem q9r (S:St) (n:Int) (k:Int) (h:HasI S k) (hk:k ∉ (S.room n).2):HasI (S.room n).1 k:=q8c n _ S [] k h hk
theorem q7y:∀(G:List Int) (T:List Pl) (p:Pl),p∈goneT T G↔p∈T/\p.Image ∉ G
 | [],T,p=>by simp [goneT]
 | i::G,T,p=>by
  have e:goneT T (i::G)=goneT (T.filter fun p=>!(p.Image==i)) G:=rfl;rw [e,q7y G];simp;constructor
  ·rintro ⟨⟨a,b⟩,c⟩;exact ⟨a,b,c⟩
  ·rintro ⟨a,b,c⟩;exact ⟨⟨a,b⟩,c⟩
theorem q75 {T:List Pl} {S S':St} {G:List Int} (h:Here T S) (hk:∀k,HasI S k->k ∉ G->HasI S' k):Here (goneT T G) S':=fun p hp=>by
 obtain ⟨h1,h2⟩:=(q7y G T p).1 hp;exact hk _ (h p h1) h2
def LdOk (B:Nat) (E:KE):Prop:=∀C s,E.ld=some (C,s)->s.over=false/\Wide (toL E.first)/\potL s<=B/\(s.b.length:Int)+E.S.used<=E.quota
structure Inv (B:Nat) (E:KE):Prop where
 here:Here E.T E.S
 q:E.S.quota=E.quota
 ld:LdOk B E
theorem LdOk.none {B:Nat} {E:KE} (h:E.ld=none):LdOk B E:=fun C s e=>by rw [h] at e;cases e
theorem Inv.up {B B':Nat} {E:KE} (h:Inv B E) (hB:B<=B'):Inv B' E:=⟨h.here,h.q,fun C s e=>by obtain ⟨a,b,c,d⟩:=h.ld C s e;exact ⟨a,b,by omega,d⟩⟩
section
variable {B n:Nat} {E:KE} {W H:Int} {bs:List UInt8}
theorem zaw (hq:E.S.quota=E.quota) (h0:0<=E.quota) (hh:heldK E<=1000000) :
  ((heldK E:Int)<=E.quota/\E.reserve 0=({ E with S:=(({ E.S with res:=(heldK E:Int) }:St).room (heldK E)).1,T:=goneT E.T (({ E.S with res:=(heldK E:Int) }:St).room (heldK E)).2 },0))\/(E.quota<(heldK E:Int)/\E.reserve 0=(E,6)):=by
 have e:wi (0+(heldK E:Int))=heldK E:=by
  unfold wi;rw [Int.zero_add];exact i64_in (by omega)
 unfold KE.reserve;rw [if_neg (by omega),if_neg (by omega),e];by_cases hh:(heldK E:Int)<=E.quota
 ·left;refine ⟨hh,?_⟩;have er:E.S.reserve (heldK E:Int)=((({ E.S with res:=(heldK E:Int) }:St).room (heldK E)).1,(({ E.S with res:=(heldK E:Int) }:St).room (heldK E)).2,0):=by
   unfold St.reserve;rw [if_neg (by omega),if_neg (by omega)]
  rw [er]
 ·right;refine ⟨by omega,?_⟩;have er:E.S.reserve (heldK E:Int)=(E.S,[],6):=by
   unfold St.reserve;rw [if_neg (by omega),if_pos (by omega)]
  rw [er];rfl
structure Inv0 (B:Nat) (E:KE):Prop where
 here:Here E.T E.S
 q:E.S.quota=E.quota
 ld:∀C s,E.ld=some (C,s)->s.over=false/\Wide (toL E.first)/\potL s<=B
theorem Inv.inv0 (h:Inv B E):Inv0 B E:=⟨h.here,h.q,fun C s e=>by obtain ⟨a,b,c,d⟩:=h.ld C s e;exact ⟨a,b,c⟩⟩
theorem Inv0.held (h:Inv0 B E) (hB:B<=120000):heldK E<=1000000:=by
 unfold heldK;cases hl:E.ld with
 | none=>simp
 | some x =>
  obtain ⟨C,s⟩:=x;have:=(h.ld C s hl).2.2;unfold potL at this;dsimp only;omega
theorem zcp (h:Inv0 B E) (hB:B<=120000) (h0:0<=E.quota) (hok:StOk n E.S):((heldK E:Int)<=E.quota/\(E.reserve 0).2=0/\Inv B (E.reserve 0).1)\/(E.quota<(heldK E:Int)/\E.reserve 0=(E,6)):=by
 rcases zaw h.q h0 (h.held hB) with ⟨h1,h2⟩ | h2
 ·left;rw [h2];have hq:=h.q;have hok':StOk n ({ E.S with res:=(heldK E:Int) }:St):=qof hok _;have hqq:=(qnc (heldK E:Int) E.S.L.length ({ E.S with res:=(heldK E:Int) }:St) []).1;refine ⟨h1,rfl,⟨q75 h.here fun k hk hn=>q9r _ _ k hk hn,hqq.trans hq,fun C s e=>?_⟩⟩;obtain ⟨a,b,c⟩:=h.ld C s e;refine ⟨a,b,c,?_⟩;have hu:=qyr (n:=(heldK E:Int)) (by omega) E.S.L.length (S:=({ E.S with res:=(heldK E:Int) }:St)) (G:=[]) hok' (by show (heldK E:Int)<=E.S.quota;omega) (le_refl _);have hu:(({ E.S with res:=(heldK E:Int) }:St).room (heldK E)).1.used<=E.S.quota-heldK E:=hu;have hhe:heldK E=s.b.length:=by
   unfold heldK;rw [show E.ld=some (C,s) from e]
  show (s.b.length:Int)+(({ E.S with res:=(heldK E:Int) }:St).room (heldK E)).1.used<=E.quota;omega
 ·exact .inr h2
theorem Inv0.idle (h:Inv0 B E):Inv B E.idle:=⟨h.here,h.q,LdOk.none rfl⟩
theorem zbc {S:St} {k:qaa} {id:Int} {v:qac} (h:(qhf S k id v).2=0):(qhf S k id v).1.Image=id:=by
 unfold qhf at h ⊢;split
 ·rename_i h1;rw [if_pos h1] at h;cases h
 ·rename_i h1;rw [if_neg h1] at h;split
  ·rename_i h2;rw [if_pos h2] at h;cases h
  ·rfl
theorem q2y (k:qaa) {id:Int} (v:qac) (h:Here E.T E.S) (hid:HasI E.S id):Here (qce E k id v).1.T E.S/\(qce E k id v).1.S=E.S/\(qce E k id v).1.ld=E.ld/\(qce E k id v).1.quota=E.quota/\(qce E k id v).1.first=E.first:=by
 unfold qce;split
 ·rename_i hp;split
  ·refine ⟨fun p hp'=>?_,rfl,rfl,rfl,rfl⟩;rcases List.mem_append.1 hp' with h1 | h1
   ·exact h p (List.mem_filter.1 h1).1
   ·rw [List.mem_singleton] at h1;rw [h1,zbc hp];exact hid
  ·exact ⟨h,rfl,rfl,rfl,rfl⟩
 ·exact ⟨h,rfl,rfl,rfl,rfl⟩
theorem zhj (k:qaa) {id:Int} (v:qac) (h:Inv0 B E) (hid:HasI E.S id):Inv0 B (qce E k id v).1:=by
 obtain ⟨h1,h2,h3,h4,h5⟩:=q2y k v h.here hid;refine ⟨by rw [h2];exact h1,by rw [h2,h4];exact h.q,fun C s e=>?_⟩;rw [h3] at e;rw [h5];exact h.ld C s e
theorem zfq {S:St} {id:Int} {m:Nat} {k:Int} (h:HasI S k) (hne:id≠0->k≠id) (hk:k ∉ (S.putPre id m).2):HasI (S.putPre id m).1 k:=by
 refine q9r (pre0 S id) m k ?_ hk;unfold pre0;split
 ·exact h
 ·rename_i h0;obtain ⟨x,hx⟩:=h;exact ⟨x,(qi7 _ _ _).2 ⟨hne h0,hx⟩⟩
theorem zad (S:St) (id:Int) (m:Nat):(S.putPre id m).1.quota=S.quota:=by
 have h:=(qnc (m:Int) (pre0 S id).L.length (pre0 S id) []).1;have e:(pre0 S id).quota=S.quota:=by
  unfold pre0;split<;>rfl
 exact h.trans e
theorem zap {S:St} (hok:StOk n S) {id num W H:Int} {P:Slc} {bs:List UInt8} (i:Int) {k:Int} (h:HasI (S.putPre id bs.length).1 k\/k=i):HasI ((S.putPre id bs.length).1.putAt i num W H P bs) k:=by
 have hpk:StOk n (S.putPre id bs.length).1:=qtd _ _ (zdh hok id);by_cases e:k=i
 ·exact ⟨_,(qeu hpk.srt _ _ _ _).2 (.inl ⟨e,rfl⟩)⟩
 ·rcases h with ⟨x,hx⟩ | h
  ·exact ⟨x,(qeu hpk.srt _ _ _ _).2 (.inr ⟨e,hx⟩)⟩
  ·exact absurd h e
theorem zko (hok:StOk n E.S) (k:qaa) (W H:Int) (bs:List UInt8) (P:Slc) (v:qac) (h:Inv0 B E):Inv0 B (keepK E k W H bs P v).1:=by
 unfold keepK;split
 ·exact h
 ·have hkept:Inv0 B (keptE E k W H bs P):=by
   refine ⟨q75 h.here fun j hj hn=>zap hok _ ?_,(zad _ _ _).trans h.q,h.ld⟩;rw [List.mem_append,List.mem_singleton,not_or] at hn;refine .inl (zfq hj (fun h0=>?_) hn.1);have:idK E k bs=k.Id:=by
    unfold idK newId;rw [if_neg h0]
   rw [<-this];exact hn.2
  split
  ·exact hkept
  ·exact zhj _ v hkept (zap hok _ (.inr rfl))
theorem zlh (k:qaa) (W H:Int) (bs:List UInt8) (P:Slc) (v:qac):(keepK E k W H bs P v).1.ld=E.ld/\(keepK E k W H bs P v).1.quota=E.quota:=by
 have st:∀(E:KE) (k:qaa) (id:Int),(qce E k id v).1.ld=E.ld/\(qce E k id v).1.quota=E.quota:=fun E k id=>by
  unfold qce;split
  ·split
   ·exact ⟨rfl,rfl⟩
   ·exact ⟨rfl,rfl⟩
  ·exact ⟨rfl,rfl⟩
 unfold keepK;split
 ·exact ⟨rfl,rfl⟩
 ·split
  ·exact ⟨rfl,rfl⟩
  ·exact st _ _ _
theorem Inv0.inv (h:Inv0 B E) (hl:E.ld=none):Inv B E:=⟨h.here,h.q,LdOk.none hl⟩
theorem zk5 (hok:StOk n E.S) (C:LdK) (s:LdS) (k:qaa) (P:Slc) (v:qac) (h:Inv0 B E):Inv B (endK E C s k P v).1/\(endK E C s k P v).1.quota=E.quota:=by
 unfold endK;split
 ·exact ⟨h.idle,rfl⟩
 ·have h1:=zko (E:=E.idle) (n:=n) (qof hok 0) k ((resL C s).2.1:Int) ((resL C s).2.2.1:Int) (resL C s).2.2.2 P v h.idle.inv0;obtain ⟨h2,h3⟩:=zlh (E:=E.idle) k ((resL C s).2.1:Int) ((resL C s).2.2.1:Int) (resL C s).2.2.2 P v;exact ⟨h1.inv h2,h3⟩
theorem zau (C:LdK):∀(ts:List UInt8) (s:LdS),potL (addL C s ts)<=potL s+3*ts.length
 | [],s=>le_refl _
 | c::ts,s=>by
  have h1:=zau C ts (addC C s c);have h2:=zae C s c;have e:addL C s (c::ts)=addL C (addC C s c) ts:=rfl;rw [e,length_cons];omega
theorem q8b (C:LdK):∀(ts:List UInt8) (s:LdS),(addL C s ts).over=s.over
 | [],s=>rfl
 | c::ts,s=>(q8b C ts (addC C s c)).trans (q73 C s c)
theorem zar (hok:StOk n E.S) (h0:0<=E.quota) {C:LdK} {s:LdS} (k:qaa) (ts:List UInt8) (P:Slc) (v:qac) (h:Inv0 B E) (hl:E.ld=some (C,s)) (hB:B+3*ts.length<=120000) :
  Inv (B+3*ts.length) (moreK E C s k ts P v).1/\(moreK E C s k ts P v).1.quota=E.quota:=by
 have ha:Inv0 (B+3*ts.length) (addE E C s ts):=by
  refine ⟨h.here,h.q,fun C1 s1 e=>?_⟩;obtain ⟨a,b,c⟩:=h.ld C s hl;cases e;refine ⟨(q8b C ts s).trans a,b,?_⟩;have:=zau C ts s;omega
 unfold moreK;split
 ·exact ⟨ha.idle,rfl⟩
 ·rcases zcp ha hB h0 hok with ⟨h1,h2,h3⟩ | ⟨h1,h2⟩
  ·have hq:((addE E C s ts).reserve 0).1.quota=E.quota:=by
    unfold KE.reserve;split
    ·rfl
    ·split<;>rfl
   rw [if_neg (fun hh=>hh h2)];split
   ·exact ⟨h3,hq⟩
   ·have hok2:StOk n ((addE E C s ts).reserve 0).1.S:=by
     unfold KE.reserve;split
     ·exact hok
     ·split
      ·exact hok
      ·exact q4m hok _
    obtain ⟨h4,h5⟩:=zk5 hok2 C (addL C s ts) (qfh E.first k) P v h3.inv0;exact ⟨h4,h5.trans hq⟩
  ·rw [h2,if_pos (by show (6:Int)≠0;omega)];exact ⟨ha.idle,rfl⟩
theorem zfx (hok:StOk n E.S) (h0:0<=E.quota) {k:qaa} (hwk:Wide (toL k)) (ts:List UInt8) (P:Slc) (v:qac) (h:Inv B E) (hB:B+3*ts.length<=120000) :
  Inv (B+3*ts.length) (qlu E k ts P v).1/\(qlu E k ts P v).1.quota=E.quota:=by
 unfold qlu;split
 ·exact ⟨h.up (by omega),rfl⟩
 ·refine zar (E:=begE E k) hok h0 k ts P v ⟨h.here,h.q,fun C s e=>?_⟩ rfl hB;cases e;refine ⟨rfl,hwk,?_⟩;have:potL ld0=0:=rfl;omega
theorem zkw {S:St} {m:Int} (h:(numK S m).2=true):HasI S (numK S m).1:=by
 unfold numK at h ⊢;split
 ·rename_i hx;rw [dif_pos hx] at h;rcases hx.choose_spec with ⟨h1,_⟩ | ⟨_,x,hx1,_⟩
  ·rw [h1] at h;cases h
  ·exact ⟨x,hx1⟩
 ·rename_i hx;rw [dif_neg hx] at h;cases h
theorem zgs {S:St} (hok:StOk n S) {k:qaa} (h:(qcj S k).2=true):HasI S (qcj S k).1:=by
 unfold qcj at h ⊢;split
 ·rename_i h1;rw [if_pos h1] at h;exact zkw h
 ·rename_i h1;rw [if_neg h1] at h;obtain ⟨x,hx⟩:=Option.isSome_iff_exists.1 h;exact ⟨x,(qco hok.srt).1 hx⟩
theorem zld {S:St} (hok:StOk n S) (id:Int) {k:Int} (h:HasI S k):HasI (S.use id) k:=by
 unfold St.use;split
 ·by_cases e:k=id
  ·exact ⟨_,(qeu hok.srt _ _ _ _).2 (.inl ⟨e,rfl⟩)⟩
  ·obtain ⟨y,hy⟩:=h;exact ⟨y,(qeu hok.srt _ _ _ _).2 (.inr ⟨e,hy⟩)⟩
 ·exact h
theorem zj9 (hok:StOk n E.S) (hl:E.ld=none) (k:qaa) (v:qac) (h:Inv B E):Inv B (showK E k v).1/\(showK E k v).1.quota=E.quota:=by
 unfold showK;split
 ·exact ⟨h,rfl⟩
 ·rename_i hn;have hn:(qcj E.S k).2=true:=by
   cases hh:(qcj E.S k).2 with
   | true=>rfl
   | false=>exact absurd hh hn
  have hid:=zgs hok hn;generalize (qcj E.S k).1=id at *;obtain ⟨h1,h2,h3,h4,h5⟩:=q2y { k with Id:=id } v h.here hid;split
  ·refine ⟨⟨fun p hp=>?_,?_,LdOk.none (h3.trans hl)⟩,h4⟩
   ·show HasI ((qce E { k with Id:=id } id v).1.S.use id) p.Image;rw [h2];exact zld hok id (h1 p hp)
   ·show ((qce E { k with Id:=id } id v).1.S.use id).quota=(qce E { k with Id:=id } id v).1.quota;rw [h2,h4,<-h.q];unfold St.use;split<;>rfl
  ·exact ⟨⟨by rw [h2];exact h1,by rw [h2,h4];exact h.q,LdOk.none (h3.trans hl)⟩,h4⟩
theorem q27 (T:List Pl) (f:Int->Bool):∀(ids:List Int) (S:St),Here T S->Here T (qjd T f S ids)/\(qjd T f S ids).quota=S.quota/\(qjd T f S ids).used<=S.used
 | [],S,h=>⟨h,rfl,Int.le_refl _⟩
 | i::ids,S,h=>by
  have e:qjd T f S (i::ids)=qjd T f (qfl T f S i) ids:=rfl;have h1:Here T (qfl T f S i)/\(qfl T f S i).quota=S.quota/\(qfl T f S i).used<=S.used:=by
   unfold qfl;split
   ·rename_i hc;simp only [Bool.and_eq_true,Bool.not_eq_true'] at hc;refine ⟨fun p hp=>?_,rfl,?_⟩
    ·obtain ⟨x,hx⟩:=h p hp;refine ⟨x,(qi7 _ _ _).2 ⟨fun e=>?_,hx⟩⟩;have:=List.any_eq_false.1 hc.2 p hp;rw [e] at this;simp at this
    ·show S.used-(szOf S.L i:Int)<=S.used;omega
   ·exact ⟨h,rfl,Int.le_refl _⟩
  obtain ⟨a,b,c⟩:=q27 T f ids _ h1.1;rw [e];exact ⟨a,b.trans h1.2.1,Int.le_trans c h1.2.2⟩
theorem zg1 (f:Int->Bool) (ids:List Int) (h:Inv B E):Inv B (qfi E f ids):=by
 obtain ⟨a,b,c⟩:=q27 E.T f ids E.S h.here;refine ⟨a,b.trans h.q,fun C s e=>?_⟩;obtain ⟨x,y,z,t⟩:=h.ld C s e;refine ⟨x,y,z,?_⟩;show (s.b.length:Int)+(qjd E.T f E.S ids).used<=E.quota;omega
theorem q4x (f:Pl->Bool) (h:Inv B E):Inv B { E with T:=E.T.filter f }:=⟨fun p hp=>h.here p (List.mem_filter.1 hp).1,h.q,h.ld⟩
theorem zd0 (k:qaa) (v:qac) (h:Inv B E):Inv B (qfc E k v)/\(qfc E k v).quota=E.quota:=by
 unfold qfc;split
 ·exact ⟨h,rfl⟩
 ·unfold goneK;split
  ·exact ⟨zg1 _ _ (q4x _ h),rfl⟩
  ·exact ⟨q4x _ h,rfl⟩
theorem zf9 (hok:StOk n E.S) (h0:0<=E.quota) (hl:E.ld=none) {k:qaa} (hwk:Wide (toL k)) (ts:List UInt8) (P:Slc) (v:qac) (h:Inv B E) (hB:B+3*ts.length<=120000) :
  Inv (B+3*ts.length) (goK E k ts P v).1/\(goK E k ts P v).1.quota=E.quota:=by
 unfold goK;split
 ·exact zfx hok h0 hwk ts P v h hB
 ·split
  ·obtain ⟨a,b⟩:=zj9 hok hl k v h;exact ⟨a.up (by omega),b⟩
  ·split
   ·obtain ⟨a,b⟩:=zd0 k v h;exact ⟨a.up (by omega),b⟩
   ·exact ⟨h.up (by omega),rfl⟩
theorem zlx (hok:StOk n E.S) (h0:0<=E.quota) (bs:List UInt8) (P:Slc) (v:qac) (h:Inv B E) (hB:B+3*bs.length<=120000):Inv (B+3*bs.length) (doK E bs P v).1/\(doK E bs P v).1.quota=E.quota:=by
 unfold doK;split
 ·exact ⟨h.up (by omega),rfl⟩
 ·rename_i b r;split
  ·exact ⟨h.up (by omega),rfl⟩
  ·split
   ·exact ⟨h.up (by omega),rfl⟩
   ·have hwk:=q5f (headB 59 r);have hlen:=q1e 59 r;rw [length_cons] at hB ⊢;generalize ofL (qdk (headB 59 r)).1=k at *;generalize tailB 59 r=ts at *;have hup:∀{X:KE},Inv (B+3*ts.length) X/\X.quota=E.quota->Inv (B+3*(r.length+1)) X/\X.quota=E.quota:=fun h=>⟨h.1.up (by omega),h.2⟩;unfold cmdK;split
    ·rename_i C s hl;split
     ·exact hup (zar hok h0 k ts P v h.inv0 hl (by omega))
     ·exact hup (zf9 (E:=E.idle) (qof hok 0) h0 rfl hwk ts P v h.inv0.idle (by omega))
    ·rename_i hl;exact hup (zf9 hok h0 hl hwk ts P v h (by omega))
end
def keys0:qaa:=⟨0,0,0,0,0,0,0,0,0,0,0,0,0,0,0,0,0,0,0,0,0,0⟩
def newE (q:Int):KE:=⟨q,⟨q,0,0,0,[]⟩,[],none,keys0⟩
section
variable {w w':World} {base g n:Nat} {F F':KF} {E E':KE}
theorem q7b {q:Int} {K:Option Addr->Int->World->Prop} (hE:qoi q=1->K none 1 w)
  (hK:qoi q=0->∀g F w',w.heap.size<=g->EngM w' w.heap.size g F (newE q) 0->Below w.heap.size w w'->K (some ⟨g,0,none⟩) 0 w'):qpz q w K:=by
 refine q6z _ ?_;unfold q03;refine zfu (base:=w.heap.size) (fun h=>cT rfl (hE h)) fun sg sr w1 he hsg hsr hst hB1=>?_;refine cF rfl ?_;refine q65 ?_;unfold q02;refine nwb fun w2 ht2 hB2 hs2=>?_;refine nwb fun w3 hg3 hB3 hs3=>?_;have B3:=qch hB1 hB2 hB3;have z1:=hB1.size;have z2:=hB2.size;have z3:=hB3.size;refine hK he w2.heap.size ⟨sg,sr,w1.heap.size,⟨none,0,0⟩,0,0,fun _=>False⟩ w3 (by omega) ⟨hg3,by omega,(hst.ext hB2).ext hB3,zlq he,⟨hsg,hsr⟩,⟨ht2.ext hB3,by omega,Go.Vc.Own.nil _ _ _⟩,le_refl _,(fun C s h=>by cases h),(fun _ k h=>h),(fun h=>h),⟨fun h=>h,fun h=>h⟩,(fun k _ h=>h),fun k _ h=>h⟩ B3
theorem qjj (h:EngM w base g F E n) {K:Option Addr->World->Prop} (hK:∀g' r' w',w.heap.size<=g'->w.heap.size<=r'->StM w' base g' r' E.S->Below w.heap.size w w'->K (some ⟨g',0,none⟩) w'):qcp (some ⟨g,0,none⟩) w K:=by
 refine que _ ?_;unfold qm7;simp only [onPtr_some];exact qa8 (x:=some ⟨F.sg,0,none⟩) (h.blk.cells 1 _ rfl) (zgz h.st hK)
theorem ql5 (h:EngM w base g F E n) (hn:n<=100000) {K:Option Addr->World->Prop} (hK:∀g' q' w',PlTM w' w.heap.size g' q' E.T->Below w.heap.size w w'->K (some ⟨g',0,none⟩) w'):qb1 (some ⟨g,0,none⟩) w K:=by
 refine qtj _ ?_;unfold qlm;simp only [onPtr_some];refine qa8 (x:=some ⟨F.tg,0,none⟩) (h.blk.cells 2 _ rfl) ?_;refine qwd _ ?_;unfold qox;simp only [onPtr_some];refine lSl (x:=F.q) (h.tb.blk.cells 0 _ rfl) ?_;refine q05 h.tb.own.rd (le_trans h.tl hn) fun r w1 hr hB1=>?_;refine nwb fun w2 hb hB2 hs2=>?_;exact hK _ r w2 ⟨hb,hB1.size,hr.ext hB2⟩ (qak hB1 hB2)
end
def cmdA:List UInt8:=[71,97,61,84,44,102,61,50,52,44,115,61,49,44,118,61,49,44,105,61,55,59,65,81,73,68]
def cmdD:List UInt8:=[71,97,61,100,44,100,61,65]
def viewA:qac:=⟨⟨false,0,5,5,0,0⟩,1,1⟩
def keysA:qaa:=⟨84,100,0,97,0,24,1,1,7,0,0,0,0,0,0,0,0,0,0,0,0,0⟩
def plA:Pl:=⟨7,0,false,0,0,1,1,0,0,1,1,0,0,0⟩
def zlz (P:Slc):St:=⟨100,0,4,1,[(7,⟨⟨0,⟨1,1,P⟩,1,1⟩,[1,2,3,255]⟩)]⟩
def engA (P:Slc):KE:=⟨100,zlz P,[plA],none,keysA⟩
theorem doA (P:Slc):doK (newE 100) cmdA P viewA=(engA P,q4o keysA plA):=by kernel_rfl
theorem itoa7:itoa 7=[55]:=by
 have h:=q3x 7;have e:itoa 7=Lib.decDigits 7:=rfl;rw [e,<-h];rfl
theorem zlo:toldK keysA 0 []=[27,95,71,105,61,55,59,79,75,27,92]:=by
 have e:toldK keysA 0 []=[27,95,71]++joinC [105::61::itoa 7]++[59]++[79,75]++[27,92]:=by kernel_rfl
 rw [e,itoa7];rfl
theorem doD (P P':Slc):(doK (engA P) cmdD P' viewA).1.S.L=[]:=by kernel_rfl
section
variable {w w':World} {base g n:Nat} {F F':KF} {E E':KE}
theorem zav (hT:Tab w) (h4:4<=w.heap.size) {K:Bool->World->Prop} (hK:∀w',Below w.heap.size w w'->K true w'):qu9 w K:=by
 refine q6r ?_;unfold q1y;refine q7b (fun h=>by cases h) fun _ g F w1 hg h1 hB1=>?_;refine jpO fun J1 hJ1=>?_;refine cF rfl (cF rfl (hJ1 _ _ ?_));refine nwb fun w2 hv2 hB2 hs2=>?_;show stK ⟨w1.heap.size,2,none⟩ _ _ _;refine qaj hv2 (by show (2+1:Nat)<=8;omega) fun w3 hv3 hg3 hs3=>?_;show stK ⟨w1.heap.size,3,none⟩ _ _ _;refine qaj hv3 (by show (3+1:Nat)<=8;omega) fun w4 hv4 hg4 hs4=>?_;show stK ⟨w1.heap.size,6,none⟩ _ _ _;refine qaj hv4 (by show (6+1:Nat)<=8;omega) fun w5 hv5 hg5 hs5=>?_;show stK ⟨w1.heap.size,7,none⟩ _ _ _;refine qaj hv5 (by show (7+1:Nat)<=8;omega) fun w6 hv6 hg6 hs6=>?_;have cc:∀{a b:World},a.grownBy b (some w1.heap.size)->Chg (fun i=>i=w1.heap.size) a b:=fun hg=>Chg.of_grown hg fun k hk=>by cases hk;rfl
 have hc26:Chg (fun i=>i=w1.heap.size) w2 w6:=(((cc hg3).trans (cc hg4) fun i _ hi=>hi).trans (cc hg5) fun i _ hi=>hi).trans (cc hg6) fun i _ hi=>hi;have hv6:Blk w6 w1.heap.size qbe (qac.rep.cells viewA):=hv6;have hB16:Below w1.heap.size w1 w6:=b1o hB2 hc26 (le_refl _);have h6:=EngT.of_ext h1 hB16;refine qv7 (bs:=cmdA) rfl rfl (by decide) fun s1 w7 hs1r hs1b hB7 _ hs1a=>?_;have hv7:=hv6.ext hB7;have h7:=h6.ext hB7;have z1:=hB1.size;have z6:=hB16.size;have z7:=hB7.size;have lv7:=hv7.lt;have hTab1:Tab w1:=hT.ext hB1;refine qal (r:=qac.rep) (x:=viewA) hv7.cells ?_;have nl7:∀k,¬F.LS k:=h7.m.nl rfl;refine q13 h7.m (by omega) (hTab1.stepK h1 h4 h7) h4 (by decide) (by decide) hs1r (fun C s hl=>by cases hl) viewA fun P r F8 w8 hr8 h8 hrb=>?_;rw [doA] at hr8 h8;have hE8:=h7.trans h8;have hv8:=hv7.chg h8.chg (h7.m.not_in hv7 (by decide) (nl7 _));have z8:=h8.chg.size;have hTab8:Tab w8:=hTab1.stepK h1 h4 hE8;refine qdd (vs:=qad.rep.cells r) rfl fun w9 hr9 hB9 hs9=>?_;have h9:=hE8.ext hB9;refine qjj h9.m fun sg' sr' w10 hsg' hsr' hst10 hB10=>?_;refine qt0 hst10 h9.m.ok 7 fun P2 w11 hP2 hB11=>?_;have eB:bsOf (engA P).S.L 7=[1,2,3,255]:=by kernel_rfl
 rw [eB] at hP2;refine qdd (vs:=qab.rep.cells ⟨_,_,P2⟩) rfl fun w12 hm12 hB12 hs12=>?_;have h12:=((h9.ext hB10).ext hB11).ext hB12;refine ql5 h12.m (by omega) fun tg' q' w13 ht13 hB13=>?_;refine qx5 ht13 (by show (1:Nat)<=_;omega) fun l w14 hl14 hB14=>?_;refine qv7 (bs:=cmdD) rfl rfl (by decide) fun s2 w15 hs2r hs2b hB15 _ hs2a=>?_;have h15:=((h12.ext hB13).ext hB14).ext hB15;have z9:=hB9.size;have z10:=hB10.size;have z11:=hB11.size;have z12:=hB12.size;have z13:=hB13.size;have z14:=hB14.size;have z15:=hB15.size;have B815:Below w8.heap.size w8 w15:=qak (qak (qak hB9 (qch hB10 hB11 hB12)) (qak hB13 hB14)) hB15;have hv15:=hv8.ext B815;have hr15:=(((((hr9.ext hB10).ext hB11).ext hB12).ext hB13).ext hB14).ext hB15;have hm15:=((hm12.ext hB13).ext hB14).ext hB15;have hP15:=(((hP2.ext hB12).ext hB13).ext hB14).ext hB15;have hrp15:=hr8.1.ext B815;refine qal (r:=qac.rep) (x:=viewA) hv15.cells ?_;have nE8:∀{b:Nat},w8.heap.size<=b->¬engS g F8 b:=fun hb hk=>by have:=(hE8.m.below _ hk).2;omega
 refine q13 h15.m (by omega) (hTab8.ext B815) h4 (by show (100:Int)<=_;omega) (by decide) hs2r (fun C s hl=>by cases hl) viewA fun P' r2 F16 w16 hr16 h16 hrb2=>?_;have hE16:=h15.trans h16;have z16:=h16.chg.size;refine qjj hE16.m fun sg2 sr2 w17 _ _ hst17 hB17=>?_;refine qt0 hst17 hE16.m.ok 7 fun P3 w18 hP3 hB18=>?_;refine qdd (vs:=qab.rep.cells ⟨_,_,P3⟩) rfl fun w19 hx19 hB19 hs19=>?_;have B1619:Below w16.heap.size w16 w19:=qch hB17 hB18 hB19;have hr16b:=hr15.chg h16.chg (nE8 (le_refl _));have hr19:=hr16b.ext B1619;have hm19:=(hm15.chg h16.chg (nE8 (by omega))).ext B1619;have hP19:=(hP15.chg h16.chg fun k hk=>nE8 (by have:=(hP2.lt k hk).1;omega)).ext B1619;have hrp19:Rd qae w19 r.Reply (q4o keysA plA).reply:=(hrp15.chg h16.chg fun a ha=>(hrb a.block (slk.2 ⟨a,ha,rfl⟩)).2).ext B1619;have hrep:(q4o keysA plA).reply=[27,95,71,105,61,55,59,79,75,27,92]:=zlo;rw [hrep] at hrp19;have hres:=hr8.2;refine lSl (x:=r.Reply) (hr19.cells 0 _ rfl) (qdn hrp19 ?_);have e1:(⟨#[27,95,71,105,61,55,59,79,75,27,92]⟩:ByteArray)=strB [27,95,71,105,61,55,59,79,75,27,92]:=rfl;rw [e1];refine cT (by simp) ?_;refine lI (x:=r.Rows) (hr19.cells 1 _ rfl) (cT (by rw [hres.1];rfl) ?_);refine lI (x:=r.Cols) (hr19.cells 2 _ rfl) (cT (by rw [hres.2.1];rfl) ?_);refine qcu (x:=r.Moves) (hr19.cells 3 _ rfl) (cT (by rw [hres.2.2];rfl) ?_);refine cT (by kernel_rfl) ?_;refine lSl (x:=P2) (hm19.cells 2 _ rfl) (qdn hP19.rd ?_);have e2:(⟨#[1,2,3,255]⟩:ByteArray)=strB [1,2,3,255]:=rfl;rw [e2];refine cT (by simp) ?_;refine cT (by rw [hl14.rd.n];rfl) ?_;have e3:(lookL (doK (engA P) cmdD P' viewA).1.S.L 7).isSome=false:=by rw [doD];rfl
 rw [e3];refine hK w19 ?_;have hB8:Below w.heap.size w w8:=hB1.trans (EngT.belowB h1 hE8);have hB15':Below w.heap.size w w15:=hB8.trans (B815.mono (by omega));have hB16':Below w.heap.size w w16:=hB15'.trans (EngT.belowB h15.m h16);exact hB16'.trans (B1619.mono (by omega))
end
abbrev ActT:=qef
structure ActF (w:World) (l:Slc) (xs:List ActT):Prop where
 rd:Rd actE w l xs
 q:∀x∈xs,ActQ w x
def lenA (x:ActT):Nat:=x.Command.n+x.M.P.n
def totA:List ActT->Nat
 | []=>0
 | x::l=>lenA x+totA l
theorem q31:∀(a b:List ActT),totA (a++b)=totA a+totA b
 | [],b=>by simp [totA]
 | x::a,b=>by
  show lenA x+totA (a++b)=lenA x+totA a+totA b;rw [q31 a b];omega
theorem q8k {xs:List ActT} {k:Nat} {x:ActT} (hx:xs[k]?=some x):totA (xs.take (k+1))=totA (xs.take k)+lenA x:=by
 rw [take_add_one,hx,Option.toList_some,q31];rfl
theorem zde (xs:List ActT) (k:Nat):totA (xs.take k)<=totA xs:=by
 have:=q31 (xs.take k) (xs.drop k);rw [List.take_append_drop] at this;omega
section
variable {w w':World} {base g n:Nat} {F F':KF} {E E':KE}
theorem ActQ.ext {x:ActT} (h:ActQ w x) (hb:Below w.heap.size w w'):ActQ w' x:=⟨h.c.imp fun _ h=>h.ext hb,h.p.imp fun _ h=>h.ext hb⟩
theorem ActF.ext {l:Slc} {xs:List ActT} (h:ActF w l xs) (hb:Below w.heap.size w w'):ActF w' l xs:=⟨h.rd.ext hb,fun x hx=>(h.q x hx).ext hb⟩
theorem zhg {l:Slc} {xs:List ActT} (h:ActF w l xs) {k:Nat} {x:ActT} (hx:xs[k]?=some x) {K:Addr->Prop} (hK:qao w (l.at_ 19 k) (actE.cells x)->K (l.at_ 19 k)):ixK l k 19 K:=by
 have hk:=(List.getElem?_eq_some_iff.1 hx).1;refine h.rd.ix (E:=actE) rfl (by omega) (by omega) fun hc=>?_;simp only [Int.toNat_natCast] at hc ⊢;rw [(List.getElem?_eq_some_iff.1 hx).2] at hc;exact hK hc
theorem q7j (v:qac) {K:Bool->World->Prop} (hK:∀b w',Below w.heap.size w w'->K b w'):qp1 v w K:=by
 refine q6o _ ?_;unfold q1h;refine nwb fun w1 hb hB1 hs1=>?_;have hK:=fun b=>hK b w1 hB1;have ld:∀(j:Nat) {x:Int} {X:Int->Prop},(qac.rep.cells v)[j]?=some (.int .i64 x)->X x->ldI .i64 ((⟨w.heap.size,0,none⟩:Addr).add j) w1 X:=fun j x X h hx=>lI (x:=x) (hb.cells j _ h) hx;refine ld 1 (x:=v.View.Top) rfl (cO (fun _=>?_) fun _=>hK _);refine ld 1 (x:=v.View.Top) rfl (cO (fun _=>?_) fun _=>hK _);refine ld 2 (x:=v.View.Rows) rfl (cO (fun _=>?_) fun _=>hK _);refine ld 2 (x:=v.View.Rows) rfl (cO (fun _=>?_) fun _=>hK _);refine ld 3 (x:=v.View.Cols) rfl (cO (fun _=>?_) fun _=>hK _);refine ld 3 (x:=v.View.Cols) rfl (cO (fun _=>?_) fun _=>hK _);refine ld 4 (x:=v.View.Row) rfl (cO (fun _=>?_) fun _=>hK _);refine ld 4 (x:=v.View.Row) rfl (ld 2 (x:=v.View.Rows) rfl (cO (fun _=>?_) fun _=>hK _));refine ld 5 (x:=v.View.Col) rfl (cO (fun _=>?_) fun _=>hK _);exact ld 5 (x:=v.View.Col) rfl (ld 3 (x:=v.View.Cols) rfl (hK _))
theorem zdo {l:Slc} {xs:List ActT} (h:ActF w l xs) {K:Bool->World->Prop} (hK:∀b w',Below w.heap.size w w'->(b=true->xs.length<=60/\totA xs<=16384)->K b w'):q1p l w K:=by
 refine q9b _ ?_;unfold q5b;have hl:l.n=xs.length:=h.rd.n;have hlm:xs.length<=9223372036854775807:=by rw [<-hl];exact le_trans h.rd.nc h.rd.cm
 refine lpR (fun (st:Int×Int×Unit) w1=>∃k:Nat,st.2.1=(k:Int)/\k<=xs.length/\st.1=(totA (xs.take k):Int)/\totA (xs.take k)<=196608/\Below w.heap.size w w1) (fun st=>xs.length-st.2.1.toNat)
  ⟨0,rfl,zero_le _,rfl,zero_le _,Below.refl _ _⟩ ?_
 rintro ⟨n,i,u⟩ w1 ⟨k,hi,hk,hn,hn2,hB⟩ I hI;dsimp only at hi hn ⊢;subst hi hn;refine cO (fun e=>?_) fun e=>?_
 ·have e:=oTq e;have hlt:k<xs.length:=by omega
  obtain ⟨x,hx⟩:∃x,xs[k]?=some x:=⟨_,List.getElem?_eq_getElem hlt⟩;have ix:∀{w2:World} {K:Addr->Prop},Below w.heap.size w w2->(qao w2 (l.at_ 19 k) (actE.cells x)->K (l.at_ 19 k))->ixK l k 19 K:=fun hB2 hK2=>zhg (h.ext hB2) hx hK2;have hBd:Below w.heap.size w w1.drew:=qak hB (qb3 w1);refine jpO fun J hJ=>?_;refine ix hB fun hc=>lSl (x:=x.Command) (hc 1 _ rfl) ?_;refine cO (fun e1=>hK _ _ hB (fun hh=>by cases hh)) fun e1=>?_;refine ix hB fun hc=>lSl (x:=x.M.P) (by rw [qm2];exact hc 12 _ rfl) ?_;refine cO (fun e2=>hK _ _ hB (fun hh=>by cases hh)) fun e2=>?_;refine cO (fun e3=>hK _ _ hB (fun hh=>by cases hh)) fun e3=>hJ _ _ ?_;have e1:=oFq e1;have e2:=oFq e2;have e3:=oFq e3;refine ix hBd fun hc=>lSl (x:=x.Command) (hc 1 _ rfl) ?_;refine ix hBd fun hc=>lSl (x:=x.M.P) (by rw [qm2];exact hc 12 _ rfl) ?_;rw [w64i (x:=(totA (xs.take k):Int)+((x.Command.n:Nat):Int)) (by omega),w64i (x:=(totA (xs.take k):Int)+((x.Command.n:Nat):Int)+((x.M.P.n:Nat):Int)) (by omega),w64i (x:=(k:Int)+1) (by omega)];have ht:=q8k hx;have hln:lenA x=x.Command.n+x.M.P.n:=rfl;exact hI _ _ ⟨k+1,by simp,by omega,by show _=_;rw [ht,hln];omega,by omega,hBd⟩ (by dsimp only;omega)
 ·have e:=oFq e;have hkl:k=xs.length:=by omega
  rw [hkl,take_length];refine cO (fun e1=>?_) fun e1=>hK _ _ hB fun hh=>by cases hh
  have e1:=oTq e1;exact hK _ _ hB fun hh=>⟨by omega,by have:=oTq hh;omega⟩
end
end Go.Proofs.YtedcpbkcamckoaaGreatDoor
