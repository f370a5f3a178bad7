import Derived.Test.YtedcpbkcamckoaaGreatDoorP4
import Derived.Test.YtedcpbkcamckoaaGreatDoorP1
import Derived.Test.YtedcpbkcamckoaaGreatDoorP2
import Derived.Lib.AppendStr
set_option linter.unusedVariables false
namespace Go.Proofs.YtedcpbkcamckoaaGreatDoor
open Go.Vc Go.RowKit
set_option maxRecDepth 400000
open Builtin (append_)
open IntKind (i64)
open Lib (indexByte itoa)
open _root_.List (length_append length_cons length_drop length_filter_le length_map length_nil length_take take_add_one take_length)
open _root_.Nat (le_refl le_trans mul_assoc mul_one zero_add zero_le)
open _root_.Option (getD_some map_eq_some_iff)
def newP (k:qaa) (room:Int):Nat :=
 if room<0\/room>1073741824 then 1
 else if (qeg k).1≠0 then (qeg k).1
 else if k.Format≠100/\4*k.W*k.H>room then 6 else 0
def ld0:LdS:=⟨b64N,[],0,false⟩
theorem q6i {k:qaa} (h:(qeg k).1=0):(k.Format=100/\(qeg k).2=0)\/(k.Format≠100/\(k.Format=24\/k.Format=32)/\∃W H:Nat,k.W=W/\k.H=H/\1<=W/\W<=16384/\1<=H/\H<=16384/\(qeg k).2=k.Format.toNat/8*W*H):=by
 unfold qeg at h ⊢;split at h
 ·cases h
 ·rename_i h1;rw [if_neg h1];split at h
  ·rename_i h2;rw [if_pos h2];exact .inl ⟨h2,rfl⟩
  ·rename_i h2;rw [if_neg h2];split at h
   ·cases h
   ·rename_i h3;rw [if_neg h3];split at h
    ·cases h
    ·rename_i h4;rw [if_neg h4];exact .inr ⟨h2,by omega,k.W.toNat,k.H.toNat,by omega,by omega,by omega,by omega,by omega,by omega,rfl⟩
def pxF (per:Nat) (b:List UInt8) (i:Nat):List UInt8:=(b.drop (per*i)).take per++[0,0,0,255].drop per
def fromP (per n:Nat) (b:List UInt8):List UInt8:=(List.range n).flatMap (pxF per b)
theorem zj6 {per:Nat} {b:List UInt8} {i:Nat} (hp:per<=4) (h:per*i+per<=b.length):(pxF per b i).length=4:=by
 unfold pxF;rw [length_append,length_take,length_drop,length_drop];show min per (b.length-per*i)+(4-per)=4;omega
theorem q4a (per n:Nat) (b:List UInt8):fromP per (n+1) b=fromP per n b++pxF per b n:=by
 unfold fromP;rw [List.range_succ,List.flatMap_append];simp
theorem q6g {per:Nat} {b:List UInt8} (hp:per<=4):∀n,per*n<=b.length->(fromP per n b).length=4*n
 | 0,_=>rfl
 | n+1,h=>by
  have e:per*(n+1)=per*n+per:=by rw [Nat.mul_add,mul_one]
  rw [q4a,length_append,q6g hp n (by omega),zj6 hp (by omega)];omega
section
variable {w:World}
theorem zfe {k:qaa} {room:Int} {K:Option Addr->Int->World->Prop} (hE:newP k room≠0->∀w',Below w.heap.size w w'->K none ((newP k room:Nat):Int) w')
  (hO:newP k room=0->∀g gd w',LdA w' w.heap.size g gd ⟨k,room.toNat,(qeg k).2⟩ ld0 (fun i=>i=g\/i=gd)->Below w.heap.size w w'->K (some ⟨g,0,none⟩) 0 w'):qxs k room w K:=by
 refine q7o _ _ ?_;unfold q2d;refine nwb fun w1 h1 hB1 hs1=>jpO fun J1 hJ1=>?_;unfold newP at hE hO;refine cO (fun e=>?_) fun e1=>cO (fun e=>?_) fun e2=>hJ1 _ _ ?_
 ·have e:=oTq e;rw [if_pos (.inl e)] at hE;exact hE (by decide) w1 hB1
 ·have e:=oTq e;rw [if_pos (.inr e)] at hE;exact hE (by decide) w1 hB1
 have e1:=oFq e1;have e2:=oFq e2;rw [if_neg (by omega)] at hE hO;refine qal (r:=qaa.rep) (x:=k) h1.cells ?_;refine zdx fun w3 hB3=>?_;have hB13:=bT hB1 hB3;have h13:=h1.ext hB3;refine jpO fun J2 hJ2=>?_;refine cO (fun e=>?_) fun e=>?_
 ·have e:(qeg k).1≠0:=fun h=>by rw [h] at e;cases e
  rw [if_pos e] at hE;exact hE e w3 hB13
 have e0:(qeg k).1=0:=by
  rcases Nat.eq_zero_or_pos (qeg k).1 with h | h
  ·exact h
  ·rw [qf7 (by omega)] at e;cases e
 rw [if_neg (by omega)] at hE hO;have made:¬(k.Format≠100/\4*k.W*k.H>room)->J2 () w3:=by
  intro hn;rw [if_neg hn] at hO;refine hJ2 _ _ ?_;have hBd:=bdw w3;refine qal (r:=qaa.rep) (x:=k) (h13.ext hBd).cells ?_;refine qvb ?_;unfold qnb;refine nwb fun w5 h5 hB5 hs5=>?_;have hB35:=bT hBd hB5;refine ⟨(h13.ext hB35).cells,nwb fun w6 h6 hB6 hs6=>?_⟩;have hs13:=hB13.size;have hz:w3.drew.heap.size=w3.heap.size:=rfl;have hd:DecB w6 w3.drew.heap.size b64N:=h5.ext hB6;refine hO rfl w5.heap.size w3.drew.heap.size w6 ⟨⟨⟨none,0,0⟩,?_,.inl ⟨rfl,rfl⟩⟩,hd,zbo,.inl rfl,.inr rfl,fun i hi=>?_⟩ (bT (bT hB13 hB35) hB6)
  ·have hr:((room.toNat:Nat):Int)=room:=by omega
   have:qdp w3.drew.heap.size ⟨k,room.toNat,(qeg k).2⟩ ⟨none,0,0⟩ ld0.b.length ld0.err ld0.over=[(.pointer (some ⟨w3.drew.heap.size,0,none⟩)),(.int .u8 k.Action),(.int .u8 k.Medium),(.int .u8 k.Zip),(.int .u8 k.What),(.int .i64 k.Quiet),(.int .i64 k.Format),(.int .i64 k.W),(.int .i64 k.H),(.int .i64 k.Id),(.int .i64 k.Number),(.int .i64 k.Place),(.int .i64 k.More),(.int .i64 k.X),(.int .i64 k.Y),(.int .i64 k.PW),(.int .i64 k.PH),(.int .i64 k.DX),(.int .i64 k.DY),(.int .i64 k.Rows),(.int .i64 k.Cols),(.int .i64 k.Z),(.int .i64 k.Stay),(.int .i64 room),(.int .i64 (((qeg k).2:Nat):Int)),(.slice none 0 0),(.int .i64 0),(.int .i64 0),(.bool false)]:=by
    unfold qdp;rw [hr];rfl
   rw [this];exact h6
  ·rcases hi with rfl | rfl
   ·exact ⟨by omega,by omega⟩
   ·exact ⟨by omega,by omega⟩
 refine lI (x:=k.Format) (h13.cells 5 _ rfl) (cO (fun ef=>?_) fun ef=>?_)
 ·have ef:k.Format≠100:=by simpa using ef
  rcases q6i e0 with ⟨h,_⟩ | ⟨_,_,W,H,hW,hH,a1,a2,a3,a4,_⟩
  ·exact absurd h ef
  refine lI (x:=k.W) (h13.cells 6 _ rfl) (lI (x:=k.H) (h13.cells 7 _ rfl) ?_);have hWH:W*H<=16384*16384:=Nat.mul_le_mul a2 a4;have h4:4*W*H=4*(W*H):=mul_assoc _ _ _;have em:4*k.W*k.H=((4*W*H:Nat):Int):=by rw [hW,hH];simp
  have ev:i64.wrap ((i64.wrap ((4:Int)*k.W))*k.H)=((4*W*H:Nat):Int):=by
   rw [hW,hH,w64i (x:=(4:Int)*(W:Int)) (by omega),show (4:Int)*(W:Int)*(H:Int)=((4*W*H:Nat):Int) by simp,w64i (by omega)]
  rw [ev];rw [em] at hE made;refine cO (fun e=>?_) fun e=>made fun h=>?_
  ·have e:=oTq e;rw [if_pos ⟨ef,e⟩] at hE;exact hE (by decide) w3 hB13
  ·exact oFq e h.2
 ·have ef:k.Format=100:=by simpa using ef
  exact made fun h=>h.1 ef
theorem q6t {W H per:Nat} {b:Slc} {bs:List UInt8} (hper:per=3\/per=4) (hW1:1<=W) (hW2:W<=16384) (hH1:1<=H) (hH2:H<=16384) (hA:W*H<=67108864) (hb:Rd qae w b bs) (hl:bs.length<=1000000000) {K:qac->Int->World->Prop}
  (hS:bs.length<per*W*H->∀w',Below w.heap.size w w'->K ⟨0,0,⟨none,0,0⟩⟩ 2 w') (hL:bs.length>per*W*H->∀w',Below w.heap.size w w'->K ⟨0,0,⟨none,0,0⟩⟩ 5 w')
  (hO:bs.length=per*W*H->∀s w',Go.Vc.Own qae w' w.heap.size s (fromP per (W*H) bs)->Below w.heap.size w w'->K ⟨W,H,s⟩ 0 w'):qng (W:Int) (H:Int) (per:Int) b w K:=by
 refine q3v _ _ _ _ ?_;unfold qyy;refine nwb fun w1 h1 hB1 hs1=>?_;refine q0r hW1 hW2 hH1 hH2 hA fun tm gm w2 htm hta hgm hB2=>?_;refine nwb fun w3 h3 hB3 hs3=>qbx h3 rfl fun w4 h4 hc4 hs4=>?_;have hB24:Below w2.heap.size w2 w4:=b1o hB3 hc4 (le_refl _);have hB14:=bT hB2 hB24;have hB4:=bT hB1 hB14;have htm4:=(htm.ext hB3).chg hc4 fun k hk=>qa0 (htm.ext hB3) h3 (by decide) k hk;have h14:=h1.ext hB14;have hp4:3<=per/\per<=4:=by omega
 have hpm:per*W*H=per*(W*H):=mul_assoc _ _ _;have h4m:4*W*H=4*(W*H):=mul_assoc _ _ _;have hpA:per*(W*H)<=4*(W*H):=Nat.mul_le_mul_right _ hp4.2;have htb:tm.blk=some gm:=by unfold Slc.blk;rw [hta];rfl
 have hsz2:=hB2.size;refine jpO fun J1 hJ1=>?_;have bad:∀e:Nat,e≠0->(∀w',Below w.heap.size w w'->K ⟨0,0,⟨none,0,0⟩⟩ (e:Int) w')->J1 ((e:Int),()) w4:=fun e he hk=>hJ1 _ _ (cT (qf7 (by omega)) (qbm (r:=qac.rep) (x:=⟨0,0,⟨none,0,0⟩⟩) h14 rfl rfl fun w5 hc5 hs5=>hk w5 (b1o hB4 hc5 (le_refl _))));have good:bs.length=per*W*H->J1 (0,()) w4:=by
  intro hbl;refine hJ1 _ _ (cF rfl ?_);have ewh:i64.wrap ((W:Int)*(H:Int))=((W*H:Nat):Int):=by rw [show (W:Int)*(H:Int)=((W*H:Nat):Int) by simp,w64i (by omega)]
  rw [ewh];refine lpR (fun (st:Int×Unit) w5=>∃i:Nat,st.1=i/\i<=W*H/\Go.Vc.Own qae w5 w1.heap.size tm (fromP per i bs++List.replicate (4*(W*H-i)) 0)/\Chg (fun k=>k=gm) w4 w5) (fun st=>W*H-st.1.toNat)
   ⟨0,rfl,by omega,by rw [Nat.sub_zero,<-h4m];exact htm4,Chg.refl _ _⟩ ?_
  rintro ⟨i,u⟩ w5 ⟨i,rfl,hi,hT,hC⟩ I hI;dsimp only;have keep:∀{k tt:Nat} {cs:List Value},tt≠qan->Blk w4 k tt cs->Blk w5 k tt cs:=fun {k tt cs} hne hbk=>hbk.chg hC fun e=>by
   subst e;obtain ⟨cs',hcs'⟩:=htm4.blk_t htb;exact hbk.ne_t hcs' hne rfl
  have hm5:=keep (by decide) h4;have hB5:Below w.heap.size w w5:=b1o hB4 hC (by have:=hB1.size;omega);refine cO (fun hlt=>?_) fun hge=>?_
  ·have hlt:=oTq hlt;have hil:i<W*H:=by omega
   have hpi:per*i+per<=bs.length:=by
    have:=Nat.mul_le_mul_left per (show i+1<=W*H from hil);rw [Nat.mul_add,mul_one] at this;omega
   have hfl:=q6g (b:=bs) hp4.2 i (by omega);obtain ⟨R,hR⟩:∃R:List UInt8,R=List.replicate (4*(W*H-(i+1))) 0:=⟨_,rfl⟩;have hrep:List.replicate (4*(W*H-i)) (0:UInt8)=[0,0,0,0]++R:=by
    rw [hR,show 4*(W*H-i)=4+4*(W*H-(i+1)) by omega,<-List.replicate_append_replicate];rfl
   rw [hrep] at hT;obtain ⟨A,hA'⟩:∃A,A=fromP per i bs:=⟨_,rfl⟩;rw [<-hA'] at hT hfl;refine lSl (x:=tm) (hm5.cells 2 _ rfl) ?_;rw [w64i (x:=(4:Int)*(i:Int)) (by omega),w64i (x:=(4:Int)*(i:Int)+3) (by omega),show (4:Int)*(i:Int)+3=((4*i+3:Nat):Int) by simp];refine hT.rd.ix (i:=((4*i+3:Nat):Int)) rfl (by omega) (by simp only [length_append,length_cons,length_nil];omega) fun _=>?_;rw [Int.toNat_natCast];refine hT.st0 (i:=4*i+3) (x:=0) (y:=255) (by rw [List.getElem?_append_right (by omega),hfl,show 4*i+3-4*i=3 by omega];rfl) rfl fun w6 hT6 hg6 hs6=>?_;have hc6:Chg (fun k=>k=gm) w5 w6:=by rw [htb] at hg6;exact Chg.gg hg6
   have hset:(A++([0,0,0,0]++R)).set (4*i+3) 255=A++([0,0,0,255]++R):=by
    rw [List.set_append_right _ _ (by omega),hfl,show 4*i+3-4*i=3 by omega];rfl
   rw [hset] at hT6;have hBd:=bdw w6;have hT6d:=hT6.ext hBd;have hm6:Blk w6 w2.heap.size qaq _:=hm5.chg hc6 fun e=>by
    obtain ⟨cs',hcs'⟩:=hT.blk_t htb;subst e;exact hm5.ne_t hcs' (by decide) rfl
   have hB6d:Below w.heap.size w w6.drew:=bT (b1o hB5 hc6 (by have:=hB1.size;omega)) hBd;refine lSl (x:=tm) ((hm6.ext hBd).cells 2 _ rfl) ?_;have hll:(A++([0,0,0,255]++R)).length=4*i+(4+R.length):=by
    rw [length_append,length_append,hfl];rfl
   rw [show (4:Int)*(i:Int)=((4*i:Nat):Int) by simp];obtain ⟨cur,hcur,hcl,hct,hc1,hc2,hc3',hc4'⟩:=q5l (c:=0) hT6d hta;refine hT6d.rd.slK (l:=4*i) (m:=(A++([0,0,0,255]++R)).length) rfl (.inr rfl) (.inl ⟨rfl,rfl⟩) (by omega) (le_refl _) fun _=>?_;have hbd:=hb.ext hB6d;have ep:i64.wrap ((per:Int)*(i:Int))=((per*i:Nat):Int):=by rw [show (per:Int)*(i:Int)=((per*i:Nat):Int) by simp,w64i (by omega)]
   have ep2:i64.wrap (((per*i:Nat):Int)+(per:Int))=((per*i+per:Nat):Int):=by rw [w64i (by omega)];simp
   rw [ep,ep2];refine hbd.slK (l:=per*i) (m:=per*i+per) rfl (.inr rfl) (.inr rfl) (by omega) hpi fun hpt=>?_;have hpe:(bs.take (per*i+per)).drop (per*i)=(bs.drop (per*i)).take per:=by rw [List.drop_take,Nat.add_sub_cancel_left]
   rw [hpe] at hpt;have hptl:((bs.drop (per*i)).take per).length=per:=by rw [length_take,length_drop];omega
   have hcut:cut tm.a (4*i) tm.c qae.k=some ⟨gm,4*i,none⟩:=by
    unfold cut;rw [if_neg (by omega),hta];show some ((⟨gm,0,none⟩:Addr).add (4*i*1))=_;rw [qas,mul_one,zero_add]
   rw [hcut];refine copyB (n:=per) hcur hpt (by rw [hptl,hll];show per=min per (4*i+(4+R.length)-4*i);omega) (by omega) fun w7 hb7 hc7 hs7=>?_;have htk:((bs.drop (per*i)).take per).take per=(bs.drop (per*i)).take per:=List.take_of_length_le (by omega);rw [htk] at hb7;have hT7:=zbv (ys:=(bs.drop (per*i)).take per) (k:=4*i) hT6d hta hcur (by rw [hptl,hll];omega) hb7;rw [hptl] at hT7;have hfin:(A++([0,0,0,255]++R)).take (4*i)++(bs.drop (per*i)).take per++(A++([0,0,0,255]++R)).drop (4*i+per)=fromP per (i+1) bs++R:=by
    rw [q4a,<-hA',List.take_append_of_le_length (by omega),List.take_of_length_le (by omega),List.drop_append,hfl,show 4*i+per-4*i=per by omega,List.drop_of_length_le (show A.length<=4*i+per by omega),List.nil_append,List.drop_append_of_le_length (show per<=4 by omega)];unfold pxF;simp [List.append_assoc]
   rw [hfin,hR] at hT7;rw [w64i (by omega)];exact hI _ _ ⟨i+1,rfl,by omega,hT7,((hC.trans hc6 fun k _ hk=>hk).trans (Chg.of_ext (S:=fun k=>k=gm) hBd) fun k _ hk=>hk).trans hc7 fun k _ hk=>hk⟩ (by simp;omega)
  ·have hge:=oFq hge;obtain rfl:i=W*H:=by omega
   rw [Nat.sub_self,Nat.mul_zero,List.replicate_zero,List.append_nil] at hT;refine qal (r:=qac.rep) (x:=⟨W,H,tm⟩) hm5.cells ?_;have h15:=keep (by decide) h14;refine qbm (r:=qac.rep) (x:=⟨W,H,tm⟩) h15 rfl rfl fun wb hcb hsb=>?_;exact hO hbl tm wb ((hT.chg hcb fun k hk=>qa0 hT h15 (by decide) k hk).base hB1.size) (b1o hB5 hcb (le_refl _))
 have en:i64.wrap ((i64.wrap ((per:Int)*(W:Int)))*(H:Int))=((per*W*H:Nat):Int):=by
  have h5:per*W<=4*16384:=Nat.mul_le_mul hp4.2 hW2;rw [show (per:Int)*(W:Int)=((per*W:Nat):Int) by simp,w64i (x:=((per*W:Nat):Int)) (by omega),show ((per*W:Nat):Int)*(H:Int)=((per*W*H:Nat):Int) by simp,w64i (by omega)]
 rw [hb.n,en];refine cF rfl (cO (fun e=>?_) fun e=>cO (fun e2=>?_) fun e2=>?_)
 ·have e:=oTq e;exact bad 2 (by decide) (hS (by omega))
 ·have e2:=oTq e2;exact bad 5 (by decide) (hL (by omega))
 ·have e:=oFq e;have e2:=oFq e2;exact good (by omega)
end
def MatR (w:World) (base:Nat) (m:qac) (r:Nat×Nat×Nat×List UInt8):Prop:=m.W=(r.2.1:Int)/\m.H=(r.2.2.1:Int)/\Go.Vc.Own qae w base m.P r.2.2.2
structure CfgOk (C:LdK):Prop where
 nw:newP C.k (C.most:Int)=0
 need:C.need=(qeg C.k).2
 most:C.most<=100000
theorem CfgOk.needs {C:LdK} (h:CfgOk C):(qeg C.k).1=0:=by
 have:=h.nw;have hm:=h.most;unfold newP at this;rw [if_neg (by omega)] at this;split at this
 ·rename_i h1;exact absurd this h1
 ·omega
theorem CfgOk.sides {C:LdK} (h:CfgOk C) (hf:C.k.Format≠100):∃W H per:Nat,C.k.W=W/\C.k.H=H/\1<=W/\W<=16384/\1<=H/\H<=16384/\(C.k.Format=24/\per=3\/C.k.Format=32/\per=4)/\C.need=per*W*H/\4*(W*H)<=C.most:=by
 rcases q6i h.needs with ⟨h1,_⟩ | ⟨_,h24,W,H,hW,hH,a1,a2,a3,a4,hn⟩
 ·exact absurd h1 hf
 ·have h6:¬(C.k.Format≠100/\4*C.k.W*C.k.H>(C.most:Int)):=by
   intro hc;have:=h.nw;have hm:=h.most;unfold newP at this;rw [if_neg (by omega),if_neg (by have:=h.needs;omega),if_pos hc] at this;cases this
  have em:4*C.k.W*C.k.H=((4*(W*H):Nat):Int):=by rw [hW,hH,Int.mul_assoc];simp
  rw [em] at h6;have h6':4*(W*H)<=C.most:=by
   rcases Nat.lt_or_ge C.most (4*(W*H)) with hc | hc
   ·exact absurd ⟨hf,by omega⟩ h6
   ·exact hc
  rcases h24 with e | e
  ·exact ⟨W,H,3,hW,hH,a1,a2,a3,a4,.inl ⟨e,rfl⟩,by rw [h.need,hn,e];rfl,h6'⟩
  ·exact ⟨W,H,4,hW,hH,a1,a2,a3,a4,.inr ⟨e,rfl⟩,by rw [h.need,hn,e];rfl,h6'⟩
noncomputable def madeL (C:LdK) (b:List UInt8):Nat×Nat×Nat×List UInt8 :=
 if C.k.Format=100 then qmd b ((C.most/4:Nat):Int)
 else if b.length<C.need then (2,0,0,[])
 else if b.length>C.need then (5,0,0,[])
 else (0,C.k.W.toNat,C.k.H.toNat,fromP (if C.k.Format=24 then 3 else 4) (C.k.W.toNat*C.k.H.toNat) b)
def roomL (C:LdK):Nat:=if C.k.Format=100 then C.most else C.need
noncomputable def lastL (C:LdK) (b:List UInt8):Nat×Nat×Nat×List UInt8 :=
 if C.k.Zip=122 then
  (
   if unErr (roomL C) b≠0 then (unErr (roomL C) b,0,0,[])
   else if qnu (roomL C) b<b.length then (3,0,0,[])
   else madeL C (unOut (roomL C) b))
 else madeL C b
def shutL (s:LdS):LdS:={ s with over:=true }
noncomputable def resL (C:LdK) (s:LdS):Nat×Nat×Nat×List UInt8 :=
 if s.over then (7,0,0,[]) else if (endL C (shutL s)).err≠0 then ((endL C (shutL s)).err,0,0,[]) else lastL C (endL C (shutL s)).b
def overL (C:LdK) (s:LdS):LdS:=if s.over then s else { endL C (shutL s) with b:=[] }
section
variable {w:World} {B g gd:Nat} {C:LdK} {s:LdS} {S:Nat->Prop}
theorem MatR.zero (w:World) (base e:Nat):MatR w base ⟨0,0,⟨none,0,0⟩⟩ (e,0,0,[]):=⟨rfl,rfl,Go.Vc.Own.nil _ _ _⟩
theorem q81 {W H:Nat} {b:Slc} {bs:List UInt8} (hW1:1<=W) (hW2:W<=16384) (hH1:1<=H) (hH2:H<=16384) (hA:W*H<=67108864) (hb:Rd qae w b bs) (hl:bs.length<=1000000000) (hn:¬bs.length<3*W*H) {K:qac->Int->World->Prop}
  (hL:bs.length>3*W*H->∀w',Below w.heap.size w w'->K ⟨0,0,⟨none,0,0⟩⟩ 5 w') (hO:bs.length=3*W*H->∀s w',Go.Vc.Own qae w' w.heap.size s (fromP 3 (W*H) bs)->Below w.heap.size w w'->K ⟨W,H,s⟩ 0 w'):qob (W:Int) (H:Int) b w K:=by
 refine q0t _ _ _ ?_;unfold qs3;refine nwb fun w1 h1 hB1 hs1=>?_;refine q6t (per:=3) (by omega) hW1 hW2 hH1 hH2 hA (hb.ext hB1) hl (fun h=>absurd h hn) (fun h w2 hB2=>?_) (fun h s w2 hs hB2=>?_)
 ·exact qbm (r:=qac.rep) (x:=⟨0,0,⟨none,0,0⟩⟩) (h1.ext hB2) rfl rfl fun w3 hc3 hs3=>hL h w3 (b1o (bT hB1 hB2) hc3 (le_refl _))
 ·exact qbm (r:=qac.rep) (x:=⟨W,H,s⟩) (h1.ext hB2) rfl rfl fun w3 hc3 hs3=>hO h s w3 ((hs.chg hc3 fun k hk=>qa0 hs (h1.ext hB2) (by decide) k hk).base hB1.size) (b1o (bT hB1 hB2) hc3 (le_refl _))
theorem q72 {W H:Nat} {b:Slc} {bs:List UInt8} (hW1:1<=W) (hW2:W<=16384) (hH1:1<=H) (hH2:H<=16384) (hA:W*H<=67108864) (hb:Rd qae w b bs) (hl:bs.length<=1000000000) (hn:¬bs.length<4*W*H) {K:qac->Int->World->Prop}
  (hL:bs.length>4*W*H->∀w',Below w.heap.size w w'->K ⟨0,0,⟨none,0,0⟩⟩ 5 w') (hO:bs.length=4*W*H->∀s w',Go.Vc.Own qae w' w.heap.size s (fromP 4 (W*H) bs)->Below w.heap.size w w'->K ⟨W,H,s⟩ 0 w'):ql3 (W:Int) (H:Int) b w K:=by
 refine qza _ _ _ ?_;unfold qrl;refine nwb fun w1 h1 hB1 hs1=>?_;refine q6t (per:=4) (by omega) hW1 hW2 hH1 hH2 hA (hb.ext hB1) hl (fun h=>absurd h hn) (fun h w2 hB2=>?_) (fun h s w2 hs hB2=>?_)
 ·exact qbm (r:=qac.rep) (x:=⟨0,0,⟨none,0,0⟩⟩) (h1.ext hB2) rfl rfl fun w3 hc3 hs3=>hL h w3 (b1o (bT hB1 hB2) hc3 (le_refl _))
 ·exact qbm (r:=qac.rep) (x:=⟨W,H,s⟩) (h1.ext hB2) rfl rfl fun w3 hc3 hs3=>hO h s w3 ((hs.chg hc3 fun k hk=>qa0 hs (h1.ext hB2) (by decide) k hk).base hB1.size) (b1o (bT hB1 hB2) hc3 (le_refl _))
theorem za1 {p:Slc} {held err:Nat} {over:Bool} (hb:Blk w g qcd (qdp gd C p held err over)) (hC:CfgOk C) {b:Slc} {bs:List UInt8} (hr:Rd qae w b bs) (hrl:∀k,b.blk=some k->k<w.heap.size) (hl:bs.length<=1000000) {K:qac->Int->World->Prop}
  (hK:∀m w',MatR w' w.heap.size m (madeL C bs)->Below w.heap.size w w'->K m ((madeL C bs).1:Nat) w'):qin (some ⟨g,0,none⟩) b w K:=by
 refine qvm _ _ ?_;unfold qn5;simp only [onPtr_some];have hmost:=hC.most;refine nwb fun w1 h1 hB1 hs1=>jpO fun J1 hJ1=>?_;have hb1:=hb.ext hB1;refine lI (x:=C.k.Format) (hb1.cells 6 _ rfl) (jpO fun J2 hJ2=>?_);unfold madeL at hK;have told:∀(m:qac) (e:Nat) (r:Nat×Nat×Nat×List UInt8) w2,MatR w2 (w.heap.size+1) m r->Below w1.heap.size w1 w2->(∀w',MatR w' w.heap.size m r->Below w.heap.size w w'->K m (e:Int) w') ->
   stK ⟨w.heap.size,0,none⟩ (qac.rep.cells m) w2 fun w4=>ldS qac.rep ⟨w.heap.size,0,none⟩ w4 fun r=>K r (e:Int) w4:=by
  intro m e r w2 hm hB2 hk;refine qbm (r:=qac.rep) (x:=m) (h1.ext hB2) rfl rfl fun w4 hc4 hs4=>?_;exact hk w4 ⟨hm.1,hm.2.1,(hm.2.2.chg hc4 fun k hk e=>by have:=(hm.2.2.lt k hk).1;omega).base (by omega)⟩ (b1o (bT hB1 hB2) hc4 (le_refl _))
 refine cO (fun e=>?_) fun e=>?_
 ·have e:C.k.Format=100:=eq_of_beq e;rw [if_pos e] at hK;refine lI (x:=(C.most:Int)) (hb1.cells 23 _ rfl) ⟨by decide,?_⟩;rw [show (4:Int)=((4:Nat):Int) from rfl,<-Int.ofNat_tdiv,w64i (x:=((C.most/4:Nat):Int)) (by omega)];refine zab (hr.ext hB1) (fun k hk=>by have:=hrl k hk;omega) hl (by omega) (fun hne w2 hB2=>?_) (fun W H m hde s2 w2 hs2 hml hB2=>?_)
  ·have hz:∀b px,(qmd b px).1≠0->∃e,qmd b px=(e,0,0,[]):=by
    intro b px h;unfold qmd at h ⊢;split
    ·exact ⟨_,rfl⟩
    ·rename_i h1;rw [if_neg h1] at h;unfold decF at h ⊢;split
     ·exact ⟨_,rfl⟩
     ·rename_i h2;rw [if_neg h2] at h;split
      ·exact ⟨_,rfl⟩
      ·rename_i h3;rw [if_neg h3] at h;split
       ·exact ⟨_,rfl⟩
       ·rename_i m hm;rw [hm] at h;exact absurd rfl h
   obtain ⟨e',he'⟩:=hz _ _ hne;rw [he'] at hK ⊢;exact told _ e' (e',0,0,[]) w2 (MatR.zero _ _ _) hB2 fun w' hm hB=>hK _ w' hm hB
  ·rw [hde] at hK;exact told ⟨W,H,s2⟩ 0 (0,W,H,m) w2 ⟨rfl,rfl,hs2.base (by omega)⟩ hB2 fun w' hm hB=>hK _ w' hm hB
 ·have e:C.k.Format≠100:=by simpa using e
  rw [if_neg e] at hK;obtain ⟨W,H,per,hW,hH,a1,a2,a3,a4,hper,hneed,hmo⟩:=hC.sides e;have hpm:per*W*H=per*(W*H):=mul_assoc _ _ _;have hWn:C.k.W.toNat=W:=by rw [hW];rfl
  have hHn:C.k.H.toNat=H:=by rw [hH];rfl
  have hpe:(if C.k.Format=24 then 3 else 4:Nat)=per:=by
   rcases hper with ⟨h1,h2⟩ | ⟨h1,h2⟩
   ·rw [if_pos h1,h2]
   ·rw [if_neg (by omega),h2]
  rw [hWn,hHn,hpe] at hK;have hA:W*H<=67108864:=by omega
  have go:∀f:Value,(∀w2,Below w1.heap.size w1 w2->¬bs.length<C.need->callR Go.Proofs.YtedcpbkcamckoaaGreatDoor.C f [(.int .i64 (W:Int)),(.int .i64 (H:Int)),(.slice b.a b.n b.c)] [(Kind.struct qac.rep),(Kind.int .i64)] w2 fun (t45:qac) (t45_1:Int) w3=>stK ⟨w.heap.size,0,none⟩ (qac.rep.cells t45) w3 fun w4=>ldS qac.rep ⟨w.heap.size,0,none⟩ w4 fun r=>K r t45_1 w4)->J2 (f,()) w1:=by
   intro f hf;refine hJ2 _ _ ?_;refine lI (x:=(C.need:Int)) (hb1.cells 24 _ rfl) ?_;rw [hr.n];refine cO (fun e2=>?_) fun e2=>?_
   ·have e2:=oTq e2;rw [if_pos (by omega)] at hK;exact told ⟨0,0,⟨none,0,0⟩⟩ 2 (2,0,0,[]) w1 (MatR.zero _ _ _) (Below.refl _ _) fun w' hm hB=>hK _ w' hm hB
   ·have e2:=oFq e2;refine hJ1 _ _ ?_;have hbd:=hb1.ext (bdw w1);refine lI (x:=(W:Int)) (by rw [<-hW];exact hbd.cells 7 _ rfl) (lI (x:=(H:Int)) (by rw [<-hH];exact hbd.cells 8 _ rfl) ?_);exact hf w1.drew (bdw w1) (by omega)
  have hs1':=hB1.size;refine cO (fun e24=>go _ fun w2 hB2 hn=>qgq (by kernel_rfl) ?_) fun e24=>go _ fun w2 hB2 hn=>qgq (by kernel_rfl) ?_
  ·have e24:C.k.Format=24:=eq_of_beq e24;have hp:per=3:=by omega
   subst hp;have hcall:qob (W:Int) (H:Int) b w2 fun t45 t45_1 w3=>stK ⟨w.heap.size,0,none⟩ (qac.rep.cells t45) w3 fun w4=>ldS qac.rep ⟨w.heap.size,0,none⟩ w4 fun r=>K r t45_1 w4:=by
    refine q81 a1 a2 a3 a4 hA (hr.ext (bT hB1 hB2)) (by omega) (by omega) (fun h w3 hB3=>?_) (fun h s3 w3 hs3 hB3=>?_)
    ·rw [if_neg hn,if_pos (by omega)] at hK;exact told ⟨0,0,⟨none,0,0⟩⟩ 5 (5,0,0,[]) w3 (MatR.zero _ _ _) (bT hB2 hB3) fun w' hm hB=>hK _ w' hm hB
    ·rw [if_neg hn,if_neg (by omega)] at hK;have hs2:=hB2.size;exact told ⟨W,H,s3⟩ 0 (0,W,H,fromP 3 (W*H) bs) w3 ⟨rfl,rfl,hs3.base (by omega)⟩ (bT hB2 hB3) fun w' hm hB=>hK _ w' hm hB
   refine Calls.mono hcall ?_;rintro ev w' ⟨r0,r1,rfl,hk⟩;exact ⟨r0,r1,rfl,hk⟩
  ·have e24:C.k.Format≠24:=by simpa using e24
   have hp:per=4:=by omega
   subst hp;have hcall:ql3 (W:Int) (H:Int) b w2 fun t45 t45_1 w3=>stK ⟨w.heap.size,0,none⟩ (qac.rep.cells t45) w3 fun w4=>ldS qac.rep ⟨w.heap.size,0,none⟩ w4 fun r=>K r t45_1 w4:=by
    refine q72 a1 a2 a3 a4 hA (hr.ext (bT hB1 hB2)) (by omega) (by omega) (fun h w3 hB3=>?_) (fun h s3 w3 hs3 hB3=>?_)
    ·rw [if_neg hn,if_pos (by omega)] at hK;exact told ⟨0,0,⟨none,0,0⟩⟩ 5 (5,0,0,[]) w3 (MatR.zero _ _ _) (bT hB2 hB3) fun w' hm hB=>hK _ w' hm hB
    ·rw [if_neg hn,if_neg (by omega)] at hK;have hs2:=hB2.size;exact told ⟨W,H,s3⟩ 0 (0,W,H,fromP 4 (W*H) bs) w3 ⟨rfl,rfl,hs3.base (by omega)⟩ (bT hB2 hB3) fun w' hm hB=>hK _ w' hm hB
   refine Calls.mono hcall ?_;rintro ev w' ⟨r0,r1,rfl,hk⟩;exact ⟨r0,r1,rfl,hk⟩
theorem q75 {p:Slc} {held err:Nat} {over:Bool} (hb:Blk w g qcd (qdp gd C p held err over)) (hC:CfgOk C) {b:Slc} {bs:List UInt8} (hr:Rd qae w b bs) (hrl:∀k,b.blk=some k->k<w.heap.size) (hl:bs.length<=1000000) {K:Slc->Int->World->Prop}
  (hE:∀e:Nat,e≠0->e=(if unErr (roomL C) bs≠0 then unErr (roomL C) bs else 3)->(unErr (roomL C) bs≠0\/qnu (roomL C) bs<bs.length)->∀t w',Below w.heap.size w w'->K t (e:Int) w')
  (hO:unErr (roomL C) bs=0->¬qnu (roomL C) bs<bs.length->∀t w',Go.Vc.Own qae w' w.heap.size t (unOut (roomL C) bs)->(unOut (roomL C) bs).length<=roomL C->Below w.heap.size w w'->K t 0 w'):qhx (some ⟨g,0,none⟩) b w K:=by
 refine qt3 _ _ ?_;unfold qmw;simp only [onPtr_some];have hmost:=hC.most;refine lI (x:=(C.need:Int)) (hb.cells 24 _ rfl) (jpO fun J1 hJ1=>?_);have hroom:roomL C<=400000:=by
  unfold roomL;split
  ·omega
  ·rename_i hf;obtain ⟨W,H,per,_,_,_,_,_,_,hper,hneed,hmo⟩:=hC.sides hf;have:per*W*H<=4*(W*H):=by rw [mul_assoc];exact Nat.mul_le_mul_right _ (by omega)
   omega
 have key:J1 ((roomL C:Int),()) w:=by
  refine hJ1 _ _ ?_;obtain ⟨u1,u2,u3⟩:=q4m (roomL C) bs;refine q16 (by omega) hr hrl (by omega) u1 u2 u3 (fun hz o w2 ho hB2=>?_) (fun n hz hn w2 hB2=>?_)
  ·have hz:unErr (roomL C) bs=0:=hz;have hu:((6+((unRun (roomL C) bs).2.1+7)/8:Nat):Int)=((qnu (roomL C) bs:Nat):Int):=rfl;have hoo:(unRun (roomL C) bs).1.hist=unOut (roomL C) bs:=rfl;rw [hu];rw [hoo] at ho;have hxm:(unOut (roomL C) bs).length<=roomL C:=u1.most (zero_le _);refine jpO fun J2 hJ2=>cT rfl ?_;rw [hr.n];refine cO (fun e=>hJ2 _ _ ?_) fun e=>hJ2 _ _ ?_
   ·have e:=oTq e;exact hE 3 (by decide) (by rw [if_neg (by omega)]) (.inr (by omega)) o w2 hB2
   ·have e:=oFq e;exact hO hz (by omega) o w2 ho hxm hB2
  ·have hz:unErr (roomL C) bs=n:=hz;refine jpO fun J2 hJ2=>cF (qtd (by omega)) (hJ2 _ _ ?_);exact hE n hn (by rw [hz,if_pos hn]) (.inl (by omega)) _ w2 hB2
 refine lI (x:=C.k.Format) (hb.cells 6 _ rfl) (cO (fun e=>?_) fun e=>?_)
 ·have e:C.k.Format=100:=eq_of_beq e;refine lI (x:=(C.most:Int)) (hb.cells 23 _ rfl) ?_;unfold roomL at key;rw [if_pos e] at key;exact key
 ·have e:C.k.Format≠100:=by simpa using e
  unfold roomL at key;rw [if_neg e] at key;exact key
end
theorem zf4 (C:LdK) (s:LdS) (r:Nat×List UInt8×B64):(gotL C s r).over=s.over:=by
 unfold gotL failL
 repeat' split
 all_goals rfl
theorem zg5 (C:LdK) (s:LdS):(endL C s).over=s.over:=by
 unfold endL;split
 ·rfl
 ·exact zf4 _ _ _
theorem q4h (s:B64) (hs:B64Ok s):(qi4 s).2.1.length<=3:=by
 unfold qi4;split
 ·simp
 ·have h1:=hs.n;have h2:=zii s.w (by omega);dsimp only;omega
theorem zgi (s:B64):B64Ok (qi4 s).2.2:=by
 unfold qi4;split
 ·exact q50
 ·exact zbo
theorem zim (C:LdK) (s:LdS) (hs:B64Ok s.d):(endL C s).b.length<=s.b.length+3:=by
 unfold endL;split
 ·omega
 ·have h1:=zhv C s (qi4 s.d);have h2:=q4h s.d hs;omega
section
variable {w:World} {B g gd:Nat} {C:LdK} {s:LdS} {S:Nat->Prop}
theorem zer (h:LdA w B g gd C s S) (hBw:B<=w.heap.size) (hC:CfgOk C) (hsm:s.b.length<=32000) {K:qac->Int->World->Prop}
  (hK:∀m S' w',LdA w' B g gd C (overL C s) S'->MatR w' w.heap.size m (resL C s)->(∀k,m.P.blk=some k->¬S' k)->(∀k,S' k->S k\/w.heap.size<=k)->Chg S w w'->K m (((resL C s).1:Nat):Int) w'):qk7 (some ⟨g,0,none⟩) w K:=by
 refine qx1 _ ?_;unfold qp9;simp only [onPtr_some];refine nwb fun w1 h1 hB1 hs1=>?_;have hA1:=h.ext hB1;obtain ⟨p0,hb0,hp0⟩:=hA1.ex;have hgw:∀k,S k->k≠w.heap.size:=fun k hk e=>by have:=(h.lt k hk).2;omega
 refine qc5 (x:=s.over) (hb0.cells 28 _ rfl) ?_;unfold resL overL at hK;refine cO (fun e=>?_) fun e=>?_
 ·have e:s.over=true:=e;rw [if_pos e,if_pos e] at hK;refine qbm (r:=qac.rep) (x:=⟨0,0,⟨none,0,0⟩⟩) h1 rfl rfl fun w2 hc2 hs2=>?_;exact hK _ S w2 (hA1.chg hc2 fun k hk=>hgw k hk) (MatR.zero _ _ _) (fun k hk=>by cases hk) (fun k hk=>.inl hk) ((Chg.of_ext (S:=S) hB1).trans hc2 fun k hk e=>by omega)
 have e:s.over=false:=e;rw [if_neg (by rw [e];decide),if_neg (by rw [e];decide)] at hK;rw [qas];refine qaj hb0 (by simp [qdp,qaa.rep]) fun w3 hb3 hg3 hs3=>?_;have hc3:Chg (fun k=>k=g) w1 w3:=Chg.gg hg3;have hb3:Blk w3 g qcd (qdp gd C p0 s.b.length s.err true):=hb3;obtain ⟨s0,hs0⟩:∃s0,s0=shutL s:=⟨_,rfl⟩;have hd3:DecB w3 gd s.d:=Blk.chg hA1.d hc3 fun e=>by subst e;exact hA1.d.ne_t hb0 (by decide) rfl
 have hA3:LdA w3 B g gd C s0 S:=by
  rw [hs0];refine ⟨⟨p0,hb3,?_⟩,hd3,h.ok,h.sg,h.sd,fun k hk=>⟨(h.lt k hk).1,by have:=(h.lt k hk).2;have:=hB1.size;have:=hc3.size;omega⟩⟩;rcases hp0 with h | ⟨x,a1,a2,a3,a4,a5⟩
  ·exact .inl h
  ·exact .inr ⟨x,a1.chg hc3 fun k hk=>qa0 a1 hb0 (by decide) k hk,a2.chg hc3 fun k hk=>qa0 a2 hb0 (by decide) k hk,a3,a4,a5⟩
 have h13:Blk w3 w.heap.size qaq _:=h1.chg hc3 fun e=>hgw g h.sg e.symm;have hC03:Chg S w w3:=(Chg.of_ext (S:=S) hB1).trans hc3 fun k _ hk=>by subst hk;exact h.sg
 have hsz3:w.heap.size+1<=w3.heap.size:=by have:=hc3.size;omega
 have hs0b:s0.b=s.b:=by rw [hs0];rfl
 have hs0e:s0.err=s.err:=by rw [hs0];rfl
 rw [<-hs0] at hK;refine jpO fun J1 hJ1=>?_;have main:∀S' w4,LdA w4 B g gd C (endL C s0) S'->(∀k,S' k->S k\/w3.heap.size<=k)->Chg S w3 w4->J1 () w4:=by
  intro S' w4 h4 hS' hc4;refine hJ1 _ _ ?_;have hlen:(endL C s0).b.length<=32003:=by
   have:=zim C s0 hA3.ok;rw [hs0b] at this;omega
  obtain ⟨E,hE⟩:∃E,E=endL C s0:=⟨_,rfl⟩;have hEo:E.over=true:=by rw [hE,zg5,hs0];rfl
  rw [<-hE] at h4 hK hlen;have h14:Blk w4 w.heap.size qaq _:=h13.chg hc4 fun hk=>hgw _ hk rfl;have hs4:=hc4.size;have hwS':∀k,S' k->k≠w.heap.size:=fun k hk e=>by
   rcases hS' k hk with h | h
   ·exact hgw k h e
   ·omega
  obtain ⟨p,hb,hp⟩:=h4.ex;refine lSl (x:=p) (hb.cells 25 _ rfl) ?_;have cat:∀(K:Slc->World->Prop),(∀o w5,Go.Vc.Own qae w5 w4.heap.size o E.b->Below w4.heap.size w4 w5->K o w5)->qbi p w4 K:=by
   intro K hk;rcases hp with ⟨h1,rfl⟩ | ⟨x,a1,a2,a3,a4,a5⟩
   ·refine qtf (p:=⟨none,0,0⟩) (ss:=[]) (xss:=[]) (Rd.nil slsE w4) ⟨rfl,fun i s xs hs=>by simp at hs⟩ (by simp) (by simp) fun r w5 hr hB5=>?_;rw [h1] at hk;exact hk r w5 hr hB5
   ·have hrd:Rd slsE w4 p [x]:=a1.rd;refine qtf (p:=p) (ss:=[x]) (xss:=[E.b]) hrd ⟨rfl,fun i s xs hs hx=>?_⟩ (by simp;omega) (by simp) fun r w5 hr hB5=>?_
    ·match i,hs,hx with
     | 0,hs,hx=>cases hs;cases hx;exact a2.rd
     | i+1,hs,hx=>simp at hs
    ·refine hk r w5 ?_ hB5;simpa using hr
  refine cat _ fun o w5 ho hB5=>?_;refine qml _ ?_;unfold qiq;simp only [onPtr_some];have hb5:=hb.ext hB5;rw [qas];refine qaj hb5 (by simp [qdp,qaa.rep]) fun w6' hb6' hg6' hs6'=>?_;rw [qas];refine qaj hb6' (by simp [qdp,qaa.rep,putL]) fun w6 hb6 hg6 hs6=>?_;have hc6:Chg (fun k=>k=g) w5 w6:=(Chg.gg hg6').trans (Chg.gg hg6) fun i _ hi=>hi;have hb6:Blk w6 g qcd (qdp gd C ⟨none,0,0⟩ 0 E.err E.over):=hb6;have hd6:DecB w6 gd E.d:=Blk.chg (Blk.ext h4.d hB5) hc6 fun e=>by subst e;exact (Blk.ext h4.d hB5).ne_t hb5 (by decide) rfl
  have hs5:=hB5.size;have hs6z:=hc6.size;have hA6:LdA w6 B g gd C { E with b:=[] } S':=⟨⟨⟨none,0,0⟩,hb6,.inl ⟨rfl,rfl⟩⟩,hd6,h4.ok,h4.sg,h4.sd,fun k hk=>⟨(h4.lt k hk).1,by have:=(h4.lt k hk).2;omega⟩⟩;have ho6:=ho.chg hc6 fun k hk e=>by have:=(ho.lt k hk).1;have:=(h4.lt g h4.sg).2;omega
  have h16:Blk w6 w.heap.size qaq _:=(h14.ext hB5).chg hc6 fun e=>hwS' g h4.sg e.symm;have hC6:Chg S w w6:=by
   refine ((hC03.trans hc4 fun k _ hk=>hk).trans (Chg.of_ext (S:=S) hB5) fun k _ hk=>hk).trans hc6 fun k _ hk=>?_;subst hk;exact h.sg
  have hgrow:∀k,S' k->S k\/w.heap.size<=k:=fun k hk=>by
   rcases hS' k hk with h | h
   ·exact .inl h
   ·right;omega
  refine lI (x:=(E.err:Int)) (hb6.cells 27 _ rfl) ?_;have told:∀(m:qac) (e:Nat) (r:Nat×Nat×Nat×List UInt8) w9,MatR w9 w6.heap.size m r->Below w6.heap.size w6 w9->(∀S' w',LdA w' B g gd C { E with b:=[] } S'->MatR w' w.heap.size m r->(∀k,m.P.blk=some k->¬S' k)->(∀k,S' k->S k\/w.heap.size<=k)->Chg S w w'->K m (e:Int) w') ->
    stK ⟨w.heap.size,0,none⟩ (qac.rep.cells m) w9 fun w10=>LdA w10 B g gd C { E with b:=[] } S'->ldS qac.rep ⟨w.heap.size,0,none⟩ w10 fun r=>K r (e:Int) w10:=by
   intro m e r w9 hm hB9 hk;refine qbx (h16.ext hB9) rfl fun w10 hb10 hc10 hs10 hA10=>?_;refine qal (r:=qac.rep) (x:=m) hb10.cells ?_;refine hk S' w10 hA10 ⟨hm.1,hm.2.1,(hm.2.2.chg hc10 fun k hk e=>by have:=(hm.2.2.lt k hk).1;omega).base (by omega)⟩ (fun k hk hS=>by have h1:=(hm.2.2.lt k hk).1;have h2:=(hA6.lt k hS).2;omega) hgrow ((hC6.trans (Chg.of_ext (S:=S) hB9) fun k _ hk=>hk).trans hc10 fun k hk e=>by omega)
  have keepA:∀{w9 w10},Below w6.heap.size w6 w9->Chg (fun k=>k=w.heap.size) w9 w10->LdA w10 B g gd C { E with b:=[] } S':=fun hB9 hc10=>(hA6.ext hB9).chg hc10 fun k hk=>hwS' k hk;refine cO (fun e2=>?_) fun e2=>?_
  ·have e2:E.err≠0:=fun h=>by rw [h] at e2;cases e2
   rw [if_pos e2] at hK;have hBd:=bdw w6;refine lI (x:=(E.err:Int)) ((hb6.ext hBd).cells 27 _ rfl) ?_;refine qbx (h16.ext hBd) rfl fun w7 hb7 hc7 hs7=>?_;have hA7:=keepA hBd hc7;obtain ⟨p7,hb7',_⟩:=hA7.ex;refine ⟨hb7'.cells 27 _ rfl,qal (r:=qac.rep) (x:=⟨0,0,⟨none,0,0⟩⟩) hb7.cells ?_⟩;exact hK _ S' w7 hA7 (MatR.zero _ _ _) (fun k hk=>by cases hk) hgrow ((hC6.trans (Chg.of_ext (S:=S) hBd) fun k _ hk=>hk).trans hc7 fun k hk e=>by omega)
  have e2:E.err=0:=by
   rcases Nat.eq_zero_or_pos E.err with h | h
   ·exact h
   ·rw [qf7 (by omega)] at e2;cases e2
  rw [if_neg (by omega)] at hK;refine jpO fun J2 hJ2=>?_;unfold lastL at hK;have img:∀(b:Slc) (bs:List UInt8) w8,Go.Vc.Own qae w8 w4.heap.size b bs->bs.length<=1000000->Below w6.heap.size w6 w8->(∀m S' w',LdA w' B g gd C { E with b:=[] } S'->MatR w' w.heap.size m (madeL C bs)->(∀k,m.P.blk=some k->¬S' k)->(∀k,S' k->S k\/w.heap.size<=k)->Chg S w w'->K m (((madeL C bs).1:Nat):Int) w')->J2 (b,()) w8:=by
   intro b bs w8 hbo hbl hB8 hk;refine hJ2 _ _ ?_;refine za1 (hb6.ext hB8) hC hbo.rd (fun k hk=>(hbo.lt k hk).2) hbl fun m w9 hm hB9=>?_;have hB69:=bT hB8 hB9;have:=told m (madeL C bs).1 (madeL C bs) w9 ⟨hm.1,hm.2.1,hm.2.2.base hB8.size⟩ hB69 (fun S' w'=>hk m S' w');refine qbx (h16.ext hB69) rfl fun w10 hb10 hc10 hs10=>?_;refine qal (r:=qac.rep) (x:=m) hb10.cells ?_;have hm':=hm.2.2.base (base':=w6.heap.size) hB8.size;exact hk m S' w10 (keepA hB69 hc10) ⟨hm.1,hm.2.1,(hm'.chg hc10 fun k hk e=>by have:=(hm'.lt k hk).1;omega).base (by omega)⟩ (fun k hk hS=>by have h1:=(hm'.lt k hk).1;have h2:=(hA6.lt k hS).2;omega) hgrow ((hC6.trans (Chg.of_ext (S:=S) hB69) fun k _ hk=>hk).trans hc10 fun k hk e=>by omega)
  refine lI (x:=C.k.Zip) (hb6.cells 3 _ rfl) (cO (fun ez=>?_) fun ez=>?_)
  ·have ez:C.k.Zip=122:=eq_of_beq ez;rw [if_pos ez] at hK;refine q75 hb6 hC ho6.rd (fun k hk=>(ho6.lt k hk).2) (by omega) (fun er hne her hor t w8 hB8=>?_) (fun hz hu t w8 ht htl hB8=>?_)
   ·refine cT (qf7 (by omega)) ?_;refine qbx (h16.ext hB8) rfl fun w9 hb9 hc9 hs9=>?_;refine qal (r:=qac.rep) (x:=⟨0,0,⟨none,0,0⟩⟩) hb9.cells ?_;have hval:(if unErr (roomL C) E.b≠0 then (unErr (roomL C) E.b,0,0,[]) else if qnu (roomL C) E.b<E.b.length then (3,0,0,[]) else madeL C (unOut (roomL C) E.b))=(er,0,0,[]):=by
     by_cases hz:unErr (roomL C) E.b≠0
     ·rw [if_pos hz] at her ⊢;rw [her]
     ·rw [if_neg hz] at her ⊢;rw [if_pos (by rcases hor with h | h;exact absurd h hz;exact h),her]
    rw [hval] at hK;exact hK _ S' w9 (keepA hB8 hc9) (MatR.zero _ _ _) (fun k hk=>by cases hk) hgrow ((hC6.trans (Chg.of_ext (S:=S) hB8) fun k _ hk=>hk).trans hc9 fun k hk e=>by omega)
   ·refine cF rfl ?_;rw [if_neg (by omega),if_neg hu] at hK;have hroom:roomL C<=400000:=by
     have hmost:=hC.most;unfold roomL;split
     ·omega
     ·rename_i hf;obtain ⟨W,H,per,_,_,_,_,_,_,hper,hneed,hmo⟩:=hC.sides hf;have:per*W*H<=4*(W*H):=by rw [mul_assoc];exact Nat.mul_le_mul_right _ (by omega)
      omega
    exact img t _ w8 (ht.base (by omega)) (by omega) hB8 hK
  ·have ez:C.k.Zip≠122:=by simpa using ez
   rw [if_neg ez] at hK;exact img o E.b w6 ho6 (by omega) (Below.refl _ _) hK
 refine lI (x:=(s.err:Int)) (hb3.cells 27 _ rfl) (cO (fun e2=>?_) fun e2=>?_)
 ·have e2:s.err=0:=by have:=eq_of_beq e2;omega
  have hee:endL C s0=gotL C s0 (qi4 s0.d):=by unfold endL;rw [if_neg (by omega)]
  refine qa8 (x:=some ⟨gd,0,none⟩) (hb3.cells 0 _ rfl) ?_;refine zgj hA3.d hA3.ok fun t w4 ht htb hd hc=>?_;have hbl:=q4h s0.d hA3.ok;refine q7f hA3 (by omega) ht htb hd (zgi s0.d) hc (by rw [hs0b];omega) (K:=fun w5=>J1 () w5) fun S' w5 h5 hS' hc5=>?_;rw [<-hee] at h5;exact main S' w5 h5 hS' hc5
 ·have e2:s.err≠0:=fun h=>by rw [h] at e2;cases e2
  have hee:endL C s0=s0:=by unfold endL;rw [if_pos (by omega)]
  refine main S w3 (by rw [hee];exact hA3) (fun k hk=>.inl hk) (Chg.refl _ _)
end
structure KE where
 quota:Int
 S:St
 T:List Pl
 ld:Option (LdK×LdS)
 first:qaa
structure KF where
 sg:Nat
 sr:Nat
 tg:Nat
 q:Slc
 lg:Nat
 gd:Nat
 LS:Nat->Prop
def engC (F:KF) (E:KE):List Value:=.int .i64 E.quota::.pointer (some ⟨F.sg,0,none⟩)::.pointer (some ⟨F.tg,0,none⟩)::.pointer (if E.ld.isSome then some ⟨F.lg,0,none⟩ else none)::qaa.rep.cells E.first
def imgS (S:St) (k:Nat):Prop:=∃p∈S.L,p.2.v.m.P.blk=some k
structure EngM (w:World) (base g:Nat) (F:KF) (E:KE) (n:Nat):Prop where
 blk:Blk w g qby (engC F E)
 hg:base<=g
 st:StM w base F.sg F.sr E.S
 ok:StOk n E.S
 hs:base<=F.sg/\base<=F.sr
 tb:PlTM w base F.tg F.q E.T
 tl:E.T.length<=n
 lo:∀C s,E.ld=some (C,s)->LdA w base F.lg F.gd C s F.LS/\CfgOk C
 nl:E.ld=none->∀k,¬F.LS k
 dg:¬F.LS g
 ds:¬F.LS F.sg/\¬F.LS F.sr
 dt:∀k,plS F.tg F.q k->¬F.LS k
 di:∀k,imgS E.S k->¬F.LS k
def engS (g:Nat) (F:KF) (k:Nat):Prop:=k=g\/onS F.sg F.sr k\/plS F.tg F.q k\/F.LS k
structure EngT (base g:Nat) (w:World) (F F':KF) (E':KE) (n':Nat) (w':World):Prop where
 m:EngM w' base g F' E' n'
 old:∀k,engS g F' k->engS g F k\/w.heap.size<=k
 chg:Chg (engS g F) w w'
 ls:∀k,F'.LS k->F.LS k\/w.heap.size<=k
def goneT (T:List Pl) (ids:List Int):List Pl:=ids.foldl (fun T i=>T.filter fun p=>!(p.Image==i)) T
def heldK (E:KE):Nat:=match E.ld with
 | some (_,s)=>s.b.length
 | none=>0
def codW (x:Int):List UInt8:=if x=0 then [79,75] else if x=6 then [69,78,79,83,80,67] else if x=7 then [69,78,79,69,78,84] else [69,73,78,86,65,76]
def toldK (k:qaa) (x:Int) (word:List UInt8):List UInt8:=qw2 (toL k) (if word=[] then codW x else word)
namespace KE
def reserve (E:KE) (n:Int):KE×Int :=
 if n<0 then (E,1) else if n>E.quota then (E,6)
 else ({ E with S:=(E.S.reserve (wi (n+heldK E))).1,T:=goneT E.T (E.S.reserve (wi (n+heldK E))).2.1 },(E.S.reserve (wi (n+heldK E))).2.2)
def idle (E:KE):KE:={ E with ld:=none,S:={ E.S with res:=0 } }
end KE
section
variable {w w':World} {base g n:Nat} {F F':KF} {E E':KE}
theorem EngM.below (h:EngM w base g F E n):∀k,engS g F k->base<=k/\k<w.heap.size:=by
 rintro k (rfl | (rfl | rfl) | hk | hk)
 ·exact ⟨h.hg,h.blk.lt⟩
 ·exact ⟨h.hs.1,h.st.blk.lt⟩
 ·exact ⟨h.hs.2,h.st.map.lt⟩
 ·exact h.tb.lt k hk
 ·cases hl:E.ld with
  | none=>exact absurd hk (h.nl hl k)
  | some x=>exact (h.lo x.1 x.2 hl).1.lt k hk
theorem EngT.refl (h:EngM w base g F E n):EngT base g w F F E n w:=⟨h,fun k hk=>.inl hk,Chg.refl _ _,fun k hk=>.inl hk⟩
theorem EngT.trans {w1 w2:World} {F1 F2:KF} {E1 E2:KE} {n1 n2:Nat} (h:EngT base g w F F1 E1 n1 w1) (h2:EngT base g w1 F1 F2 E2 n2 w2):EngT base g w F F2 E2 n2 w2:=by
 have hs:=h.chg.size;refine ⟨h2.m,fun k hk=>?_,h.chg.trans h2.chg fun k hk hS=>?_,fun k hk=>?_⟩
 ·rcases h2.old k hk with h3 | h3
  ·exact h.old k h3
  ·right;omega
 ·rcases h.old k hS with h3 | h3
  ·exact h3
  ·omega
 ·rcases h2.ls k hk with h3 | h3
  ·exact h.ls k h3
  ·right;omega
theorem EngM.ext (h:EngM w base g F E n) (hB:Below w.heap.size w w'):EngM w' base g F E n :=
 ⟨h.blk.ext hB,h.hg,h.st.ext hB,h.ok,h.hs,h.tb.ext hB,h.tl,fun C s hl=>⟨(h.lo C s hl).1.ext hB,(h.lo C s hl).2⟩,h.nl,h.dg,h.ds,h.dt,h.di⟩
theorem EngT.ext {w1 w2:World} {F1:KF} {E1:KE} {n1:Nat} (h:EngT base g w F F1 E1 n1 w1) (hB:Below w1.heap.size w1 w2):EngT base g w F F1 E1 n1 w2 :=
 ⟨h.m.ext hB,h.old,h.chg.trans (Chg.of_ext (S:=engS g F) hB) fun k _ hS=>hS,h.ls⟩
theorem EngT.of_ext (h:EngM w base g F E n) (hB:Below w.heap.size w w'):EngT base g w F F E n w':=(EngT.refl h).ext hB
theorem EngM.drew (h:EngM w base g F E n):EngM w.drew base g F E n:=h.ext (qcg w)
theorem EngM.mono (h:EngM w base g F E n) {m:Nat} (hm:n<=m) (hok:StOk m E.S):EngM w base g F E m:=⟨h.blk,h.hg,h.st,hok,h.hs,h.tb,le_trans h.tl hm,h.lo,h.nl,h.dg,h.ds,h.dt,h.di⟩
theorem EngM.g_tg (h:EngM w base g F E n):g≠F.tg:=h.blk.ne_t h.tb.blk (by decide)
theorem EngM.g_q (h:EngM w base g F E n):∀k,F.q.blk=some k->k≠g:=qa0 h.tb.own h.blk (by decide)
theorem EngM.g_sg (h:EngM w base g F E n):g≠F.sg:=h.blk.ne_t h.st.blk (by decide)
theorem EngM.g_sr (h:EngM w base g F E n):g≠F.sr:=fun e=>h.st.map.ne_blk h.blk e.symm
theorem EngM.tg_sg (h:EngM w base g F E n):F.tg≠F.sg:=h.tb.blk.ne_t h.st.blk (by decide)
theorem EngM.tg_sr (h:EngM w base g F E n):F.tg≠F.sr:=fun e=>h.st.map.ne_blk h.tb.blk e.symm
theorem EngM.q_sg (h:EngM w base g F E n):∀k,F.q.blk=some k->k≠F.sg:=qa0 h.tb.own h.st.blk (by decide)
theorem EngM.q_sr (h:EngM w base g F E n):∀k,F.q.blk=some k->k≠F.sr:=fun k hk e=>by
 obtain ⟨cs,hcs⟩:=h.tb.own.blk_t hk;exact h.st.map.ne_blk hcs e.symm
theorem EngM.img_tg (h:EngM w base g F E n) {p:Int×Im} (hp:p∈E.S.L) {k:Nat} (hk:p.2.v.m.P.blk=some k):k≠F.tg:=(h.st.img p hp).ne_b h.tb.blk (by decide) k hk
theorem EngM.img_g (h:EngM w base g F E n) {p:Int×Im} (hp:p∈E.S.L) {k:Nat} (hk:p.2.v.m.P.blk=some k):k≠g:=(h.st.img p hp).ne_b h.blk (by decide) k hk
theorem EngT.tab (h:EngM w base g F E n) {q':Slc} {T':List Pl} (ht:PlTM w' base F.tg q' T') (hq:∀k,q'.blk=some k->w.heap.size<=k) (hc:Chg (fun k=>k=F.tg) w w') (hl:T'.length<=n) :
  EngT base g w F { F with q:=q' } { E with T:=T' } n w':=by
 have key:∀k,engS g { F with q:=q' } k->engS g F k\/w.heap.size<=k:=by
  rintro k (hk | hk | (hk | hk) | hk)
  ·exact .inl (.inl hk)
  ·exact .inl (.inr (.inl hk))
  ·exact .inl (.inr (.inr (.inl (.inl hk))))
  ·exact .inr (hq k hk)
  ·exact .inl (.inr (.inr (.inr hk)))
 refine ⟨⟨h.blk.chg hc h.g_tg,h.hg,h.st.keep hc (fun e=>h.tg_sg e.symm) (fun e=>h.tg_sr e.symm) fun p hp k hk e=>h.img_tg hp hk e,h.ok,h.hs,ht,hl,
  fun C s hld=>⟨(h.lo C s hld).1.chg hc fun k hk e=>h.dt k (.inl e) hk,(h.lo C s hld).2⟩,h.nl,h.dg,h.ds,?_,h.di⟩,key,hc.mono fun k _ e=>.inr (.inr (.inl (.inl e))),fun k hk=>.inl hk⟩
 rintro k (hk | hk) hLS
 ·exact h.dt k (.inl hk) hLS
 ·have h1:=hq k hk;have h2:=(h.below k (.inr (.inr (.inr hLS)))).2;omega
theorem EngT.store (h:EngM w base g F E n) {S':St} {m:Nat} (hst:StM w' base F.sg F.sr S') (hok:StOk m S') (hnm:n<=m) (hc:Chg (onS F.sg F.sr) w w') (hi:∀k,imgS S' k->imgS E.S k\/w.heap.size<=k) :
  EngT base g w F F { E with S:=S' } m w':=by
 refine ⟨⟨h.blk.chg hc ?_,h.hg,hst,hok,h.hs,h.tb.chg hc ?_,le_trans h.tl hnm,fun C s hld=>⟨(h.lo C s hld).1.chg hc ?_,(h.lo C s hld).2⟩,h.nl,h.dg,h.ds,h.dt,?_⟩,fun k hk=>.inl hk,hc.mono fun k _ hk=>.inr (.inl hk),fun k hk=>.inl hk⟩
 ·rintro (e | e)
  ·exact h.g_sg e
  ·exact h.g_sr e
 ·rintro k (hk | hk) (e | e)
  ·exact h.tg_sg (hk.symm.trans e)
  ·exact h.tg_sr (hk.symm.trans e)
  ·exact h.q_sg k hk e
  ·exact h.q_sr k hk e
 ·rintro k hk (e | e)
  ·exact h.ds.1 (e ▸ hk)
  ·exact h.ds.2 (e ▸ hk)
 ·intro k hk hLS;rcases hi k hk with h1 | h1
  ·exact h.di k h1 hLS
  ·have:=(h.below k (.inr (.inr (.inr hLS)))).2;omega
theorem EngM.other (h:EngM w base g F E n) {b:Nat} {t:TypeId} {vs:List Value} (hb:Blk w b t vs) (ht:t≠qby/\t≠qbu/\t≠qce/\t≠qat/\t≠qan) (hLS:¬F.LS b) (hc:Chg (fun k=>k=b) w w'):EngM w' base g F E n:=by
 obtain ⟨t1,t2,t3,t4,t5⟩:=ht;refine ⟨h.blk.chg hc fun e=>hb.ne_t h.blk t1 e.symm,h.hg,h.st.keep hc (fun e=>hb.ne_t h.st.blk t2 e.symm) (fun e=>h.st.map.ne_blk hb e) (fun p hp k hk e=>(h.st.img p hp).ne_b hb (fun e=>t5 e.symm) k hk e),h.ok,h.hs,h.tb.chg hc ?_,h.tl,
  fun C s hl=>⟨(h.lo C s hl).1.chg hc fun k hk e=>hLS (e ▸ hk),(h.lo C s hl).2⟩,h.nl,h.dg,h.ds,h.dt,h.di⟩
 rintro k (hk | hk) e
 ·exact hb.ne_t h.tb.blk t3 (e.symm.trans hk)
 ·exact qa0 h.tb.own hb (fun e=>t4 e.symm) k hk e
theorem EngT.other {F1:KF} {E1:KE} {n1:Nat} {w1 w2:World} (h:EngT base g w F F1 E1 n1 w1) {b:Nat} {t:TypeId} {vs:List Value} (hb:Blk w1 b t vs) (ht:t≠qby/\t≠qbu/\t≠qce/\t≠qat/\t≠qan) (hLS:¬F1.LS b) (hw:w.heap.size<=b) (hc:Chg (fun k=>k=b) w1 w2) :
  EngT base g w F F1 E1 n1 w2:=⟨h.m.other hb ht hLS hc,h.old,h.chg.trans hc fun k hk e=>by omega,h.ls⟩
theorem qfk (hT:Tab w) {k:qaa} (hw:Wide (toL k)) (x:Int) (word:List UInt8) (hwl:word.length<=100000) {e:Option Addr} {K:qad->World->Prop}
  (hK:∀q w',Rd qae w' q (toldK k x word)->Below w.heap.size w w'->(∀j,q.blk=some j->w.heap.size<=j)->K ⟨q,0,0,false⟩ w'):qbq e k x (strB word) w K:=by
 refine qvf _ _ _ _ ?_;unfold qn6;refine nwb fun w1 hk1 hB1 hs1=>nwb fun w2 hr2 hB2 hs2=>?_;have B2:=qap hB1 hB2;have hk2:=hk1.ext hB2;refine jpO fun J hJ=>?_;have key:∀wd:List UInt8,wd=(if word=[] then codW x else word)->J (strB wd,()) w2:=by
  intro wd hwd;refine hJ _ _ ?_;refine qal (r:=qaa.rep) (x:=k) hk2.cells ?_;have hwdl:wd.length<=100000:=by
   rw [hwd];split
   ·unfold codW
    repeat' split
    all_goals (simp)
   ·exact hwl
  refine zed (hT.ext B2) hw wd hwdl fun q w3 hq hB3 hqb=>?_;have hr3:=hr2.ext hB3;have B3:=qap B2 hB3;have rl:=hr3.lt;refine qaj (us:=[.slice q.a q.n q.c,.int .i64 0,.int .i64 0,.bool false]) hr3 (by simp) fun w4 hr4 hg4 hs4=>?_;have hc4:Chg (fun i=>i=w1.heap.size) w3 w4:=Chg.of_grown hg4 fun k hk=>by cases hk;rfl
  have B4:Below w.heap.size w w4:=B3.trans (hc4.below (by have:=B3.size;omega) fun i hi e=>by have:=hB1.size;omega);refine qal (r:=qad.rep) (x:=⟨q,0,0,false⟩) hr4.cells ?_;refine hK q w4 ?_ B4 (fun j hj=>le_trans B2.size (hqb j hj));have hq4:Rd qae w4 q (qw2 (toL k) wd):=hq.chg hc4 fun a ha e=>by
   have:=hqb a.block (slk.2 ⟨a,ha,rfl⟩);have:=hr2.lt;omega
  unfold toldK;rw [<-hwd];exact hq4
 refine cO (fun hw0=>?_) fun hw0=>?_
 ·have hw0:=eq_of_beq hw0;rw [qdr] at hw0;have hw0:word=[]:=by rw [hw0,ByteArray.toList_eq]
  refine q5r _ ?_;unfold qzw;have kk:∀wd:List UInt8,wd=codW x->J (strB wd,()) w2:=fun wd h=>key wd (by rw [if_pos hw0,h]);unfold codW at kk;refine cO (fun e=>kk _ (by rw [if_pos (eq_of_beq e)])) fun e=>?_;have n0:=beq_eq_false_iff_ne.1 e;refine cO (fun e=>kk _ (by rw [if_neg n0,if_pos (eq_of_beq e)])) fun e=>?_;have n6:=beq_eq_false_iff_ne.1 e;refine cO (fun e=>kk _ (by rw [if_neg n0,if_neg n6,if_pos (eq_of_beq e)])) fun e=>?_;exact kk _ (by rw [if_neg n0,if_neg n6,if_neg (beq_eq_false_iff_ne.1 e)])
 ·have hw0:=beq_eq_false_iff_ne.1 hw0;rw [qdr] at hw0;exact key word (by rw [if_neg (fun h=>hw0 (by rw [h,ByteArray.toList_eq]))])
theorem zba (h:EngM w base g F E n) {K:Int->World->Prop} (hK:K (heldK E:Int) w):qip (some ⟨g,0,none⟩) w K:=by
 refine qvh _ ?_;unfold qns;simp only [onPtr_some];unfold heldK at hK;cases hl:E.ld with
 | none =>
  rw [hl] at hK;refine qa8 (x:=none) (by have:=h.blk.cells 3 _ rfl;rw [hl] at this;exact this) (cT rfl hK)
 | some x =>
  obtain ⟨C,s⟩:=x;rw [hl] at hK;have hc:w.cell? ((⟨g,0,none⟩:Addr).add 3)=some (.pointer (some ⟨F.lg,0,none⟩)):=by have:=h.blk.cells 3 _ rfl;rw [hl] at this;exact this
  refine qa8 (x:=some ⟨F.lg,0,none⟩) hc (cF rfl (qa8 (x:=some ⟨F.lg,0,none⟩) hc ?_));exact zdz (h.lo C s hl).1 hK
theorem q6q (h:EngM w base g F E n) (hn:n<=100000) {ids:Slc} {L:List Int} (hr:Rd E_int w ids L) (hne:∀a,ids.a=some a->a.block≠F.tg) {K:World->Prop}
  (hK:∀q' w',EngT base g w F { F with q:=q' } { E with T:=goneT E.T L } n w'->K w'):qf1 (some ⟨g,0,none⟩) ids w K:=by
 refine qve _ _ ?_;unfold qnv;have hl:ids.n=L.length:=hr.n;have hlm:L.length<=9223372036854775807:=by rw [<-hl];exact le_trans hr.nc hr.cm
 refine lpR (fun (st:Int×Unit) w1=>∃(k:Nat) (q1:Slc),st.1=(k:Int)/\k<=L.length/\EngT base g w F { F with q:=q1 } { E with T:=goneT E.T (L.take k) } n w1/\Rd E_int w1 ids L) (fun st=>L.length-st.1.toNat)
  ⟨0,F.q,rfl,zero_le _,EngT.refl h,hr⟩ ?_
 rintro ⟨i,u⟩ w1 ⟨k,q1,hi,hk,h1,hr1⟩ I hI;dsimp only at hi ⊢;subst hi;refine cO (fun e=>?_) fun e=>?_
 ·have e:=oTq e;have hlt:k<L.length:=by omega
  obtain ⟨x,hx⟩:∃x,L[k]?=some x:=⟨_,List.getElem?_eq_getElem hlt⟩;refine hr1.ix (E:=E_int) (i:=(k:Int)) rfl (by omega) (by omega) fun hc=>?_;have e1:L[(k:Int).toNat]'(by omega)=x:=(List.getElem?_eq_some_iff.1 (by simpa using hx)).2;rw [e1] at hc;refine lI (x:=x) (by simpa using hc 0 _ rfl) ?_;simp only [onPtr_some];refine qa8 (x:=some ⟨F.tg,0,none⟩) (h1.m.blk.cells 2 _ rfl) ?_;refine q92 h1.m.tb (le_trans h1.m.tl hn) (le_trans h1.m.hg (Nat.le_of_lt h1.m.blk.lt)) x fun m q2 w2 ht hq hc2=>?_;have h2:=EngT.tab h1.m ht hq hc2 (le_trans (length_filter_le _ _) h1.m.tl);rw [w64i (x:=(k:Int)+1) (by omega)];refine hI _ _ ⟨k+1,q2,by simp,by omega,?_,hr1.chg hc2 fun a ha=>hne a ha⟩ (by dsimp only;omega);have e2:goneT E.T (L.take (k+1))=(goneT E.T (L.take k)).filter fun p=>!(p.Image==x):=by
   unfold goneT;rw [take_add_one,hx,Option.toList_some,List.foldl_append];rfl
  rw [e2];exact h1.trans h2
 ·have e:=oFq e;have hkl:k=L.length:=by omega
  rw [hkl,take_length] at h1;exact hK q1 w1 h1
end
theorem q0k (n:Int):∀(f:Nat) (S:St) (G:List Int),∀p∈(S.roomF n f G).1.L,p∈S.L
 | 0,S,G,p,hp=>hp
 | f+1,S,G,p,hp=>by
  unfold St.roomF at hp;split at hp
  ·have:=q0k n f _ _ p hp;exact ((qyi _ _ _).1 this).2
  ·exact hp
theorem zas (S:St) (n:Int):∀p∈(S.reserve n).1.L,p∈S.L:=by
 intro p hp;unfold St.reserve at hp;split at hp
 ·exact hp
 ·split at hp
  ·exact hp
  ·exact q0k n _ ({ S with res:=n }:St) _ p hp
section
variable {w w':World} {base g n:Nat} {F F':KF} {E E':KE}
theorem q55 (h:EngM w base g F E n) (hn:n<=1000) (m:Int) {K:Int->World->Prop} (hK:∀F' w',EngT base g w F F' (E.reserve m).1 n w'->F'.lg=F.lg->F'.gd=F.gd->F'.LS=F.LS->K (E.reserve m).2 w'):qgn (some ⟨g,0,none⟩) m w K:=by
 refine qr3 _ _ ?_;unfold qkp;simp only [onPtr_some];unfold KE.reserve at hK;refine cO (fun e=>?_) fun e=>?_
 ·rw [if_pos (oTq e)] at hK;exact hK F w (EngT.refl h) rfl rfl rfl
 rw [if_neg (oFq e)] at hK;refine lI (x:=E.quota) (h.blk.cells 0 _ rfl) (cO (fun e=>?_) fun e=>?_)
 ·rw [if_pos (oTq e)] at hK;exact hK F w (EngT.refl h) rfl rfl rfl
 rw [if_neg (oFq e)] at hK;have hd:=h.drew;refine qa8 (x:=some ⟨F.sg,0,none⟩) (hd.blk.cells 1 _ rfl) (zba hd ⟨hd.blk.cells 1 _ rfl,?_⟩);refine q9t hd.st h.ok hn fun q w2 hst ho hc=>?_;have h2:=EngT.store hd hst (zdm h.ok _) (le_refl n) hc (fun k hk=>by
  obtain ⟨p,hp,hb⟩:=hk;exact .inl ⟨p,zas _ _ p hp,hb⟩)
 refine q6q h2.m (by omega) ho.rd (fun a ha=>?_) fun q' w3 h3=>?_
 ·have h1:=(ho.lt a.block (slk.2 ⟨a,ha,rfl⟩)).1;have h4:=h.tb.blk.lt;have e1:w.drew.heap.size=w.heap.size:=rfl;show a.block≠F.tg;omega
 ·exact hK _ w3 ((EngT.of_ext h (qcg w)).trans (h2.trans h3)) rfl rfl rfl
theorem q0i (h:EngM w base g F E n) {K:World->Prop} (hK:∀F' w',EngT base g w F F' E.idle n w'->F'.q=F.q->F'.tg=F.tg->K w'):qed (some ⟨g,0,none⟩) w K:=by
 refine qvq _ ?_;unfold qn7;simp only [onPtr_some];show stK ⟨g,3,none⟩ _ _ _;refine qaj h.blk (by show (3+1:Nat)<=26;omega) fun w1 hb1 hg1 hs1=>?_;have hc1:Chg (fun i=>i=g) w w1:=Chg.of_grown hg1 fun k hk=>by cases hk;rfl
 let F1:KF:={ F with LS:=fun _=>False }
 let E1:KE:={ E with ld:=none }
 have hb1:Blk w1 g qby (engC F1 E1):=hb1;have h1:EngT base g w F F1 E1 n w1:=by
  refine ⟨⟨hb1,h.hg,h.st.keep hc1 (fun e=>h.g_sg e.symm) (fun e=>h.g_sr e.symm) (fun p hp k hk e=>h.img_g hp hk e),h.ok,h.hs,h.tb.chg hc1 ?_,h.tl,(fun C s hl=>by cases hl),(fun _ k hk=>hk),(fun hk=>hk),⟨fun hk=>hk,fun hk=>hk⟩,(fun k _ hk=>hk),(fun k _ hk=>hk)⟩,?_,hc1.mono fun k _ e=>.inl e,fun k hk=>hk.elim⟩
  ·rintro k (hk | hk) e
   ·exact h.g_tg (e.symm.trans hk)
   ·exact h.g_q k hk e
  ·rintro k (hk | hk | hk | hk)
   ·exact .inl (.inl hk)
   ·exact .inl (.inr (.inl hk))
   ·exact .inl (.inr (.inr (.inl hk)))
   ·exact hk.elim
 refine qa8 (x:=some ⟨F.sg,0,none⟩) (h1.m.blk.cells 1 _ rfl) ?_;refine qz6 h1.m.st fun w2 hst hc2 hs2=>?_;have h2:=EngT.store h1.m hst (qvz h.ok 0) (le_refl n) hc2 fun k hk=>.inl hk;exact hK F1 w2 (h1.trans h2) rfl rfl
end
def cel1 (n more size:Int):Int:=wi ((wi (wi (wi (n+more)+size)-1)).tdiv size)
def cel2 (W H dx dy cw ch:Int):Int×Int :=
 if btw W 1 16384=false then (0,0) else if btw H 1 16384=false then (0,0) else if btw dx 0 64=false then (0,0) else if btw dy 0 64=false then (0,0) else if btw cw 1 64=false then (0,0) else if btw ch 1 64=false then (0,0)
 else (cel1 H dy ch,cel1 W dx cw)
def partK (at_ n side:Int):Int:=if n<1 then wi (side-at_) else if wi (side-at_)<n then wi (side-at_) else n
def pl0:Pl:=⟨0,0,false,0,0,0,0,0,0,0,0,0,0,0⟩
def matOf (S:St) (id:Int):qac:=(((lookL S.L id).map Im.v).getD nilI).m
def badPl (m:qac) (k:qaa) (v:qaf):Bool:=decide (k.X<0) || (decide (k.Y<0) || (decide (k.X>=m.W) || (decide (k.Y>=m.H) || (decide (k.DX>=v.CellW) || decide (k.DY>=v.CellH)))))
def rcK (m:qac) (k:qaa) (v:qaf):Int×Int:=cel2 (partK k.X k.PW m.W) (partK k.Y k.PH m.H) k.DX k.DY v.CellW v.CellH
def rowK (m:qac) (k:qaa) (v:qaf):Int:=if k.Rows<1 then (rcK m k v).1 else k.Rows
def colK (m:qac) (k:qaa) (v:qaf):Int:=if k.Cols<1 then (rcK m k v).2 else k.Cols
def farK (m:qac) (k:qaa) (v:qaf):Bool:=decide (rowK m k v>1048576) || (decide (colK m k v>1048576) || (!btw v.CellW 1 64 || !btw v.CellH 1 64))
def putK (m:qac) (k:qaa) (id:Int) (v:qaf) (r c:Int):Pl:=⟨id,k.Place,v.View.Alt,wi (v.View.Top+v.View.Row),v.View.Col,r,c,k.X,k.Y,partK k.X k.PW m.W,partK k.Y k.PH m.H,k.DX,k.DY,k.Z⟩
def qib (S:St) (k:qaa) (id:Int) (v:qaf):Pl×Int :=
 if badPl (matOf S id) k v then (pl0,1) else if farK (matOf S id) k v then (pl0,1) else (putK (matOf S id) k id v (rowK (matOf S id) k v) (colK (matOf S id) k v),0)
structure KR where
 reply:List UInt8
 rows:Int
 cols:Int
 moves:Bool
def kr0:KR:=⟨[],0,0,false⟩
def ResM (w:World) (r:qad) (R:KR):Prop:=Rd qae w r.Reply R.reply/\r.Rows=R.rows/\r.Cols=R.cols/\r.Moves=R.moves
def toldR (k:qaa) (x:Int) (word:List UInt8):KR:=⟨toldK k x word,0,0,false⟩
section
variable {w w':World} {base g n:Nat} {F F':KF} {E E':KE}
theorem ResM.ext {r:qad} {R:KR} (h:ResM w r R) (hB:Below w.heap.size w w'):ResM w' r R:=⟨h.1.ext hB,h.2⟩
theorem ResM.nil (w:World):ResM w ⟨⟨none,0,0⟩,0,0,false⟩ kr0:=⟨Rd.nil _ _,rfl,rfl,rfl⟩
theorem qd9 {v lo hi:Int} {K:Bool->World->Prop} (hK:K (btw v lo hi) w):qco v lo hi w K:=by
 refine q0e _ _ _ ?_;unfold qti;unfold btw at hK;refine cO (fun e=>?_) fun e=>?_
 ·rw [e,Bool.true_and] at hK;exact hK
 ·rw [e,Bool.false_and] at hK;exact hK
theorem q2k {a b c:Int} (hc:c≠0) {K:Int->World->Prop} (hK:K (cel1 a b c) w):qlw a b c w K:=by
 refine q20 _ _ _ ?_;unfold qwy;exact ⟨hc,hK⟩
theorem zc3 {W H dx dy cw ch:Int} {K:Int->Int->World->Prop} (hK:∀w',Below w.heap.size w w'->K (cel2 W H dx dy cw ch).1 (cel2 W H dx dy cw ch).2 w'):qq0 W H dx dy cw ch w K:=by
 refine q3f _ _ _ _ _ _ ?_;unfold qwt;refine nwb fun w1 hb hB1 hs1=>?_;have hK:=hK w1 hB1;unfold cel2 at hK;refine lpR (fun (st:Int×Unit) w2=>w2=w1/\(st.1=0\/st.1=1/\btw W 1 16384=true\/st.1=2/\btw W 1 16384=true/\btw H 1 16384=true)) (fun st=>2-st.1.toNat) ⟨rfl,.inl rfl⟩ ?_;rintro ⟨i,u⟩ w2 ⟨rfl,hi⟩ I hI;dsimp only at hi ⊢;have neg:∀{b:Bool},(!b)=true->b=false:=by intro b;cases b<;>simp
 have pos:∀{b:Bool},(!b)=false->b=true:=by intro b;cases b<;>simp
 rcases hi with rfl | ⟨rfl,h1⟩ | ⟨rfl,h1,h2⟩
 ·refine cT rfl ⟨⟨by decide,by decide⟩,lI (x:=W) (hb.cells 0 _ rfl) (qd9 (cO (fun e=>?_) fun e=>?_))⟩
  ·rw [if_pos (neg e)] at hK;exact hK
  ·exact hI _ _ ⟨rfl,.inr (.inl ⟨rfl,pos e⟩)⟩ (by show 2-(i64.wrap (0+1)).toNat<2-(0:Int).toNat;decide)
 ·refine cT rfl ⟨⟨by decide,by decide⟩,lI (x:=H) (hb.cells 1 _ rfl) (qd9 (cO (fun e=>?_) fun e=>?_))⟩
  ·rw [if_neg (by rw [h1];decide),if_pos (neg e)] at hK;exact hK
  ·exact hI _ _ ⟨rfl,.inr (.inr ⟨rfl,h1,pos e⟩)⟩ (by show 2-(i64.wrap (1+1)).toNat<2-(1:Int).toNat;decide)
 ·rw [if_neg (by rw [h1];decide),if_neg (by rw [h2];decide)] at hK;refine cF rfl (jpO fun J hJ=>?_);refine qd9 (cO (fun e=>?_) fun e=>?_)
  ·rw [if_pos (neg e)] at hK;exact hK
  rw [if_neg (by rw [pos e];decide)] at hK;refine qd9 (cO (fun e=>?_) fun e=>?_)
  ·rw [if_pos (neg e)] at hK;exact hK
  rw [if_neg (by rw [pos e];decide)] at hK;refine qd9 (cO (fun e=>?_) fun e3=>?_)
  ·rw [if_pos (neg e)] at hK;exact hK
  rw [if_neg (by rw [pos e3];decide)] at hK;refine qd9 (cO (fun e=>?_) fun e4=>?_)
  ·rw [if_pos (neg e)] at hK;exact hK
  rw [if_neg (by rw [pos e4];decide)] at hK;have ch0:ch≠0:=by
   have:=pos e4;unfold btw at this;simp at this;omega
  have cw0:cw≠0:=by
   have:=pos e3;unfold btw at this;simp at this;omega
  exact hJ _ _ (q2k ch0 (q2k cw0 hK))
theorem q62 {a b c:Int} {K:Int->World->Prop} (hK:K (partK a b c) w):qnp a b c w K:=by
 refine q4g _ _ _ ?_;unfold qy1;unfold partK at hK;refine cO (fun e=>?_) fun e=>?_
 ·rw [if_pos (oTq e)] at hK;exact hK
 ·rw [if_neg (oFq e)] at hK;exact hK
theorem qmp {a b:Bool} {J:Bool->Prop} {X:Prop} (hJ:J (a || b)) (h:J b->X):cond a (J true) X:=by
 cases a
 ·exact h hJ
 ·exact hJ
theorem zcs (h:EngM w base g F E n) (k:qaa) (id:Int) (v:qaf) {K:Pl->Int->World->Prop} (hK:∀w',Below w.heap.size w w'->K (qib E.S k id v).1 (qib E.S k id v).2 w'):qhf (some ⟨g,0,none⟩) k id v w K:=by
 refine qt5 _ _ _ _ ?_;unfold qmo;simp only [onPtr_some];refine nwb fun w1 hk1 hB1 hs1=>nwb fun w2 hv2 hB2 hs2=>nwb fun w3 ht3 hB3 hs3=>?_;have ht3:Blk w3 w2.heap.size qat (qah.rep.cells pl0):=ht3;have B3:=qcn hB1 hB2 hB3;have h3:=h.ext B3;unfold qib at hK;refine qa8 (x:=some ⟨F.sg,0,none⟩) (h3.blk.cells 1 _ rfl) (qxb h3.st id fun w4 hB4=>?_);have em:(((lookL E.S.L id).map Im.v).getD nilI).m=matOf E.S id:=rfl;rw [em];generalize matOf E.S id=m at *;refine qcu (vs:=qac.rep.cells m) rfl fun w6 hm6 hB6 hs6=>?_;have B6:=qcn B3 hB4 hB6;have hk6:=(((hk1.ext hB2).ext hB3).ext hB4).ext hB6;have hv6:=((hv2.ext hB3).ext hB4).ext hB6;have ht6:=(ht3.ext hB4).ext hB6;have z1:=hB1.size;have z2:=hB2.size;have z3:=hB3.size;have z4:=hB4.size;have z6:=hB6.size;have lk:=hk6.lt;have lv:=hv6.lt;have lt_:=ht6.lt;have lm:=hm6.lt;refine jpO fun J1 hJ1=>jpO fun J5 hJ5=>?_;have j5:J5 (badPl m k v,()) w6:=by
  refine hJ5 _ _ ?_;cases hbad:badPl m k v
  ·rw [hbad] at hK;simp only [Bool.false_eq_true,if_false] at hK;refine cF rfl (hJ1 _ _ ?_);refine lI (x:=k.Place) (hk6.cells 10 _ rfl) ?_;refine qc5 (x:=v.View.Alt) (hv6.cells 0 _ rfl) (lI (x:=v.View.Top) (hv6.cells 1 _ rfl) (lI (x:=v.View.Row) (hv6.cells 4 _ rfl) (lI (x:=v.View.Col) (hv6.cells 5 _ rfl) ?_)));refine lI (x:=k.Rows) (hk6.cells 18 _ rfl) (lI (x:=k.Cols) (hk6.cells 19 _ rfl) (lI (x:=k.X) (hk6.cells 12 _ rfl) (lI (x:=k.Y) (hk6.cells 13 _ rfl) (lI (x:=k.DX) (hk6.cells 16 _ rfl) (lI (x:=k.DY) (hk6.cells 17 _ rfl) (lI (x:=k.Z) (hk6.cells 20 _ rfl) ?_))))))
   let P0:Pl:=⟨id,k.Place,v.View.Alt,wi (v.View.Top+v.View.Row),v.View.Col,k.Rows,k.Cols,k.X,k.Y,0,0,k.DX,k.DY,k.Z⟩
   refine qcu (vs:=qah.rep.cells P0) rfl fun w9 hp9 hB9 hs9=>?_;have hk9:=(hk6.ext hB9).drew;have hv9:=(hv6.ext hB9).drew;have ht9:=(ht6.ext hB9).drew;have hm9:=(hm6.ext hB9).drew;have B9:=(qap B6 hB9).drew;refine lI (x:=k.X) (hk9.cells 12 _ rfl) (lI (x:=k.PW) (hk9.cells 14 _ rfl) (lI (x:=m.W) (hm9.cells 0 _ rfl) ?_));refine lI (x:=k.Y) (hk9.cells 13 _ rfl) (lI (x:=k.PH) (hk9.cells 15 _ rfl) (lI (x:=m.H) (hm9.cells 1 _ rfl) ?_));refine q62 ⟨hm9.cells 1 _ rfl,hk9.cells 15 _ rfl,hk9.cells 13 _ rfl,q62 ?_⟩;show stK ⟨w6.heap.size,9,none⟩ _ _ _;refine qaj hp9.drew (by show (9+1:Nat)<=14;omega) fun w12 hp12 hg12 hs12=>?_;have hc12:Chg (fun i=>i=w6.heap.size) w9.drew w12:=Chg.of_grown hg12 fun k hk=>by cases hk;rfl
   let P1:Pl:={ P0 with W:=partK k.X k.PW m.W }
   have hp12:Blk w12 w6.heap.size qat (qah.rep.cells P1):=hp12;show stK ⟨w6.heap.size,10,none⟩ _ _ _;refine qaj hp12 (by show (10+1:Nat)<=14;omega) fun w13 hp13 hg13 hs13=>?_;have hc13:Chg (fun i=>i=w6.heap.size) w12 w13:=Chg.of_grown hg13 fun k hk=>by cases hk;rfl
   let P2:Pl:={ P1 with H:=partK k.Y k.PH m.H }
   have hp13:Blk w13 w6.heap.size qat (qah.rep.cells P2):=hp13;have hcc:Chg (fun i=>i=w6.heap.size) w9.drew w13:=hc12.trans hc13 fun i _ hi=>hi;have nlt:∀{j:Nat},j<w6.heap.size->¬j=w6.heap.size:=fun h e=>by omega
   have hk13:=hk9.chg hcc (nlt lk);have hv13:=hv9.chg hcc (nlt lv);have ht13:=ht9.chg hcc (nlt lt_);have B13:Below w.heap.size w w13:=B9.trans (hcc.below (by have:=hB9.size;show w.heap.size<=w9.heap.size;omega) fun i hi e=>by omega);refine lI (x:=partK k.X k.PW m.W) (hp13.cells 9 _ rfl) (lI (x:=partK k.Y k.PH m.H) (hp13.cells 10 _ rfl) (lI (x:=k.DX) (hk13.cells 16 _ rfl) (lI (x:=k.DY) (hk13.cells 17 _ rfl) (lI (x:=v.CellW) (hv13.cells 6 _ rfl) (lI (x:=v.CellH) (hv13.cells 7 _ rfl) ?_)))));refine zc3 fun w14 hB14=>?_;have hp14:=hp13.ext hB14;have hv14:=hv13.ext hB14;have ht14:=ht13.ext hB14;have B14:=qap B13 hB14;have z13:w6.heap.size<w13.heap.size:=hp13.lt;refine jpO fun J2 hJ2=>?_;have k2:∀wx,Below w.heap.size w wx->Blk wx w6.heap.size qat (qah.rep.cells { P2 with Rows:=rowK m k v })->Blk wx w1.heap.size qbf (qaf.rep.cells v)->Blk wx w2.heap.size qat (qah.rep.cells pl0)->J2 (()) wx:=by
    intro w15 B15 hp15 hv15 ht15;refine hJ2 _ _ (jpO fun J3 hJ3=>?_);have k3:∀wx,Below w.heap.size w wx->Blk wx w6.heap.size qat (qah.rep.cells { P2 with Rows:=rowK m k v,Cols:=colK m k v })->Blk wx w1.heap.size qbf (qaf.rep.cells v)->Blk wx w2.heap.size qat (qah.rep.cells pl0)->J3 (()) wx:=by
     intro w16 B16 hp16 hv16 ht16;refine hJ3 _ _ (jpO fun J4 hJ4=>?_);have k4:J4 (farK m k v,()) w16:=by
      refine hJ4 _ _ ?_;cases hfar:farK m k v
      ·rw [hfar] at hK;simp only [Bool.false_eq_true,if_false] at hK;refine cF rfl (qal (r:=qah.rep) (x:={ P2 with Rows:=rowK m k v,Cols:=colK m k v }) hp16.cells ?_);refine qbm (r:=qah.rep) (x:={ P2 with Rows:=rowK m k v,Cols:=colK m k v }) ht16 rfl rfl fun w17 hc17 hs17=>?_;exact hK w17 (b1o B16 hc17 (by omega))
      ·rw [hfar] at hK;simp only [if_true] at hK;refine cT rfl ?_;refine qbm (r:=qah.rep) (x:=pl0) ht16 rfl rfl fun w17 hc17 hs17=>?_;exact hK w17 (b1o B16 hc17 (by omega))
     unfold farK at k4;refine lI (x:=rowK m k v) (hp16.cells 5 _ rfl) (qmp (J:=fun b=>J4 (b,()) w16) k4 fun k4=>?_);refine lI (x:=colK m k v) (hp16.cells 6 _ rfl) (qmp (J:=fun b=>J4 (b,()) w16) k4 fun k4=>?_);refine lI (x:=v.CellW) (hv16.cells 6 _ rfl) (qd9 (qmp (J:=fun b=>J4 (b,()) w16) k4 fun k4=>?_));exact lI (x:=v.CellH) (hv16.cells 7 _ rfl) (qd9 k4)
    refine lI (x:=k.Cols) (hp15.cells 6 _ rfl) (cO (fun e=>?_) fun e=>?_)
    ·show stK ⟨w6.heap.size,6,none⟩ _ _ _;refine qaj hp15 (by show (6+1:Nat)<=14;omega) fun w16 hp16 hg16 hs16=>?_;have hc16:Chg (fun i=>i=w6.heap.size) w15 w16:=Chg.of_grown hg16 fun k hk=>by cases hk;rfl
     refine k3 w16 (B15.trans (hc16.below B15.size fun i hi e=>by omega)) ?_ (hv15.chg hc16 (nlt lv)) (ht15.chg hc16 (nlt lt_));have ec:colK m k v=(rcK m k v).2:=by unfold colK;rw [if_pos (oTq e)]
     rw [ec];exact hp16
    ·have ec:colK m k v=k.Cols:=by unfold colK;rw [if_neg (oFq e)]
     refine k3 w15 B15 ?_ hv15 ht15;rw [ec];exact hp15
   refine lI (x:=k.Rows) (hp14.cells 5 _ rfl) (cO (fun e=>?_) fun e=>?_)
   ·show stK ⟨w6.heap.size,5,none⟩ _ _ _;refine qaj hp14 (by show (5+1:Nat)<=14;omega) fun w15 hp15 hg15 hs15=>?_;have hc15:Chg (fun i=>i=w6.heap.size) w14 w15:=Chg.of_grown hg15 fun k hk=>by cases hk;rfl
    refine k2 w15 (B14.trans (hc15.below B14.size fun i hi e=>by omega)) ?_ (hv14.chg hc15 (nlt lv)) (ht14.chg hc15 (nlt lt_));have ec:rowK m k v=(rcK m k v).1:=by unfold rowK;rw [if_pos (oTq e)]
    rw [ec];exact hp15
   ·have ec:rowK m k v=k.Rows:=by unfold rowK;rw [if_neg (oFq e)]
    refine k2 w14 B14 ?_ hv14 ht14;rw [ec];exact hp14
  ·rw [hbad] at hK;simp only [if_true] at hK;refine cT rfl ?_;refine qbm (r:=qah.rep) (x:=pl0) ht6 rfl rfl fun w7 hc7 hs7=>?_;exact hK w7 (b1o B6 hc7 (by omega))
 unfold badPl at j5;refine lI (x:=k.X) (hk6.cells 12 _ rfl) (qmp (J:=fun b=>J5 (b,()) w6) j5 fun j5=>?_);refine lI (x:=k.Y) (hk6.cells 13 _ rfl) (qmp (J:=fun b=>J5 (b,()) w6) j5 fun j5=>?_);refine lI (x:=k.X) (hk6.cells 12 _ rfl) (lI (x:=m.W) (hm6.cells 0 _ rfl) (qmp (J:=fun b=>J5 (b,()) w6) j5 fun j5=>?_));refine lI (x:=k.Y) (hk6.cells 13 _ rfl) (lI (x:=m.H) (hm6.cells 1 _ rfl) (qmp (J:=fun b=>J5 (b,()) w6) j5 fun j5=>?_));refine lI (x:=k.DX) (hk6.cells 16 _ rfl) (lI (x:=v.CellW) (hv6.cells 6 _ rfl) (qmp (J:=fun b=>J5 (b,()) w6) j5 fun j5=>?_));exact lI (x:=k.DY) (hk6.cells 17 _ rfl) (lI (x:=v.CellH) (hv6.cells 7 _ rfl) j5)
end
theorem StOk.mono {n m:Nat} {S:St} (h:StOk n S) (hm:n<=m):StOk m S :=
 ⟨h.q0,h.q1,h.used,h.fits,le_trans h.len hm,h.clk0,by have:=h.clk;omega,h.srt,fun p hp=>⟨(h.keys p hp).1,by have:=(h.keys p hp).2;omega⟩,h.stamps,h.borns,h.st1,h.bo1⟩
def q38 (k:qaa) (p:Pl):KR:=⟨toldK k 0 [],p.Rows,p.Cols,k.Stay !=1⟩
def putE (E:KE) (p:Pl):KE:={ E with T:=(E.T.filter fun o=>!likeP p o)++[p] }
def qe7 (E:KE) (k:qaa) (id:Int) (v:qaf):KE×KR×Bool :=
 if (qib E.S k id v).2=0 then
  (if mayPl (qib E.S k id v).1 then (putE E (qib E.S k id v).1,q38 k (qib E.S k id v).1,true) else (E,toldR k 1 [],false))
 else (E,toldR k (qib E.S k id v).2 [],false)
section
variable {w w':World} {base g n:Nat} {F F':KF} {E E':KE}
theorem Tab.below4 (h:Tab w) (hB:Below 4 w w'):Tab w':=var?_below (g:=3) hB (by kernel_rfl) (by decide) h
theorem EngT.belowB (h:EngM w base g F E n) {n':Nat} (hT:EngT base g w F F' E' n' w'):Below base w w':=hT.chg.below (le_trans h.hg (Nat.le_of_lt h.blk.lt)) fun i hi hs=>by have:=(h.below i hs).1;omega
theorem Tab.stepK (hTab:Tab w) (h:EngM w base g F E n) (hb:4<=base) {n':Nat} (hT:EngT base g w F F' E' n' w'):Tab w':=hTab.below4 ((EngT.belowB h hT).mono hb)
theorem EngM.up (h:EngM w base g F E n) {m:Nat} (hm:n<=m):EngM w base g F E m:=h.mono hm (h.ok.mono hm)
theorem EngT.up {F1:KF} {E1:KE} {n1:Nat} (h:EngT base g w F F1 E1 n1 w') {m:Nat} (hm:n1<=m):EngT base g w F F1 E1 m w':=⟨h.m.up hm,h.old,h.chg,h.ls⟩
theorem q4j (h:EngM w base g F E n) (hn:n<=90000) (hT:Tab w) (h4:4<=base) {k:qaa} (hw:Wide (toL k)) (id:Int) (v:qaf) {K:qad->Bool->World->Prop}
  (hK:∀r F' w',ResM w' r (qe7 E k id v).2.1->EngT base g w F F' (qe7 E k id v).1 (n+1) w'->(∀j,r.Reply.blk=some j->w.heap.size<=j/\¬engS g F' j)->K r (qe7 E k id v).2.2 w'):qfb (some ⟨g,0,none⟩) k id v w K:=by
 refine qtu _ _ _ _ ?_;unfold qmn;simp only [onPtr_some];refine nwb fun w1 hk1 hB1 hs1=>nwb fun w2 hv2 hB2 hs2=>nwb fun w3 ht3 hB3 hs3=>?_;have hk3:=(hk1.ext hB2).ext hB3;have hv3:=hv2.ext hB3;have B3:=qcn hB1 hB2 hB3;refine qal (r:=qaa.rep) (x:=k) hk3.cells (qal (r:=qaf.rep) (x:=v) hv3.cells ?_);refine zcs (h.ext B3) k id v fun w4 hB4=>?_;unfold qe7 at hK;generalize (qib E.S k id v).1=p at *;generalize (qib E.S k id v).2=x at *;refine qcu (vs:=qah.rep.cells p) rfl fun w6 hp6 hB6 hs6=>?_;have B6:=qcn B3 hB4 hB6;have hk6:=(hk3.ext hB4).ext hB6;have ht6:=(ht3.ext hB4).ext hB6;have h6:EngT base g w F F E (n+1) w6:=(EngT.of_ext h B6).up (by omega);have z1:=hB1.size;have z2:=hB2.size;have z3:=hB3.size;have z4:=hB4.size;have z6:=hB6.size;have nLS:∀{b:Nat},w.heap.size<=b->¬F.LS b:=fun hb hk=>by have:=(h.below _ (.inr (.inr (.inr hk)))).2;omega
 have tys:qai≠qby/\qai≠qbu/\qai≠qce/\qai≠qat/\qai≠qan:=by decide
 have lt3:=ht3.lt;have lt6:=ht6.lt;have lk6:=hk6.lt;refine jpO fun J hJ=>?_;have bad:∀y:Int,y≠0->(∀r F' w',ResM w' r (toldR k y [])->EngT base g w F F' E (n+1) w'->(∀j,r.Reply.blk=some j->w.heap.size<=j/\¬engS g F' j)->K r false w')->J (y,()) w6:=by
  intro y hy hK;refine hJ _ _ (cT (by simpa using hy) (qal (r:=qaa.rep) (x:=k) hk6.cells ?_));refine qfk (hT.ext B6) hw y [] (by simp) fun q w8 hq hB8 hqb=>?_;have h8:=h6.ext hB8;have ht8:=ht6.ext hB8;refine qbm (r:=qad.rep) (x:=⟨q,0,0,false⟩) ht8 rfl rfl fun w9 hc9 hs9=>?_;exact hK _ F w9 ⟨hq.chg hc9 fun a ha e=>by have:=hqb a.block (slk.2 ⟨a,ha,rfl⟩);omega,rfl,rfl,rfl⟩ (h8.other ht8 tys (nLS (by omega)) (by omega) hc9) (fun j hj=>⟨by have:=hqb j hj;omega,fun hs=>by have:=(h6.m.below _ hs).2;have:=hqb j hj;omega⟩)
 by_cases hx:x=0
 ·rw [if_pos hx] at hK;refine cT (by simpa using hx) (qa8 (x:=some ⟨F.tg,0,none⟩) (h6.m.drew.blk.cells 2 _ rfl) ?_);refine qal (r:=qah.rep) (x:=p) hp6.drew.cells ?_;have h6d:=h6.ext (qcg w6);refine zcl h6d.m.tb (by have:=h.tl;omega) (le_trans h6d.m.hg (Nat.le_of_lt h6d.m.blk.lt)) p (fun hm w7 hB7=>?_) fun hm q' w7 ht' hq' hc7=>?_
  ·rw [if_neg (by rw [hm];decide)] at hK;have hB67:Below w6.heap.size w6 w7:=qap (qcg w6) hB7;refine hJ _ _ (cT rfl (qal (r:=qaa.rep) (x:=k) (hk6.ext hB67).cells ?_));refine qfk (hT.ext (qap B6 hB67)) hw 1 [] (by simp) fun q w8 hq hB8 hqb=>?_;have h8:=(h6.ext hB67).ext hB8;have ht8:=(ht6.ext hB67).ext hB8;refine qbm (r:=qad.rep) (x:=⟨q,0,0,false⟩) ht8 rfl rfl fun w9 hc9 hs9=>?_;have z7:=hB67.size;exact hK _ F w9 ⟨hq.chg hc9 fun a ha e=>by have:=hqb a.block (slk.2 ⟨a,ha,rfl⟩);omega,rfl,rfl,rfl⟩ (h8.other ht8 tys (nLS (by omega)) (by omega) hc9) (fun j hj=>⟨by have:=hqb j hj;omega,fun hs=>by have:=((h6.ext hB67).m.below _ hs).2;have:=hqb j hj;omega⟩)
  ·rw [if_pos hm] at hK;have hll:((E.T.filter fun o=>!likeP p o)++[p]).length<=n+1:=by
    rw [length_append,List.length_singleton];have:=length_filter_le (fun o=>!likeP p o) E.T;have:=h.tl;omega
   have h7:=h6d.trans (EngT.tab h6d.m ht' hq' hc7 hll);have hT7:=hT.stepK h h4 h7;have z7:=hc7.size;have e6:w6.drew.heap.size=w6.heap.size:=rfl;have tgl:F.tg<w.heap.size:=h.tb.blk.lt;have hk7:=hk6.drew.chg hc7 fun e=>by omega
   have ht7:=ht6.drew.chg hc7 fun e=>by omega
   have hp7:=hp6.drew.chg hc7 fun e=>by omega
   refine hJ _ _ (cF rfl (qal (r:=qaa.rep) (x:=k) hk7.cells ?_));refine qfk hT7 hw 0 [] (by simp) fun q w10 hq hB10 hqb=>?_;refine qcu (vs:=qad.rep.cells ⟨q,0,0,false⟩) rfl fun w12 ho12 hB12 hs12=>?_;have B712:=qap hB10 hB12;have hk12:=(hk7.ext B712).drew;have hp12:=(hp7.ext B712).drew;have ht12:=(ht7.ext B712).drew;have h12:=(h7.ext B712).ext (qcg w12);have hq12:=(hq.ext hB12).drew;refine lI (x:=p.Rows) (hp12.cells 5 _ rfl) (lI (x:=p.Cols) (hp12.cells 6 _ rfl) (lI (x:=k.Stay) (hk12.cells 21 _ rfl) ?_));have z10:=hB10.size;have z12:=hB12.size;have lk7:=hk7.lt;have lp7:=hp7.lt;have lt7:=ht7.lt;show stK ⟨w10.heap.size,1,none⟩ _ _ _;refine qaj ho12.drew (by show (1+1:Nat)<=4;omega) fun w13 ho13 hg13 hs13=>?_;have hc13:Chg (fun i=>i=w10.heap.size) w12.drew w13:=Chg.of_grown hg13 fun k hk=>by cases hk;rfl
   have ho13:Blk w13 w10.heap.size qai (qad.rep.cells ⟨q,p.Rows,0,false⟩):=ho13;have hk13:=hk12.chg hc13 fun e=>by omega
   have hp13:=hp12.chg hc13 fun e=>by omega
   have ht13:=ht12.chg hc13 fun e=>by omega
   refine ⟨hk13.cells 21 _ rfl,hp13.cells 6 _ rfl,?_⟩;show stK ⟨w10.heap.size,2,none⟩ _ _ _;refine qaj ho13 (by show (2+1:Nat)<=4;omega) fun w14 ho14 hg14 hs14=>?_;have hc14:Chg (fun i=>i=w10.heap.size) w13 w14:=Chg.of_grown hg14 fun k hk=>by cases hk;rfl
   have ho14:Blk w14 w10.heap.size qai (qad.rep.cells ⟨q,p.Rows,p.Cols,false⟩):=ho14;refine ⟨(hk13.chg hc14 fun e=>by omega).cells 21 _ rfl,?_⟩;show stK ⟨w10.heap.size,3,none⟩ _ _ _;refine qaj ho14 (by show (3+1:Nat)<=4;omega) fun w15 ho15 hg15 hs15=>?_;have hc15:Chg (fun i=>i=w10.heap.size) w14 w15:=Chg.of_grown hg15 fun k hk=>by cases hk;rfl
   have ho15:Blk w15 w10.heap.size qai (qad.rep.cells ⟨q,p.Rows,p.Cols,k.Stay !=1⟩):=ho15;have hcc:Chg (fun i=>i=w10.heap.size) w12.drew w15:=(hc13.trans hc14 fun i _ hi=>hi).trans hc15 fun i _ hi=>hi;have ht15:=ht12.chg hcc fun e=>by omega
   have h15:=h12.other ho12.drew tys (nLS (by omega)) (by omega) hcc;have hq15:Rd qae w15 q (toldK k 0 []):=qil hq12 hcc fun hp a ha e=>by
    have:=rd_lt hq hp a ha;omega
   refine qal (r:=qad.rep) (x:=⟨q,p.Rows,p.Cols,k.Stay !=1⟩) ho15.cells ?_;refine qbm (r:=qad.rep) (x:=⟨q,p.Rows,p.Cols,k.Stay !=1⟩) ht15 rfl rfl fun w16 hc16 hs16=>?_;exact hK _ _ w16 ⟨hq15.chg hc16 fun a ha e=>by have:=hqb a.block (slk.2 ⟨a,ha,rfl⟩);omega,rfl,rfl,rfl⟩ (h15.other ht15 tys (nLS (by omega)) (by omega) hc16) (fun j hj=>⟨by have:=hqb j hj;omega,fun hs=>by have:=(h7.m.below _ hs).2;have:=hqb j hj;omega⟩)
 ·rw [if_neg hx] at hK;exact cF (by simpa using hx) (bad x hx hK)
end
theorem q6v (n:Int):∀(f:Nat) (S:St) (G:List Int),(S.roomF n f G).2.length<=G.length+f
 | 0,S,G=>by show G.length<=_;omega
 | f+1,S,G=>by
  unfold St.roomF;split
  ·have:=q6v n f (S.drop (qee S.L)) (G++[qee S.L]);rw [length_append,List.length_singleton] at this;omega
  ·show G.length<=_;omega
def pre0 (S:St) (id:Int):St:=if id=0 then { S with res:=0 } else ({ S with res:=0 }:St).drop id
theorem zip (S:St) (id:Int):∀p∈(pre0 S id).L,p∈S.L:=by
 intro p hp;unfold pre0 at hp;split at hp
 ·exact hp
 ·exact ((qyi _ _ _).1 hp).2
theorem zhs (S:St) (id:Int):(pre0 S id).L.length<=S.L.length:=by
 unfold pre0;split
 ·exact le_refl _
 ·exact length_filter_le _ _
theorem zck (S:St) (id:Int) (n:Nat):∀p∈(S.putPre id n).1.L,p∈S.L:=fun p hp=>zip S id p (q0k _ _ _ _ p hp)
theorem zci (S:St) (id:Int) (n:Nat):(S.putPre id n).2.length<=S.L.length:=by
 have h:=q6v (n:Int) (pre0 S id).L.length (pre0 S id) [];have h2:=zhs S id;show ((pre0 S id).roomF n (pre0 S id).L.length []).2.length<=_;simp only [length_nil] at h;omega
def idK (E:KE) (k:qaa) (bs:List UInt8):Int:=newId (E.S.putPre k.Id bs.length).1.L k.Id
def keptE (E:KE) (k:qaa) (W H:Int) (bs:List UInt8) (P:Slc):KE :=
 { E with S:=(E.S.putPre k.Id bs.length).1.putAt (idK E k bs) k.Number W H P bs,T:=goneT E.T ((E.S.putPre k.Id bs.length).2++[idK E k bs]) }
def qds (E:KE) (k:qaa) (bs:List UInt8):qaa:=if k.Id=0/\k.Number≠0 then { k with Id:=idK E k bs } else k
def keepK (E:KE) (k:qaa) (W H:Int) (bs:List UInt8) (P:Slc) (v:qaf):KE×KR :=
 if qh8 E.S k.Id k.Number W H bs.length≠0 then (E,toldR k (qh8 E.S k.Id k.Number W H bs.length) [])
 else if k.Action≠84 then (keptE E k W H bs P,toldR (qds E k bs) 0 [])
 else ((qe7 (keptE E k W H bs P) (qds E k bs) (idK E k bs) v).1,(qe7 (keptE E k W H bs P) (qds E k bs) (idK E k bs) v).2.1)
theorem zby {k:qaa} (hw:Wide (toL k)) {id:Int} (h:-9223372036854775808<=id/\id<=9223372036854775807):Wide (toL { k with Id:=id }):=by
 have e:toL { k with Id:=id }=(toL k).set 8 id:=rfl;intro i;rw [e,List.getElem?_set];by_cases hi:8=i
 ·rw [if_pos hi];rw [if_pos (by rw [q51];omega)];exact h
 ·rw [if_neg hi];exact hw i
section
variable {w w':World} {base g n:Nat} {F F':KF} {E E':KE}
theorem zjs {S:St} (h:StOk n S) (id:Int):StOk n (pre0 S id):=by
 unfold pre0;split
 ·exact qvz h 0
 ·exact qsj (qvz h 0) id
def tyFar (t:TypeId):Prop:=t≠qby/\t≠qbu/\t≠qce/\t≠qat/\t≠qan
instance (t:TypeId):Decidable (tyFar t):=by unfold tyFar;infer_instance
theorem EngM.far (h:EngM w base g F E n) {T:Nat->Prop} (hc:Chg T w w') (hT:∀k,T k->(∃t vs,Blk w k t vs/\tyFar t)/\¬F.LS k):EngM w' base g F E n:=by
 have nt:∀{b:Nat} {t:TypeId} {vs:List Value},Blk w b t vs->¬tyFar t->¬T b:=fun {b t vs} hb hn hTb=>by
  obtain ⟨⟨t',vs',hb',ht'⟩,_⟩:=hT _ hTb;by_cases e:t'=t
  ·exact hn (e ▸ ht')
  ·exact hb'.ne_t hb e rfl
 refine ⟨h.blk.chg hc (nt h.blk (by decide)),h.hg,h.st.keep hc (nt h.st.blk (by decide)) (fun e=>?_) (fun p hp k hk e=>?_),h.ok,h.hs,h.tb.chg hc ?_,h.tl,
  fun C s hl=>⟨(h.lo C s hl).1.chg hc fun k hk e=>(hT k e).2 hk,(h.lo C s hl).2⟩,h.nl,h.dg,h.ds,h.dt,h.di⟩
 ·obtain ⟨⟨t',vs',hb',_⟩,_⟩:=hT _ e;exact h.st.map.ne_blk hb' rfl
 ·obtain ⟨cs,hcs⟩:=((h.st.img p hp).blk k hk).2;exact nt hcs (by decide) e
 ·rintro k (hk | hk) e
  ·exact nt h.tb.blk (by decide) (hk ▸ e)
  ·obtain ⟨cs,hcs⟩:=h.tb.own.blk_t hk;exact nt hcs (by decide) e
theorem EngT.far {F1:KF} {E1:KE} {n1:Nat} {w1 w2:World} (h:EngT base g w F F1 E1 n1 w1) {T:Nat->Prop} (hc:Chg T w1 w2) (hT:∀k,T k->(∃t vs,Blk w1 k t vs/\tyFar t)/\¬F1.LS k) (hw:∀k,T k->w.heap.size<=k) :
  EngT base g w F F1 E1 n1 w2:=⟨h.m.far hc hT,h.old,h.chg.trans hc fun k hk e=>by have:=hw k e;omega,h.ls⟩
theorem EngM.not_in4 (h:EngM w base g F E n) {b:Nat} {t:TypeId} {vs:List Value} (hb:Blk w b t vs) (ht:t≠qby/\t≠qbu/\t≠qce/\t≠qat) (hLS:¬F.LS b):¬engS g F b:=by
 obtain ⟨t1,t2,t3,t4⟩:=ht;rintro (e | (e | e) | (e | e) | e)
 ·exact hb.ne_t h.blk t1 e
 ·exact hb.ne_t h.st.blk t2 e
 ·exact h.st.map.ne_blk hb e.symm
 ·exact hb.ne_t h.tb.blk t3 e
 ·exact qa0 h.tb.own hb (fun e=>t4 e.symm) b e rfl
 ·exact hLS e
theorem EngM.not_in (h:EngM w base g F E n) {b:Nat} {t:TypeId} {vs:List Value} (hb:Blk w b t vs) (ht:tyFar t) (hLS:¬F.LS b):¬engS g F b:=by
 obtain ⟨t1,t2,t3,t4,t5⟩:=ht;rintro (e | (e | e) | (e | e) | e)
 ·exact hb.ne_t h.blk t1 e
 ·exact hb.ne_t h.st.blk t2 e
 ·exact h.st.map.ne_blk hb e.symm
 ·exact hb.ne_t h.tb.blk t3 e
 ·exact qa0 h.tb.own hb (fun e=>t4 e.symm) b e rfl
 ·exact hLS e
theorem zf7 (h:EngM w base g F E n) (hn:n<=900) (hT:Tab w) (h4:4<=base) {k:qaa} (hw:Wide (toL k)) {m:qac} {bs:List UInt8} (hP:Rd qae w m.P bs) (hPg:∀a,m.P.a=some a->¬engS g F a.block) (v:qaf) {K:qad->World->Prop}
  (hK:∀P r F' w',ResM w' r (keepK E k m.W m.H bs P v).2->EngT base g w F F' (keepK E k m.W m.H bs P v).1 (n+2) w'->(∀j,r.Reply.blk=some j->w.heap.size<=j/\¬engS g F' j)->K r w'):qis (some ⟨g,0,none⟩) k m v w K:=by
 refine qu6 _ _ _ _ ?_;unfold qm8;simp only [onPtr_some];refine nwb fun w1 hk1 hB1 hs1=>nwb fun w2 hm2 hB2 hs2=>nwb fun w3 hv3 hB3 hs3=>nwb fun w4 ht4 hB4 hs4=>?_;have B4:=qap (qcn hB1 hB2 hB3) hB4;have hk4:=((hk1.ext hB2).ext hB3).ext hB4;have hm4:=(hm2.ext hB3).ext hB4;have hv4:=hv3.ext hB4;have h4':=(h.ext B4).drew;have B4d:=B4.drew;have z1:=hB1.size;have z2:=hB2.size;have z3:=hB3.size;have z4:=hB4.size;have lk4:=hk4.lt;have lv4:=hv4.lt;have lt4:=ht4.lt;have nE:∀{b:Nat},w.heap.size<=b->¬engS g F b:=fun hb hk=>by have:=(h.below _ hk).2;omega
 have nLS:∀{b:Nat},w.heap.size<=b->¬F.LS b:=fun hb hk=>nE hb (.inr (.inr (.inr hk)));have tys:qai≠qby/\qai≠qbu/\qai≠qce/\qai≠qat/\qai≠qan:=by decide
 have tyk:qay≠qby/\qay≠qbu/\qay≠qce/\qay≠qat/\qay≠qan:=by decide
 refine qa8 (x:=some ⟨F.sg,0,none⟩) (h4'.blk.cells 1 _ rfl) ?_;refine lI (x:=k.Id) (hk4.drew.cells 8 _ rfl) (lI (x:=k.Number) (hk4.drew.cells 9 _ rfl) (qal (r:=qac.rep) (x:=m) hm4.drew.cells ?_));refine zh7 h4'.st h.ok (by omega) (le_trans h4'.hg (Nat.le_of_lt h4'.blk.lt)) (hP.ext B4d) (fun _ a ha hs=>hPg a ha (.inr (.inl hs))) (fun w5 he _ hB5=>?_) fun P q w5 he hst hok hq hc5 hPb=>?_
 ·
  have B5:=qap B4d hB5;refine cT (by simpa using he) (qal (r:=qaa.rep) (x:=k) (hk4.drew.ext hB5).cells ?_);refine qfk (hT.ext B5) hw _ [] (by simp) fun q w6 hq hB6 hqb=>?_;have ht6:=(ht4.drew.ext hB5).ext hB6;have h6:EngT base g w F F E (n+2) w6:=(EngT.of_ext h (qap B5 hB6)).up (by omega);refine qbm (r:=qad.rep) (x:=⟨q,0,0,false⟩) ht6 rfl rfl fun w7 hc7 hs7=>?_;have e4:w4.drew.heap.size=w4.heap.size:=rfl;have z5:=hB5.size;refine hK ⟨none,0,0⟩ _ F w7 ?_ ?_ (fun j hj=>⟨by have:=hqb j hj;omega,fun hs=>by have:=(h.below _ hs).2;have:=hqb j hj;omega⟩)
  ·unfold keepK;rw [if_pos he];exact ⟨hq.chg hc7 fun a ha e=>by have:=hqb a.block (slk.2 ⟨a,ha,rfl⟩);omega,rfl,rfl,rfl⟩
  ·unfold keepK;rw [if_pos he];exact h6.other ht6 tys (nLS (by omega)) (by omega) hc7
 ·
  refine cF rfl ?_;have e4:w4.drew.heap.size=w4.heap.size:=rfl;have hle:=zci E.S k.Id bs.length;have hol:=h.ok.len;have hpk:StOk n (E.S.putPre k.Id bs.length).1:=qw9 _ _ (zjs h.ok k.Id);have h5:=(EngT.of_ext h B4d).trans (EngT.store h4' hst hok (by omega) hc5 (fun j hj=>by
   obtain ⟨p,hp,hb⟩:=hj;obtain ⟨a,b⟩:=p;rcases (qh2 hpk.srt _ _ a b).1 hp with ⟨rfl,rfl⟩ | ⟨_,hp'⟩
   ·exact .inr (hPb j hb)
   ·exact .inl ⟨(a,b),zck _ _ _ _ hp',hb⟩))
  have hid:=hok.keys (newId (E.S.putPre k.Id bs.length).1.L k.Id,⟨⟨k.Number,⟨m.W,m.H,P⟩,(E.S.putPre k.Id bs.length).1.clock+1,(E.S.putPre k.Id bs.length).1.clock+1⟩,bs⟩) ((qh2 hpk.srt _ _ _ _).2 (.inl ⟨rfl,rfl⟩));dsimp only at hid;have z5:=hc5.size;have hk5:=hk4.drew.chg hc5 fun e=>nE (le_refl _) (.inr (.inl e));have hv5:=hv4.drew.chg hc5 fun e=>nE (by omega:w.heap.size<=w2.heap.size) (.inr (.inl e));have ht5:=ht4.drew.chg hc5 fun e=>nE (by omega:w.heap.size<=w3.heap.size) (.inr (.inl e));refine qht (E:=E_int) qhd hq (y:=newId (E.S.putPre k.Id bs.length).1.L k.Id) rfl z5 (by rw [qjn];omega) (by unfold maxLen;omega) fun r w9 ho9 hc9 hr9=>?_;have h9:=h5.far hc9 (fun j hj=>⟨by obtain ⟨cs,hcs⟩:=hq.blk_t hj;exact ⟨_,cs,hcs,by decide⟩,nLS (by have:=(hq.lt j hj).1;omega)⟩) fun j hj=>by have:=(hq.lt j hj).1;omega
  have nq:∀{j:Nat},j<w4.heap.size->¬q.blk=some j:=fun hj e=>by have:=(hq.lt _ e).1;omega
  have hk9:=hk5.chg hc9 (nq lk4);have hv9:=hv5.chg hc9 (nq lv4);have ht9:=ht5.chg hc9 (nq lt4);refine q6q h9.m (by omega) ho9.rd (fun a ha=>qa0 ho9 h9.m.tb.blk (by decide) a.block (slk.2 ⟨a,ha,rfl⟩)) fun q' w10 h10=>?_;have hk10:=hk9.chg h10.chg (nE (le_refl _));have hv10:=hv9.chg h10.chg (nE (by omega:w.heap.size<=w2.heap.size));have ht10:=ht9.chg h10.chg (nE (by omega:w.heap.size<=w3.heap.size));have hE10:EngT base g w F { F with q:=q' } (keptE E k m.W m.H bs P) (n+1) w10:=h9.trans h10;have ek:keepK E k m.W m.H bs P v=if k.Action≠84 then (keptE E k m.W m.H bs P,toldR (qds E k bs) 0 []) else ((qe7 (keptE E k m.W m.H bs P) (qds E k bs) (idK E k bs) v).1,(qe7 (keptE E k m.W m.H bs P) (qds E k bs) (idK E k bs) v).2.1):=by
   unfold keepK;rw [if_neg (fun hh=>hh he)]
  refine jpO fun J1 hJ1=>?_;have j1:∀wx,Blk wx w.heap.size qay (qaa.rep.cells (qds E k bs))->Blk wx w2.heap.size qbf (qaf.rep.cells v)->Blk wx w3.heap.size qai [(.slice none 0 0),(.int .i64 0),(.int .i64 0),(.bool false)]->EngT base g w F { F with q:=q' } (keptE E k m.W m.H bs P) (n+1) wx->J1 (()) wx:=by
   intro w11 hk11 hv11 ht11 h11;refine hJ1 _ _ ?_;have hT11:=hT.stepK h h4 h11;have hwn:Wide (toL (qds E k bs)):=by
    unfold qds;split
    ·exact zby hw (by unfold idK;omega)
    ·exact hw
   have ea:(qds E k bs).Action=k.Action:=by
    unfold qds;split<;>rfl
   have lt11:=ht11.lt;refine lI (x:=(qds E k bs).Action) (hk11.cells 0 _ rfl) ?_;rw [ea];by_cases hac:k.Action=84
   ·rw [if_neg (fun hh=>hh hac)] at ek;refine cF (by simpa using hac) (qal (r:=qaa.rep) (x:=qds E k bs) hk11.cells (qal (r:=qaf.rep) (x:=v) hv11.cells ?_));refine q4j h11.m (by omega) hT11 h4 hwn (idK E k bs) v fun r F14 w14 hr14 h14 hrb=>?_;have hE14:=h11.trans h14;have n3:¬engS g { F with q:=q' } w3.heap.size:=h11.m.not_in ht11 tys (nLS (by omega));have ht14:=ht11.chg h14.chg n3;refine qcu (vs:=qad.rep.cells r) rfl fun w16 ho16 hB16 hs16=>?_;refine qal (r:=qad.rep) (x:=r) ho16.cells ?_;have ht16:=ht14.ext hB16;refine qbm (r:=qad.rep) (x:=r) ht16 rfl rfl fun w17 hc17 hs17=>?_;have nF14:¬F14.LS w3.heap.size:=fun hk=>by
     rcases h14.ls _ hk with hk | hk
     ·exact nLS (by omega:w.heap.size<=w3.heap.size) hk
     ·omega
    refine hK P r F14 w17 ?_ ?_ (fun j hj=>⟨by have:=(hrb j hj).1;have:=h11.chg.size;omega,(hrb j hj).2⟩)
    ·rw [ek];have hr16:=hr14.ext hB16;exact ⟨hr16.1.chg hc17 fun a ha e=>by have:=(hrb a.block (slk.2 ⟨a,ha,rfl⟩)).1;omega,hr16.2⟩
    ·rw [ek];exact (hE14.ext hB16).other ht16 tys nF14 (by omega) hc17
   ·rw [if_pos hac] at ek;refine cT (by simpa using hac) (qal (r:=qaa.rep) (x:=qds E k bs) hk11.cells ?_);refine qfk hT11 hwn 0 [] (by simp) fun q2 w12 hq2 hB12 hqb2=>?_;have ht12:=ht11.ext hB12;refine qbm (r:=qad.rep) (x:=⟨q2,0,0,false⟩) ht12 rfl rfl fun w13 hc13 hs13=>?_;refine hK P _ _ w13 ?_ (?_:EngT base g w F { F with q:=q' } _ (n+2) w13) (fun j hj=>⟨by have:=hqb2 j hj;have:=h11.chg.size;omega,fun hs=>by have:=(h11.m.below _ hs).2;have:=hqb2 j hj;omega⟩)
    ·rw [ek];exact ⟨hq2.chg hc13 fun a ha e=>by have:=hqb2 a.block (slk.2 ⟨a,ha,rfl⟩);omega,rfl,rfl,rfl⟩
    ·rw [ek];exact ((h11.ext hB12).up (by omega)).other ht12 tys (nLS (by omega)) (by omega) hc13
  refine jpO fun J2 hJ2=>?_;have j2:∀b:Bool,(b=true↔k.Id=0/\k.Number≠0)->J2 (b,()) w10:=by
   intro b hb;refine hJ2 _ _ ?_;cases b
   ·refine cF rfl (j1 w10 ?_ hv10 ht10 hE10);have:qds E k bs=k:=by unfold qds;rw [if_neg (fun hh=>by have:=hb.2 hh;cases this)]
    rw [this];exact hk10
   ·refine cT rfl ?_;show stK ⟨w.heap.size,8,none⟩ _ _ _;refine qaj hk10 (by show (8+1:Nat)<=22;omega) fun w11 hk11 hg11 hs11=>?_;have hc11:Chg (fun i=>i=w.heap.size) w10 w11:=Chg.of_grown hg11 fun k hk=>by cases hk;rfl
    refine j1 w11 ?_ (hv10.chg hc11 fun e=>by omega) (ht10.chg hc11 fun e=>by omega) (hE10.other hk10 tyk (nLS (le_refl _)) (le_refl _) hc11);have:qds E k bs={ k with Id:=idK E k bs }:=by unfold qds;rw [if_pos (hb.1 rfl)]
    rw [this];exact hk11
  refine lI (x:=k.Id) (hk10.cells 8 _ rfl) (cO (fun e=>?_) fun e=>?_)
  ·have e:=eq_of_beq e;refine lI (x:=k.Number) (hk10.cells 9 _ rfl) (j2 _ ⟨fun hh=>⟨e,by simpa using hh⟩,fun hh=>by simpa using hh.2⟩)
  ·exact j2 _ ⟨fun hh=>(by cases hh),fun hh=>absurd hh.1 (beq_eq_false_iff_ne.1 e)⟩
end
def badP:List UInt8:=[69,66,65,68,80,78,71]
def wordK (k:qaa) (x:Int):List UInt8:=if k.Format=100/\(x=2\/x=3\/x=4\/x=8\/x=1) then badP else []
noncomputable def endK (E:KE) (C:LdK) (s:LdS) (k:qaa) (P:Slc) (v:qaf):KE×KR :=
 if ((resL C s).1:Int)≠0\/k.Action=113 then (E.idle,toldR k ((resL C s).1:Int) (wordK k ((resL C s).1:Int)))
 else keepK E.idle k ((resL C s).2.1:Int) ((resL C s).2.2.1:Int) (resL C s).2.2.2 P v
section
variable {w w':World} {base g n:Nat} {F F':KF} {E E':KE}
theorem EngT.load (h:EngM w base g F E n) {C:LdK} {s s':LdS} (hl:E.ld=some (C,s)) {S':Nat->Prop} (ha:LdA w' base F.lg F.gd C s' S') (hS:∀k,S' k->F.LS k\/w.heap.size<=k) (hc:Chg F.LS w w') :
  EngT base g w F { F with LS:=S' } { E with ld:=some (C,s') } n w':=by
 have old:∀k,k<w.heap.size->¬F.LS k->¬S' k:=fun k hk hn hs=>by
  rcases hS k hs with h1 | h1
  ·exact hn h1
  ·omega
 have hb:Blk w' g qby (engC { F with LS:=S' } { E with ld:=some (C,s') }):=by
  have h1:=h.blk.chg hc h.dg;have e:engC { F with LS:=S' } { E with ld:=some (C,s') }=engC F E:=by
   unfold engC;rw [hl];rfl
  rw [e];exact h1
 refine ⟨⟨hb,h.hg,h.st.keep hc h.ds.1 h.ds.2 (fun p hp k hk e=>h.di k ⟨p,hp,hk⟩ e),h.ok,h.hs,h.tb.chg hc h.dt,h.tl,fun C1 s1 h1=>?_,(fun h1=>by cases h1),old _ h.blk.lt h.dg,⟨old _ h.st.blk.lt h.ds.1,old _ h.st.map.lt h.ds.2⟩,fun k hk=>old _ (h.tb.lt k hk).2 (h.dt k hk),fun k hk=>?_⟩,?_,hc.mono fun k _ hk=>.inr (.inr (.inr hk)),hS⟩
 ·cases h1;exact ⟨ha,(h.lo C s hl).2⟩
 ·obtain ⟨p,hp,hb⟩:=hk;exact old _ ((h.st.img p hp).lt k hb).2 (h.di k ⟨p,hp,hb⟩)
 ·rintro k (hk | hk | hk | hk)
  ·exact .inl (.inl hk)
  ·exact .inl (.inr (.inl hk))
  ·exact .inl (.inr (.inr (.inl hk)))
  ·rcases hS k hk with h1 | h1
   ·exact .inl (.inr (.inr (.inr h1)))
   ·exact .inr h1
theorem zb4 (k:qaa) (x:Int):(wordK k x).length<=100000:=by
 unfold wordK;split
 ·show (7:Nat)<=_;omega
 ·show (0:Nat)<=_;omega
theorem zhc (h:EngM w base g F E n) (hn:n<=900) (hT:Tab w) (h4:4<=base) {C:LdK} {s:LdS} (hl:E.ld=some (C,s)) (hsm:s.b.length<=32000) {k:qaa} (hw:Wide (toL k)) (v:qaf) {K:qad->World->Prop}
  (hK:∀P r F' w',ResM w' r (endK E C s k P v).2->EngT base g w F F' (endK E C s k P v).1 (n+2) w'->(∀j,r.Reply.blk=some j->w.heap.size<=j/\¬engS g F' j)->K r w'):qi6 (some ⟨g,0,none⟩) k v w K:=by
 refine qv4 _ _ _ ?_;unfold qog;simp only [onPtr_some];refine nwb fun w1 hk1 hB1 hs1=>nwb fun w2 hv2 hB2 hs2=>nwb fun w3 ht3 hB3 hs3=>?_;have B3:=qcn hB1 hB2 hB3;have hk3:=(hk1.ext hB2).ext hB3;have hv3:=hv2.ext hB3;have h3:=h.ext B3;have z1:=hB1.size;have z2:=hB2.size;have z3:=hB3.size;have lk3:=hk3.lt;have lv3:=hv3.lt;have lt3:=ht3.lt;have nE:∀{b:Nat},w.heap.size<=b->¬engS g F b:=fun hb hk=>by have:=(h.below _ hk).2;omega
 have nLS:∀{b:Nat},w.heap.size<=b->¬F.LS b:=fun hb hk=>nE hb (.inr (.inr (.inr hk)));have tys:tyFar qai:=by decide
 have tyk:tyFar qay:=by decide
 refine qa8 (x:=some ⟨F.lg,0,none⟩) (by have:=h3.blk.cells 3 _ rfl;rw [hl] at this;exact this) ?_;obtain ⟨hld,hcf⟩:=h3.lo C s hl;refine zer hld (le_trans h3.hg (Nat.le_of_lt h3.blk.lt)) hcf hsm fun m S' w4 hld4 hm4 hmS hS' hc4=>?_;have h4e:=(EngT.of_ext h B3).trans (EngT.load h3 hl hld4 hS' hc4);have hk4:=hk3.chg hc4 (nLS (le_refl _));have hv4:=hv3.chg hc4 (nLS (by omega));have ht4:=ht3.chg hc4 (nLS (by omega));have z4:=hc4.size;refine qcu (vs:=qac.rep.cells m) rfl fun w6 hm6 hB6 hs6=>?_;have hk6:=hk4.ext hB6;have hv6:=hv4.ext hB6;have ht6:=ht4.ext hB6;have h6:=h4e.ext hB6;have hmo6:=hm4.2.2.ext hB6;have z6:=hB6.size;obtain ⟨hmW,hmH,hmo⟩:=hm4;obtain ⟨x,hx⟩:∃x:Int,x=((resL C s).1:Int):=⟨_,rfl⟩;rw [<-hx];refine jpO fun J1 hJ1=>?_;have j1:J1 (strB (wordK k x),()) w6:=by
  refine hJ1 _ _ (jpO fun J2 hJ2=>?_);refine q0i h6.m fun F7 w7 h7 hq7 htg7=>?_;have nS6:∀{b:Nat} {t:TypeId} {vs:List Value},w.heap.size<=b->b<w3.heap.size->Blk w6 b t vs->tyFar t->¬engS g { F with LS:=S' } b:=fun h1 h2 hb ht=>h6.m.not_in hb ht fun hs=>by
   rcases hS' _ hs with h5 | h5
   ·exact nLS h1 h5
   ·omega
  have hE7:=h6.trans h7;have hk7:=hk6.chg h7.chg (nS6 (le_refl _) (by omega) hk6 (by decide));have hv7:=hv6.chg h7.chg (nS6 (by omega) (by omega) hv6 (by decide));have ht7:=ht6.chg h7.chg (nS6 (by omega) (by omega) ht6 (by decide));have hm7:Blk w7 w4.heap.size qaq (qac.rep.cells m):=hm6.chg h7.chg (h6.m.not_in hm6 (by decide) fun hs=>by
   have:=(hld4.lt _ hs).2;omega)
  have hT7:=hT.stepK h h4 hE7;have nLS7:∀{b:Nat},w.heap.size<=b->b<w3.heap.size->¬F7.LS b:=fun h1 h2 hs=>by
   have:∀j,¬F7.LS j:=h7.m.nl rfl;exact this _ hs
  have lt7:=ht7.lt;refine jpO fun J3 hJ3=>?_;have j3:J3 (decide (x≠0\/k.Action=113),()) w7:=by
   refine hJ3 _ _ ?_;by_cases hb:x≠0\/k.Action=113
   ·rw [dTq hb];refine cT rfl (qal (r:=qaa.rep) (x:=k) hk7.cells ?_);refine qfk hT7 hw x (wordK k x) (zb4 k x) fun q w8 hq hB8 hqb=>?_;have ht8:=ht7.ext hB8;refine qbm (r:=qad.rep) (x:=⟨q,0,0,false⟩) ht8 rfl rfl fun w9 hc9 hs9=>?_;have ek:endK E C s k ⟨none,0,0⟩ v=(E.idle,toldR k x (wordK k x)):=by
     unfold endK;rw [<-hx,if_pos hb]
    have z7:=h7.chg.size;refine hK ⟨none,0,0⟩ _ F7 w9 ?_ ?_ (fun j hj=>⟨by have:=hqb j hj;omega,fun hs=>by have:=(h7.m.below _ hs).2;have:=hqb j hj;omega⟩)
    ·rw [ek];exact ⟨hq.chg hc9 fun a ha e=>by have:=hqb a.block (slk.2 ⟨a,ha,rfl⟩);omega,rfl,rfl,rfl⟩
    ·rw [ek];exact ((hE7.ext hB8).up (by omega)).other ht8 tys (nLS7 (by omega) (by omega)) (by omega) hc9
   ·rw [dFq hb];refine cF rfl (hJ2 _ _ ?_);refine qal (r:=qaa.rep) (x:=k) hk7.cells (qal (r:=qac.rep) (x:=m) hm7.cells (qal (r:=qaf.rep) (x:=v) hv7.cells ?_));have hmo7:=hmo6.chg h7.chg fun j hj hs=>by
     obtain ⟨cs,hcs⟩:=hmo6.blk_t hj;exact h6.m.not_in4 hcs (by decide) (hmS j hj) hs
    refine zf7 h7.m hn hT7 h4 hw hmo7.rd (fun a ha hs=>?_) v fun P r F9 w9 hr hE9 hrb=>?_
    ·have hj:m.P.blk=some a.block:=slk.2 ⟨a,ha,rfl⟩;obtain ⟨cs,hcs⟩:=hmo7.blk_t hj;exact h7.m.not_in4 hcs (by decide) (h7.m.nl rfl _) hs
    ·have n3:¬engS g F7 w2.heap.size:=h7.m.not_in ht7 tys (nLS7 (by omega) (by omega));have ht9:=ht7.chg hE9.chg n3;have ek:∀P,endK E C s k P v=keepK E.idle k m.W m.H (resL C s).2.2.2 P v:=by
      intro P;unfold endK;rw [<-hx,if_neg hb,hmW,hmH]
     refine qbm (r:=qad.rep) (x:=r) ht9 rfl rfl fun w10 hc10 hs10=>?_;have z7:=h7.chg.size;have nF9:¬F9.LS w2.heap.size:=fun hs=>by
      rcases hE9.ls _ hs with h1 | h1
      ·exact nLS7 (by omega) (by omega) h1
      ·omega
     refine hK P r F9 w10 ?_ ?_ (fun j hj=>⟨by have:=(hrb j hj).1;omega,(hrb j hj).2⟩)
     ·rw [ek];exact ⟨hr.1.chg hc10 fun a ha e=>by have:=(hrb a.block (slk.2 ⟨a,ha,rfl⟩)).1;omega,hr.2⟩
     ·rw [ek];exact (hE7.trans hE9).other ht9 tys nF9 (by omega) hc10
  by_cases hx0:x=0
  ·refine cF (by simpa using hx0) (lI (x:=k.Action) (hk7.cells 0 _ rfl) ?_);have e:(k.Action==113)=decide (x≠0\/k.Action=113):=by
    by_cases ha:k.Action=113
    ·rw [dTq (.inr ha)];exact beq_iff_eq.2 ha
    ·rw [dFq (fun hh=>hh.elim (fun h=>h hx0) ha)];exact beq_eq_false_iff_ne.2 ha
   rw [e];exact j3
  ·rw [dTq (.inl hx0)] at j3;exact cT (by simpa using hx0) j3
 have e1:(⟨#[69,66,65,68,80,78,71]⟩:ByteArray)=strB badP:=rfl;have e2:(⟨#[]⟩:ByteArray)=strB []:=rfl;rw [e1,e2];unfold wordK at j1;refine lI (x:=k.Format) (hk6.cells 5 _ rfl) (cO (fun f=>?_) fun f=>?_)
 ·have f:=eq_of_beq f;have yes:(x=2\/x=3\/x=4\/x=8\/x=1)->J1 (strB badP,()) w6:=fun h=>by rw [if_pos ⟨f,h⟩] at j1;exact j1
  refine cO (fun a=>cT a (yes (.inl (eq_of_beq a)))) fun a=>?_;refine cO (fun b=>cT b (yes (.inr (.inl (eq_of_beq b))))) fun b=>?_;refine cO (fun c=>cT c (yes (.inr (.inr (.inl (eq_of_beq c)))))) fun c=>?_;refine cO (fun d=>cT d (yes (.inr (.inr (.inr (.inl (eq_of_beq d))))))) fun d=>?_;refine cO (fun e=>yes (.inr (.inr (.inr (.inr (eq_of_beq e)))))) fun e=>?_;rw [if_neg (fun hh=>by rcases hh.2 with h | h | h | h | h<;>simp [h] at a b c d e)] at j1;exact j1
 ·rw [if_neg (fun hh=>(beq_eq_false_iff_ne.1 f) hh.1)] at j1;exact j1
end
def qet (f k:qaa):qaa:=if k.Quiet≠0 then { f with Quiet:=k.Quiet } else f
def addE (E:KE) (C:LdK) (s:LdS) (ts:List UInt8):KE:={ E with ld:=some (C,addL C s ts) }
noncomputable def moreK (E:KE) (C:LdK) (s:LdS) (k:qaa) (ts:List UInt8) (P:Slc) (v:qaf):KE×KR :=
 if (addL C s ts).err≠0 then ((addE E C s ts).idle,toldR (qet E.first k) (((addL C s ts).err:Nat):Int) [])
 else if ((addE E C s ts).reserve 0).2≠0 then (((addE E C s ts).reserve 0).1.idle,toldR (qet E.first k) ((addE E C s ts).reserve 0).2 [])
 else if k.More=1 then (((addE E C s ts).reserve 0).1,kr0)
 else endK ((addE E C s ts).reserve 0).1 C (addL C s ts) (qet E.first k) P v
theorem zd3 (E:KE) (m:Int):(E.reserve m).1.ld=E.ld:=by
 unfold KE.reserve;split
 ·rfl
 ·split<;>rfl
theorem zd5 {f k:qaa} (hf:Wide (toL f)) (hk:Wide (toL k)):Wide (toL (qet f k)):=by
 unfold qet;split
 ·have e:toL { f with Quiet:=k.Quiet }=(toL f).set 4 k.Quiet:=rfl;intro i;rw [e,List.getElem?_set];by_cases hi:4=i
  ·rw [if_pos hi,if_pos (by rw [q51];omega)];exact hk 4
  ·rw [if_neg hi];exact hf i
 ·exact hf
section
variable {w w':World} {base g n:Nat} {F F':KF} {E E':KE}
theorem q63 (h:EngM w base g F E n) (hn:n<=900) (hT:Tab w) (h4:4<=base) {C:LdK} {s:LdS} (hl:E.ld=some (C,s)) (hov:s.over=false) {text:Slc} {ts:List UInt8} (hpot:potL s+3*ts.length<=120000) (ht:Rd qae w text ts) (htS:∀k,text.blk=some k->ts≠[]->¬F.LS k)
  {k:qaa} (hwf:Wide (toL E.first)) (hwk:Wide (toL k)) (v:qaf) {K:qad->World->Prop}
  (hK:∀P r F' w',ResM w' r (moreK E C s k ts P v).2->EngT base g w F F' (moreK E C s k ts P v).1 (n+2) w'->(∀j,r.Reply.blk=some j->w.heap.size<=j/\¬engS g F' j)->K r w'):qf0 (some ⟨g,0,none⟩) k text v w K:=by
 refine qu0 _ _ _ _ ?_;unfold qnl;simp only [onPtr_some];refine nwb fun w1 hk1 hB1 hs1=>nwb fun w2 hv2 hB2 hs2=>nwb fun w3 ht3 hB3 hs3=>?_;have B3:=qcn hB1 hB2 hB3;have h3:=h.ext B3;refine qal (r:=qaa.rep) (x:=E.first) (h3.blk.sub 4 _ rfl) ?_;refine qcu (vs:=qaa.rep.cells E.first) rfl fun w5 hf5 hB5 hs5=>?_;have B5:=qap B3 hB5;have hk5:=((hk1.ext hB2).ext hB3).ext hB5;have hv5:=(hv2.ext hB3).ext hB5;have ht5:=ht3.ext hB5;have z1:=hB1.size;have z2:=hB2.size;have z3:=hB3.size;have z5:=hB5.size;have lf5:=hf5.lt;have nE:∀{b:Nat},w.heap.size<=b->¬engS g F b:=fun hb hk=>by have:=(h.below _ hk).2;omega
 have nLS:∀{b:Nat},w.heap.size<=b->¬F.LS b:=fun hb hk=>nE hb (.inr (.inr (.inr hk)));have tys:tyFar qai:=by decide
 have hwq:=zd5 hwf hwk;refine jpO fun J1 hJ1=>?_;have j1:∀wx,Below w.heap.size w wx->w5.heap.size<=wx.heap.size->Blk wx w3.heap.size qay (qaa.rep.cells (qet E.first k))->Blk wx w.heap.size qay (qaa.rep.cells k)->Blk wx w1.heap.size qbf (qaf.rep.cells v)->Blk wx w2.heap.size qai [(.slice none 0 0),(.int .i64 0),(.int .i64 0),(.bool false)]->J1 (()) wx:=by
  intro w6 B6 z56 hf6 hk6 hv6 ht6;refine hJ1 _ _ ?_;have h6:=h.ext B6;refine qa8 (x:=some ⟨F.lg,0,none⟩) (by have:=h6.blk.cells 3 _ rfl;rw [hl] at this;exact this) ?_;obtain ⟨hld,hcf⟩:=h6.lo C s hl;refine zg8 hld (le_trans h6.hg (Nat.le_of_lt h6.blk.lt)) hov (ht.ext B6) htS hpot fun S' w7 hld7 hov7 hpot7 hS' hc7=>?_;have h7:=(EngT.of_ext h B6).trans (EngT.load h6 hl hld7 hS' hc7);have lf6:=hf6.lt;have z7:=hc7.size;have hf7:=hf6.chg hc7 (nLS (by omega));have hk7:=hk6.chg hc7 (nLS (le_refl _));have hv7:=hv6.chg hc7 (nLS (by omega));have ht7:=ht6.chg hc7 (nLS (by omega));have hT7:=hT.stepK h h4 h7;refine jpO fun J2 hJ2=>?_;have bad:∀(x:Int) (E2:KE) (F8:KF) (w8:World),x≠0->EngT base g w F F8 E2 n w8->w7.heap.size<=w8.heap.size->(∀j,F8.LS j->S' j)->Blk w8 w3.heap.size qay (qaa.rep.cells (qet E.first k))->Blk w8 w2.heap.size qai [(.slice none 0 0),(.int .i64 0),(.int .i64 0),(.bool false)] ->
    (∀P,moreK E C s k ts P v=(E2.idle,toldR (qet E.first k) x []))->J2 (x,()) w8:=by
   intro x E2 F8 w8 hx h8 z78 hLS8 hf8 ht8 em;refine hJ2 _ _ (cT (by simpa using hx) ?_);have nS:∀{b:Nat},w.heap.size<=b->b<w5.heap.size->¬F8.LS b:=fun h1 h2 hs=>by
    rcases hS' _ (hLS8 _ hs) with h5 | h5
    ·exact nLS h1 h5
    ·omega
   refine q0i h8.m fun F9 w9 h9 hq9 htg9=>?_;have hE9:=h8.trans h9;have hf9:=hf8.chg h9.chg (h8.m.not_in hf8 (by decide) (nS (by omega) (by omega)));have ht9:=ht8.chg h9.chg (h8.m.not_in ht8 (by decide) (nS (by omega) (by omega)));have z9:=h9.chg.size;refine qal (r:=qaa.rep) (x:=qet E.first k) hf9.cells ?_;refine qfk (hT.stepK h h4 hE9) hwq x [] (by simp) fun q w10 hq hB10 hqb=>?_;have ht10:=ht9.ext hB10;refine qbm (r:=qad.rep) (x:=⟨q,0,0,false⟩) ht10 rfl rfl fun w11 hc11 hs11=>?_;refine hK ⟨none,0,0⟩ _ F9 w11 ?_ ?_ (fun j hj=>⟨by have:=hqb j hj;omega,fun hs=>by have:=(hE9.m.below _ hs).2;have:=hqb j hj;omega⟩)
   ·rw [em];exact ⟨hq.chg hc11 fun a ha e=>by have:=hqb a.block (slk.2 ⟨a,ha,rfl⟩);omega,rfl,rfl,rfl⟩
   ·rw [em];exact ((hE9.ext hB10).up (by omega)).other ht10 tys (fun hs=>h9.m.nl rfl _ hs) (by omega) hc11
  by_cases he:(addL C s ts).err=0
  ·refine cT (by rw [he];rfl) ?_;have hz7:EngM w7 base g { F with LS:=S' } (addE E C s ts) n:=h7.m;refine q55 hz7 (by omega) 0 fun F8 w8 h8 hlg8 hgd8 hLS8=>?_;have hE8:=h7.trans h8;have z8:=h8.chg.size;have nS:∀{b:Nat},w.heap.size<=b->b<w5.heap.size->¬S' b:=fun h1 h2 hs=>by
    rcases hS' _ hs with h5 | h5
    ·exact nLS h1 h5
    ·omega
   have hf8:=hf7.chg h8.chg (hz7.not_in hf7 (by decide) (nS (by omega) (by omega)));have hk8:=hk7.chg h8.chg (hz7.not_in hk7 (by decide) (nS (le_refl _) (by omega)));have hv8:=hv7.chg h8.chg (hz7.not_in hv7 (by decide) (nS (by omega) (by omega)));have ht8:=ht7.chg h8.chg (hz7.not_in ht7 (by decide) (nS (by omega) (by omega)));by_cases hx:((addE E C s ts).reserve 0).2=0
   ·rw [hx];refine hJ2 _ _ (cF rfl (lI (x:=k.More) (hk8.cells 11 _ rfl) ?_));have nF8:∀{b:Nat},w.heap.size<=b->b<w5.heap.size->¬F8.LS b:=fun h1 h2 hs=>nS h1 h2 (by rw [hLS8] at hs;exact hs);by_cases hm:k.More=1
    ·refine cT (by simpa using hm) ?_;refine qbm (r:=qad.rep) (x:=⟨⟨none,0,0⟩,0,0,false⟩) ht8 rfl rfl fun w9 hc9 hs9=>?_;have em:∀P,moreK E C s k ts P v=(((addE E C s ts).reserve 0).1,kr0):=fun P=>by
      unfold moreK;rw [if_neg (fun hh=>hh he),if_neg (fun hh=>hh hx),if_pos hm]
     refine hK ⟨none,0,0⟩ _ F8 w9 ?_ ?_ (fun j hj=>by cases hj)
     ·rw [em];exact ResM.nil _
     ·rw [em];exact (hE8.up (by omega)).other ht8 tys (nF8 (by omega) (by omega)) (by omega) hc9
    ·refine cF (by simpa using hm) (qal (r:=qaa.rep) (x:=qet E.first k) hf8.cells (qal (r:=qaf.rep) (x:=v) hv8.cells ?_));have hl8:((addE E C s ts).reserve 0).1.ld=some (C,addL C s ts):=zd3 _ _;have hbl:(addL C s ts).b.length<=32000:=by
      unfold potL at hpot7 hpot;omega
     refine zhc h8.m hn (hT.stepK h h4 hE8) h4 hl8 hbl hwq v fun P r F9 w9 hr h9 hrb=>?_;have ht9:=ht8.chg h9.chg (h8.m.not_in ht8 (by decide) (nF8 (by omega) (by omega)));have lt8:=ht8.lt;refine qbm (r:=qad.rep) (x:=r) ht9 rfl rfl fun w10 hc10 hs10=>?_;have em:moreK E C s k ts P v=endK ((addE E C s ts).reserve 0).1 C (addL C s ts) (qet E.first k) P v:=by
      unfold moreK;rw [if_neg (fun hh=>hh he),if_neg (fun hh=>hh hx),if_neg hm]
     refine hK P r F9 w10 ?_ ?_ (fun j hj=>⟨by have:=(hrb j hj).1;omega,(hrb j hj).2⟩)
     ·rw [em];exact ⟨hr.1.chg hc10 fun a ha e=>by have:=(hrb a.block (slk.2 ⟨a,ha,rfl⟩)).1;omega,hr.2⟩
     ·rw [em];refine (hE8.trans h9).other ht9 tys (fun hs=>?_) (by omega) hc10;rcases h9.ls _ hs with h1 | h1
      ·exact nF8 (by omega) (by omega) h1
      ·omega
   ·refine bad _ _ F8 w8 hx hE8 z8 (fun j hj=>by rw [hLS8] at hj;exact hj) hf8 ht8 fun P=>?_;unfold moreK;rw [if_neg (fun hh=>hh he),if_pos hx]
  ·have hne:(((addL C s ts).err:Nat):Int)≠0:=by omega
   refine cF (by simpa using he) ?_;refine bad _ (addE E C s ts) { F with LS:=S' } w7 hne h7 (le_refl _) (fun j hj=>hj) hf7 ht7 fun P=>?_;unfold moreK;rw [if_pos he]
 refine lI (x:=k.Quiet) (hk5.cells 4 _ rfl) ?_;by_cases hq:k.Quiet=0
 ·refine cF (by simpa using hq) (j1 w5 B5 (le_refl _) ?_ hk5 hv5 ht5);have:qet E.first k=E.first:=by unfold qet;rw [if_neg (fun hh=>hh hq)]
  rw [this];exact hf5
 ·refine cT (by simpa using hq) (lI (x:=k.Quiet) (hk5.cells 4 _ rfl) ?_);show stK ⟨w3.heap.size,4,none⟩ _ _ _;refine qaj hf5 (by show (4+1:Nat)<=22;omega) fun w6 hf6 hg6 hs6=>?_;have hc6:Chg (fun i=>i=w3.heap.size) w5 w6:=Chg.of_grown hg6 fun k hk=>by cases hk;rfl
  have:qet E.first k={ E.first with Quiet:=k.Quiet }:=by unfold qet;rw [if_pos hq]
  refine j1 w6 (B5.trans (hc6.below B5.size fun i hi e=>by omega)) (by omega) ?_ (hk5.chg hc6 fun e=>by omega) (hv5.chg hc6 fun e=>by omega) (ht5.chg hc6 fun e=>by omega);rw [this];exact hf6
end
def cfgK (E:KE) (k:qaa):LdK:=⟨k,E.quota.toNat,(qeg k).2⟩
def begE (E:KE) (k:qaa):KE:={ E with ld:=some (cfgK E k,ld0),first:=k }
noncomputable def qjw (E:KE) (k:qaa) (ts:List UInt8) (P:Slc) (v:qaf):KE×KR :=
 if newP k E.quota≠0 then (E,toldR k ((newP k E.quota:Nat):Int) []) else moreK (begE E k) (cfgK E k) ld0 k ts P v
theorem zc8 (F:KF) (E:KE) (k:qaa):putL (engC F E) 4 (qaa.rep.cells k)=engC F { E with first:=k }:=by kernel_rfl
theorem zjl (F:KF) (E:KE) (lg gd:Nat) (LS:Nat->Prop) (x:LdK×LdS):putL (engC F E) 3 [.pointer (some ⟨lg,0,none⟩)]=engC { F with lg:=lg,gd:=gd,LS:=LS } { E with ld:=some x }:=rfl
theorem q9z (F:KF) (E:KE):(engC F E).length=26:=rfl
section
variable {w w':World} {base g n:Nat} {F F':KF} {E E':KE}
theorem LdA.weak {B lg gd:Nat} {C:LdK} {s:LdS} {S:Nat->Prop} (h:LdA w B lg gd C s S) (hb:base<=B):LdA w base lg gd C s S:=by
 obtain ⟨⟨p,h1,h2⟩,h3,h4,h5,h6,h7⟩:=h;refine ⟨⟨p,h1,?_⟩,h3,h4,h5,h6,fun k hk=>⟨le_trans hb (h7 k hk).1,(h7 k hk).2⟩⟩;rcases h2 with h2 | ⟨x,a,b,c,d,e⟩
 ·exact .inl h2
 ·exact .inr ⟨x,a.base hb,b.base hb,c,d,e⟩
theorem zcm (h:EngM w base g F E n) (hn:n<=900) (hT:Tab w) (h4:4<=base) (hl:E.ld=none) (hq:E.quota<=100000) {text:Slc} {ts:List UInt8} (hts:ts.length<=40000) (ht:Rd qae w text ts) (htg:∀j,text.blk=some j->ts≠[]->¬engS g F j)
  {k:qaa} (hwk:Wide (toL k)) (v:qaf) {K:qad->World->Prop}
  (hK:∀P r F' w',ResM w' r (qjw E k ts P v).2->EngT base g w F F' (qjw E k ts P v).1 (n+2) w'->(∀j,r.Reply.blk=some j->w.heap.size<=j/\¬engS g F' j)->K r w'):qhi (some ⟨g,0,none⟩) k text v w K:=by
 refine qts _ _ _ _ ?_;unfold qms;simp only [onPtr_some];refine nwb fun w1 hk1 hB1 hs1=>nwb fun w2 hv2 hB2 hs2=>nwb fun w3 ht3 hB3 hs3=>?_;have B3:=(qcn hB1 hB2 hB3).drew;have hk3:=((hk1.ext hB2).ext hB3).drew;have hv3:=(hv2.ext hB3).drew;have ht3:=ht3.drew;have h3:=h.ext B3;have z1:=hB1.size;have z2:=hB2.size;have z3:=hB3.size;have lt3:=ht3.lt;have e3:w3.drew.heap.size=w3.heap.size:=rfl;have gl:=h.blk.lt;have nE:∀{b:Nat},w.heap.size<=b->¬engS g F b:=fun hb hk=>by have:=(h.below _ hk).2;omega
 have nLS:∀{b:Nat},w.heap.size<=b->¬F.LS b:=fun hb hk=>nE hb (.inr (.inr (.inr hk)));have tys:tyFar qai:=by decide
 refine qal (r:=qaa.rep) (x:=k) hk3.cells (lI (x:=E.quota) (h3.blk.cells 0 _ rfl) ?_);refine zfe (fun he w4 hB4=>?_) fun he lg gd w4 hld hB4=>?_
 ·refine cT (by simp;omega) (qal (r:=qaa.rep) (x:=k) (hk3.ext hB4).cells ?_);have B4:=qap B3 hB4;refine qfk (hT.ext B4) hwk _ [] (by simp) fun q w5 hq hB5 hqb=>?_;have ht5:=(ht3.ext hB4).ext hB5;have em:∀P,qjw E k ts P v=(E,toldR k ((newP k E.quota:Nat):Int) []):=fun P=>by unfold qjw;rw [if_pos he]
  have z4:=hB4.size;refine qbm (r:=qad.rep) (x:=⟨q,0,0,false⟩) ht5 rfl rfl fun w6 hc6 hs6=>?_;refine hK ⟨none,0,0⟩ _ F w6 ?_ ?_ (fun j hj=>⟨by have:=hqb j hj;omega,fun hs=>by have:=(h.below _ hs).2;have:=hqb j hj;omega⟩)
  ·rw [em];exact ⟨hq.chg hc6 fun a ha e=>by have:=hqb a.block (slk.2 ⟨a,ha,rfl⟩);omega,rfl,rfl,rfl⟩
  ·rw [em];exact ((EngT.of_ext h (qap B4 hB5)).up (by omega)).other ht5 tys (nLS (by omega)) (by omega) hc6
 ·refine cF rfl ?_;have B4:=(qap B3 hB4).drew;have h4e:=h.ext B4;have hk4:=(hk3.ext hB4).drew;have hv4:=(hv3.ext hB4).drew;have ht4:=(ht3.ext hB4).drew;have z4:=hB4.size;have e4:w4.drew.heap.size=w4.heap.size:=rfl;refine qal (r:=qaa.rep) (x:=k) hk4.cells ?_;show stK ⟨g,3,none⟩ _ _ _;refine qaj h4e.blk (by rw [q9z];show (3+1:Nat)<=26;omega) fun w7 hb7 hg7 hs7=>?_;have hc7:Chg (fun i=>i=g) w4.drew w7:=Chg.of_grown hg7 fun k hk=>by cases hk;rfl
  have hk7:=hk4.chg hc7 fun e=>by omega
  refine ⟨hk7.cells,?_⟩;show stK ⟨g,4,none⟩ _ _ _;have e22:(qaa.rep.cells k).length=22:=rfl
  let F1:KF:={ F with lg:=lg,gd:=gd,LS:=fun i=>i=lg\/i=gd }
  have hb7':Blk w7 g qby (engC F1 { E with ld:=some (cfgK E k,ld0) }):=by
   rw [zjl F E lg gd (fun i=>i=lg\/i=gd) (cfgK E k,ld0)] at hb7;exact hb7
  refine qaj hb7' (by rw [e22,q9z];omega) fun w8 hb8 hg8 hs8=>?_;have hc8:Chg (fun i=>i=g) w7 w8:=Chg.of_grown hg8 fun k hk=>by cases hk;rfl
  have hb8':Blk w8 g qby (engC F1 (begE E k)):=by
   rw [zc8] at hb8;exact hb8
  have hc:Chg (fun i=>i=g) w4.drew w8:=hc7.trans hc8 fun i _ hi=>hi;have hk8:=hk4.chg hc fun e=>by omega
  have hv8:=hv4.chg hc fun e=>by omega
  have ht8:=ht4.chg hc fun e=>by omega
  have llt:∀j,(j=lg\/j=gd)->w3.heap.size<=j/\j<w4.heap.size:=fun j hj=>by have:=hld.lt j hj;omega
  have hld8:LdA w8 base lg gd (cfgK E k) ld0 (fun i=>i=lg\/i=gd):=by
   have h1:LdA w4.drew w3.drew.heap.size lg gd (cfgK E k) ld0 (fun i=>i=lg\/i=gd):=hld.ext (qcg w4);exact (h1.chg hc fun j hj e=>by have:=llt j hj;omega).weak (by have:=h.hg;omega)
  have hq0:0<=E.quota:=by
   rcases Int.lt_or_le E.quota 0 with hlt | hge
   ·exfalso;unfold newP at he;rw [if_pos (.inl hlt)] at he;cases he
   ·exact hge
  have hcf:CfgOk (cfgK E k):=⟨by show newP k ((E.quota.toNat:Nat):Int)=0;rw [show ((E.quota.toNat:Nat):Int)=E.quota by omega];exact he,rfl,by show E.quota.toNat<=100000;omega⟩;have old:∀{j:Nat},j<w.heap.size->¬(j=lg\/j=gd):=fun hj e=>by have:=llt _ e;omega
  have h8:EngT base g w F F1 (begE E k) n w8:=by
   refine ⟨⟨hb8',h.hg,h4e.st.keep hc (fun e=>h.g_sg e.symm) (fun e=>h.g_sr e.symm) (fun p hp k hk e=>h4e.img_g hp hk e),h.ok,h.hs,h4e.tb.chg hc ?_,h.tl,(fun C s h1=>?_),(fun h1=>by cases h1),old gl,⟨old h.st.blk.lt,old h.st.map.lt⟩,(fun j hj=>old (h.tb.lt j hj).2),fun j hj=>?_⟩,?_,?_,fun j hj=>.inr (by have:=llt j hj;omega)⟩
   ·rintro j (hj | hj) e
    ·exact h.g_tg (e.symm.trans hj)
    ·exact h.g_q j hj e
   ·cases h1;exact ⟨hld8,hcf⟩
   ·obtain ⟨p,hp,hb⟩:=hj;exact old ((h.st.img p hp).lt j hb).2
   ·rintro j (hj | hj | hj | hj)
    ·exact .inl (.inl hj)
    ·exact .inl (.inr (.inl hj))
    ·exact .inl (.inr (.inr (.inl hj)))
    ·exact .inr (by have:=llt j hj;omega)
   ·exact (Chg.of_ext (S:=engS g F) B4).trans hc fun i _ hi=>.inl hi
  have ht8w:Rd qae w8 text ts:=by
   refine qil (ht.ext B4) hc fun hp a ha e=>?_;exact htg a.block (slk.2 ⟨a,ha,rfl⟩) (fun h0=>by rw [h0] at hp;cases hp) (.inl e)
  refine qal (r:=qaa.rep) (x:=k) hk8.cells (qal (r:=qaf.rep) (x:=v) hv8.cells ?_);refine q63 h8.m hn (hT.stepK h h4 h8) h4 (C:=cfgK E k) (s:=ld0) rfl rfl (by show potL ld0+_<=_;have:potL ld0=0:=rfl;omega) ht8w (fun j hj hne hs=>?_) hwk hwk v fun P r F9 w9 hr h9 hrb=>?_
  ·obtain ⟨a,ha,hab⟩:=slk.1 hj;have:=rd_lt ht (List.length_pos_iff.2 hne) a ha;exact old (hab ▸ this) hs
  ·have z8:=h8.chg.size;have lt8:=ht8.lt;have n2:¬F1.LS w2.heap.size:=fun hs=>by have:=llt _ hs;omega
   have ht9:=ht8.chg h9.chg (h8.m.not_in ht8 tys n2);refine qbm (r:=qad.rep) (x:=r) ht9 rfl rfl fun w10 hc10 hs10=>?_;have em:qjw E k ts P v=moreK (begE E k) (cfgK E k) ld0 k ts P v:=by
    unfold qjw;rw [if_neg (fun hh=>hh he)]
   refine hK P r F9 w10 ?_ ?_ (fun j hj=>⟨by have:=(hrb j hj).1;omega,(hrb j hj).2⟩)
   ·rw [em];exact ⟨hr.1.chg hc10 fun a ha e=>by have:=(hrb a.block (slk.2 ⟨a,ha,rfl⟩)).1;omega,hr.2⟩
   ·rw [em];refine (h8.trans h9).other ht9 tys (fun hs=>?_) (by omega) hc10;rcases h9.ls _ hs with h1 | h1
    ·exact n2 h1
    ·omega
end
def headB (c:UInt8) (l:List UInt8):List UInt8:=l.takeWhile fun b=>b !=c
def tailB (c:UInt8) (l:List UInt8):List UInt8:=(l.dropWhile fun b=>b !=c).drop 1
theorem cutB (c:UInt8):∀l:List UInt8,(c∈l/\l=headB c l++c::tailB c l/\∀b∈headB c l,b≠c)\/((∀b∈l,b≠c)/\headB c l=l/\tailB c l=[])
 | []=>.inr ⟨by simp,rfl,rfl⟩
 | b::l=>by
  by_cases hb:b=c
  ·subst hb;left;simp [headB,tailB]
  ·have e1:headB c (b::l)=b::headB c l:=by simp [headB,hb]
   have e2:tailB c (b::l)=tailB c l:=by simp [tailB,hb]
   rw [e1,e2];rcases cutB c l with ⟨h1,h2,h3⟩ | ⟨h1,h2,h3⟩
   ·left;refine ⟨by simp [h1],by rw [List.cons_append,<-h2],fun x hx=>?_⟩;rcases List.mem_cons.1 hx with rfl | hx
    ·exact hb
    ·exact h3 x hx
   ·right;refine ⟨fun x hx=>?_,by rw [h2],h3⟩;rcases List.mem_cons.1 hx with rfl | hx
    ·exact hb
    ·exact h1 x hx
theorem q3w:∀(l:List UInt8) (c:UInt8),(∀b∈l,b≠c)->indexByte l c=-1
 | [],c,_=>by simp [indexByte]
 | b::x,c,h=>by
  have h1:=q3w x c fun b hb=>h b (by simp [hb]);have h2:b≠c:=h b (by simp);simp [indexByte,h2,h1]
theorem ze0 (c:UInt8) (l:List UInt8):(headB c l).length<=l.length:=List.Sublist.length_le (List.takeWhile_sublist _)
theorem q60 (c:UInt8) (l:List UInt8):(tailB c l).length<=l.length:=by
 unfold tailB;have:=List.Sublist.length_le (List.dropWhile_sublist (l:=l) (fun b=>b !=c));rw [length_drop];omega
section
variable {w:World}
theorem q31 {s:Slc} {bs:List UInt8} (c:UInt8) {g o:Nat} (hs:Rd qae w s bs) (hsa:s.a=some ⟨g,o,none⟩) {sep:Slc} (hsep:Rd qae w sep [c]) (hl:bs.length<=1000000) {K:Int->World->Prop}
  (hK:K (indexByte bs c) w):qq2 s sep w K:=by
 refine q3b _ _ ?_;unfold qwc;have hn:=hs.n;have hsn1:sep.n=1:=hsep.n;refine cF (by rw [hsn1];rfl) (cT (by rw [hsn1];rfl) ?_);refine hsep.ix (k:=1) rfl (by omega) (by rw [List.length_singleton];decide) fun hcell=>?_;refine lI (x:=(c.toNat:Int)) (by simpa using hcell 0 _ rfl) ?_;have hc:Calls PG 123 #[.slice (some ⟨g,o,none⟩) s.n s.c,.int .u8 (c.toNat:Int)] w fun e w'=>e=.returned (.int .i64 (indexByte (Lib.bytesOf (bs.map fun b=>(b.toNat:Int))) ((c.toNat:Int)).toNat.toUInt8))/\w'=w :=
  Tryz.bytes_IndexByte g o s.n s.c (bs.map fun b=>(b.toNat:Int)) (c.toNat:Int) w (by simp;omega) (fun i hi=>by
   have hil:i<bs.length:=by omega
   have:=hs.at_ i bs[i] (by simp [hil]) 0 (.int .u8 (bs[i].toNat:Int)) rfl;simp only [Slc.at_,hsa,getD_some,add_zero] at this;rw [qas,show i*qae.k=i from mul_one i] at this;rw [this,List.getD_eq_getElem?_getD,List.getElem?_map,List.getElem?_eq_getElem hil];rfl)
 have hbytes:Lib.bytesOf (bs.map fun b=>(b.toNat:Int))=bs:=by
  unfold Lib.bytesOf;rw [List.map_map]
  conv=>rhs;rw [<-List.map_id bs]
  exact List.map_congr_left fun b _=>by simp
 rw [hbytes,show ((c.toNat:Int)).toNat.toUInt8=c by simp] at hc;have he:s=⟨some ⟨g,o,none⟩,s.n,s.c⟩:=by cases s;cases hsa;rfl
 rw [he];refine Calls.mono hc ?_;rintro e w' ⟨rfl,rfl⟩;exact ⟨_,rfl,hK⟩
theorem zio {s:Slc} {bs:List UInt8} (c:UInt8) {g o:Nat} (hs:Rd qae w s bs) (hsa:s.a=some ⟨g,o,none⟩) {sep:Slc} (hsep:Rd qae w sep [c]) (hl:bs.length<=1000000) {K:Slc->Slc->Bool->World->Prop}
  (hK:∀p q b w',Below w.heap.size w w'->Rd qae w' p (headB c bs)->Rd qae w' q (tailB c bs)->p.a.isSome=true->K p q b w'):qu4 s sep w K:=by
 refine q5v _ _ ?_;unfold qzx;refine q31 c hs hsa hsep hl ?_;have hsn1:sep.n=1:=hsep.n;rcases cutB c bs with ⟨h1,h2,h3⟩ | ⟨h1,h2,h3⟩
 ·have hix:indexByte bs c=(headB c bs).length:=by
   conv=>lhs;rw [h2]
   exact q9m _ _ _ h3
  have hlen:bs.length=(headB c bs).length+((tailB c bs).length+1):=by
   conv=>lhs;rw [h2]
   rw [length_append,length_cons]
  rw [hix];refine cT (by simp) ?_;refine hs.slK (E:=qae) (k:=1) (l:=0) (m:=(headB c bs).length) rfl (.inl ⟨rfl,rfl⟩) (.inr rfl) (by omega) (by omega) fun hp=>?_;rw [hsn1,i64_in (by omega)];refine hs.slK (E:=qae) (k:=1) (l:=(headB c bs).length+1) (m:=bs.length) rfl (.inr (by simp)) (.inl ⟨rfl,rfl⟩) (by omega) (le_refl _) fun hq=>?_;have e12:∀x y:List UInt8,bs=x++c::y->(bs.take x.length).drop 0=x/\(bs.take bs.length).drop (x.length+1)=y:=by
   intro x y h;rw [take_length,h];exact ⟨by simp,by simp⟩
  obtain ⟨e1,e2⟩:=e12 _ _ h2;rw [e1] at hp;rw [e2] at hq;have hcut:∀l m k,(cut s.a l m k).isSome=true:=fun l m k=>by unfold cut;rw [hsa];split<;>rfl
  exact hK _ _ _ _ (qcg w) hp.drew hq.drew (hcut _ _ _)
 ·rw [q3w bs c h1];refine cF (by decide) ?_;refine hK _ _ _ _ (Below.refl _ w) (by rw [h2];exact hs) (by rw [h3];exact Rd.nil _ _) (by rw [hsa];rfl)
theorem q18 {s:Slc} {bs:List UInt8} (hs:Rd qae w s bs) (hl:bs.length<=1000000) {K:Slc->World->Prop} (hK:∀q w',Rd qae w' q bs->(∀j,q.blk=some j->w.heap.size<=j)->Below w.heap.size w w'->K q w'):qh4 s w K:=by
 cases ha:s.a with
 | some a=>exact zcx hs (by rw [ha];rfl) hl fun q w' ho hB=>hK q w' ho.rd (fun j hj=>(ho.lt j hj).1) hB
 | none =>
  refine qsy _ ?_;unfold qpa;refine cT (by rw [ha];rfl) ?_;have hn:=hs.n;have hbs:bs=[]:=by
   cases bs with
   | nil=>rfl
   | cons b bs=>exact absurd (hs.some_ (by simp)) (by rw [ha];simp)
  subst hbs;exact hK _ _ (Rd.nil _ _) (fun j hj=>by cases hj) (Below.refl _ w)
theorem zbd {s:Slc} {bs:List UInt8} {g o:Nat} (hs:Rd qae w s bs) (hsa:s.a=some ⟨g,o,none⟩) (hl:bs.length<=1000000) {K:Slc->Slc->World->Prop}
  (hK:∀p q w',Below w.heap.size w w'->Rd qae w' p (headB 59 bs)->Rd qae w' q (tailB 59 bs)->(∀j,p.blk=some j->w.heap.size<=j)->(∀j,q.blk=some j->w.heap.size<=j)->K p q w'):qta s w K:=by
 refine q3t _ ?_;unfold qyz;refine quz (bs:=[59]) rfl rfl (by decide) fun sep w1 hsep _ hB1 hs1 _=>?_;refine zio 59 (hs.ext hB1) hsa hsep hl fun p q b w2 hB2 hp hq hpa=>?_;have B2:=qap hB1 hB2;refine q18 hp (by have:=ze0 59 bs;omega) fun p2 w3 hp2 hpf hB3=>?_;have B3:=qap B2 hB3;refine q18 (hq.ext hB3) (by have:=q60 59 bs;omega) fun q2 w4 hq2 hqf hB4=>?_;have z2:=B2.size;have z3:=B3.size;exact hK p2 q2 w4 (qap B3 hB4) (hp2.ext hB4) hq2 (fun j hj=>by have:=hpf j hj;omega) (fun j hj=>by have:=hqf j hj;omega)
end
def zgk (G:Value) (f:Int->Bool):Prop:=∀(w1:World) (id:Int) (K:Bool->World->Prop),K (f id) w1->callR C G [.int .i64 id] [Kind.bool] w1 K
theorem zc9:zgk (.func (.func qje) #[] #[]) fun _=>true:=by
 intro w1 id K hK;have h:qko id w1 K:=by
  refine qqv _ ?_;unfold qjm;exact hK
 refine qja (by kernel_rfl) (Calls.mono h ?_);rintro e w' ⟨r,rfl,hk⟩;exact ⟨r,rfl,hk⟩
def qn8 (T:List Pl) (f:Int->Bool) (S:St) (id:Int):St:=if f id && !(T.any fun p=>p.Image==id) then S.drop id else S
def zey (T:List Pl) (f:Int->Bool) (S:St) (ids:List Int):St:=ids.foldl (qn8 T f) S
def qfv (E:KE) (f:Int->Bool) (ids:List Int):KE:={ E with S:=zey E.T f E.S ids }
theorem zao (E:KE) (f:Int->Bool) (ids:List Int) (x:Int):qfv E f (ids++[x])={ E with S:=qn8 E.T f (qfv E f ids).S x }:=by
 unfold qfv zey;rw [List.foldl_append];rfl
section
variable {w w':World} {base g n:Nat} {F F':KF} {E E':KE}
theorem EngT.drop1 (h:EngM w base g F E n) {id:Int} (hst:StM w' base F.sg F.sr (E.S.drop id)) (hc:Chg (onS F.sg F.sr) w w'):EngT base g w F F { E with S:=E.S.drop id } n w' :=
 EngT.store h hst (qsj h.ok id) (le_refl _) hc fun k hk=>by
  obtain ⟨p,hp,hb⟩:=hk;exact .inl ⟨p,((qyi _ _ _).1 hp).2,hb⟩
theorem zcg (h:EngM w base g F E n) (hn:n<=100000) {ids:Slc} {L:List Int} (hr:Rd E_int w ids L) (hne:∀a,ids.a=some a->¬onS F.sg F.sr a.block) {G:Value} {f:Int->Bool} (hG:zgk G f) {K:World->Prop}
  (hK:∀w',EngT base g w F F (qfv E f L) n w'->K w'):qhr (some ⟨g,0,none⟩) ids G w K:=by
 refine qt1 _ _ _ ?_;unfold qmh;have hl:ids.n=L.length:=hr.n;have hlm:L.length<=9223372036854775807:=by rw [<-hl];exact le_trans hr.nc hr.cm
 refine lpR (fun (st:Int×Unit) w1=>∃k:Nat,st.1=(k:Int)/\k<=L.length/\EngT base g w F F (qfv E f (L.take k)) n w1/\Rd E_int w1 ids L) (fun st=>L.length-st.1.toNat)
  ⟨0,rfl,zero_le _,EngT.refl h,hr⟩ ?_
 rintro ⟨i,u⟩ w1 ⟨k,hi,hk,h1,hr1⟩ I hI;dsimp only at hi ⊢;subst hi;refine cO (fun e=>?_) fun e=>?_
 ·have e:=oTq e;have hlt:k<L.length:=by omega
  obtain ⟨x,hx⟩:∃x,L[k]?=some x:=⟨_,List.getElem?_eq_getElem hlt⟩;have tk:L.take (k+1)=L.take k++[x]:=by rw [take_add_one,hx];rfl
  refine hr1.ix (E:=E_int) (i:=(k:Int)) rfl (by omega) (by omega) fun hc=>?_;have e1:L[(k:Int).toNat]'(by omega)=x:=(List.getElem?_eq_some_iff.1 (by simpa using hx)).2;rw [e1] at hc;refine lI (x:=x) (by simpa using hc 0 _ rfl) ?_;rw [w64i (x:=(k:Int)+1) (by omega)];refine jpO fun J hJ=>?_;have nxt:∀w2,EngT base g w1 F F { (qfv E f (L.take k)) with S:=qn8 E.T f (qfv E f (L.take k)).S x } n w2->Rd E_int w2 ids L->I ((k:Int)+1,()) w2:=by
   intro w2 h2 hr2;refine hI _ _ ⟨k+1,by simp,by omega,?_,hr2⟩ (by dsimp only;omega);rw [tk,zao];exact h1.trans h2
  refine hG w1 x _ ?_;refine cO (fun hf=>?_) fun hf=>?_
  ·simp only [onPtr_some];refine qa8 (x:=some ⟨F.tg,0,none⟩) (h1.m.blk.cells 2 _ rfl) ?_;refine zdr h1.m.tb (le_trans h1.m.tl hn) x fun w2 hB2=>hJ _ _ ?_;have eT:(qfv E f (L.take k)).T=E.T:=rfl;rw [eT];have h2:=EngT.of_ext h1.m hB2;refine cO (fun ha=>?_) fun ha=>?_
   ·simp only [onPtr_some];refine qa8 (x:=some ⟨F.sg,0,none⟩) (h2.m.blk.cells 1 _ rfl) ?_;refine q1f h2.m.st h2.m.ok x fun w3 hst hc3=>?_;refine nxt w3 ?_ (qil (hr1.ext hB2) hc3 fun _ a ha=>hne a ha);have es:qn8 E.T f (qfv E f (L.take k)).S x=(qfv E f (L.take k)).S.drop x:=by
     unfold qn8;dsimp only at ha;rw [hf,ha];rfl
    rw [es];exact h2.trans (EngT.drop1 h2.m hst hc3)
   ·refine nxt w2 ?_ (hr1.ext hB2);have es:qn8 E.T f (qfv E f (L.take k)).S x=(qfv E f (L.take k)).S:=by
     unfold qn8;dsimp only at ha;rw [hf,ha];rfl
    rw [es];exact h2
  ·refine hJ _ _ (cF rfl (nxt w1 ?_ hr1));have es:qn8 E.T f (qfv E f (L.take k)).S x=(qfv E f (L.take k)).S:=by
    unfold qn8;rw [hf];rfl
   rw [es];exact EngT.refl h1.m
 ·have e:=oFq e;have hkl:k=L.length:=by omega
  rw [hkl,take_length] at h1;exact hK w1 h1
theorem zff (h:EngM w base g F E n) {w1:World} {q':Slc} {r:Slc} {T:Type} {El':El T} {xs:List T} (hr:Go.Vc.Own El' w1 w.heap.size r xs) (hne:∀k,r.blk=some k->q'.blk≠some k):∀k,r.blk=some k->¬engS g { F with q:=q' } k:=by
 intro k hk hs;have hlt:=hr.lt k hk;have old:engS g F k->False:=fun h3=>by
  have:=(h.below k h3).2;omega
 rcases hs with e | e | (e | e) | e
 ·exact old (.inl e)
 ·exact old (.inr (.inl e))
 ·exact old (.inr (.inr (.inl (.inl e))))
 ·exact hne k hk e
 ·exact old (.inr (.inr (.inr e)))
end
open Classical in
noncomputable def numK (S:St) (n:Int):Int×Bool:=if h:∃r:Int×Bool,qj0 S.L n r.1 r.2 then h.choose else (0,false)
theorem zbt {m:Nat} {S:St} (hk:StOk m S) {n b:Int} {ok:Bool} (h:qj0 S.L n b ok):numK S n=(b,ok):=by
 have hx:∃r:Int×Bool,qj0 S.L n r.1 r.2:=⟨(b,ok),h⟩;unfold numK;rw [dif_pos hx];obtain ⟨h1,h2⟩:=qj0.one hk hx.choose_spec h;exact Prod.ext h1 h2
noncomputable def qdd (S:St) (k:qaa):Int×Bool:=if k.Id=0 then numK S k.Number else (k.Id,(lookL S.L k.Id).isSome)
noncomputable def showK (E:KE) (k:qaa) (v:qaf):KE×KR :=
 if (qdd E.S k).2=false then (E,toldR k 7 [])
 else if (qe7 E { k with Id:=(qdd E.S k).1 } (qdd E.S k).1 v).2.2 then
  ({ (qe7 E { k with Id:=(qdd E.S k).1 } (qdd E.S k).1 v).1 with S:=(qe7 E { k with Id:=(qdd E.S k).1 } (qdd E.S k).1 v).1.S.use (qdd E.S k).1 },(qe7 E { k with Id:=(qdd E.S k).1 } (qdd E.S k).1 v).2.1)
 else ((qe7 E { k with Id:=(qdd E.S k).1 } (qdd E.S k).1 v).1,(qe7 E { k with Id:=(qdd E.S k).1 } (qdd E.S k).1 v).2.1)
section
variable {w w':World} {base g n:Nat} {F F':KF} {E E':KE}
theorem zhe {m:Nat} {S:St} (hk:StOk m S) (hm:m<=1000) {n b:Int} {ok:Bool} (h:qj0 S.L n b ok):-9223372036854775808<=b/\b<=9223372036854775807:=by
 rcases h with ⟨_,rfl,_⟩ | ⟨_,x,hx,_⟩
 ·omega
 ·have:=hk.keys _ hx;dsimp only at this;omega
theorem zeb (h:EngM w base g F E n) (hn:n<=1000) (k:qaa) (hwk:Wide (toL k)) {K:Int->Bool->World->Prop}
  (hK:∀w',Below w.heap.size w w'->(-9223372036854775808<=(qdd E.S k).1/\(qdd E.S k).1<=9223372036854775807)->K (qdd E.S k).1 (qdd E.S k).2 w'):qhw (some ⟨g,0,none⟩) k w K:=by
 refine qtv _ _ ?_;unfold qmu;simp only [onPtr_some];refine nwb fun w1 hk1 hB1 hs1=>?_;have h1:=(h.ext hB1).drew;have hk1d:=hk1.drew;have B1:=hB1.drew;unfold qdd at hK;refine lI (x:=k.Id) (hk1.cells 8 _ rfl) (cO (fun e=>?_) fun e=>?_)
 ·rw [if_pos (eq_of_beq e)] at hK;refine qa8 (x:=some ⟨F.sg,0,none⟩) (h1.blk.cells 1 _ rfl) (lI (x:=k.Number) (hk1d.cells 9 _ rfl) ?_);refine qu1 h1.st h.ok k.Number fun b ok w2 hN hB2=>?_;rw [zbt h.ok hN] at hK;exact hK w2 (qap B1 hB2) (zhe h.ok hn hN)
 ·rw [if_neg (beq_eq_false_iff_ne.1 e)] at hK;have hid:-9223372036854775808<=k.Id/\k.Id<=9223372036854775807:=hwk 8;refine qa8 (x:=some ⟨F.sg,0,none⟩) (h1.blk.cells 1 _ rfl) (lI (x:=k.Id) (hk1d.cells 8 _ rfl) ⟨?_,?_⟩)
  ·refine qxb h1.st k.Id fun w2 hB2=>?_;refine nwb fun w3 hx3 hB3 hs3=>?_;have hk3:=(hk1d.ext hB2).ext hB3;have h3:=(h1.ext hB2).ext hB3;refine ⟨hk3.cells 8 _ rfl,h3.blk.cells 1 _ rfl,?_⟩;refine qaj hx3 (le_refl _) fun w4 hx4 hg4 hs4=>?_;have hc4:Chg (fun i=>i=w2.heap.size) w3 w4:=Chg.of_grown hg4 fun k hk=>by cases hk;rfl
   have z2:=hB2.size;have lk:=hk1d.lt;have z1:w.heap.size<=w1.drew.heap.size:=B1.size;refine lI (x:=k.Id) ((hk3.chg hc4 fun e=>by omega).cells 8 _ rfl) ?_;exact hK w4 (b1o (qcn B1 hB2 hB3) hc4 (by omega)) hid
  ·refine nwb fun w2 hx2 hB2 hs2=>?_;have hk2:=hk1d.ext hB2;have h2:=h1.ext hB2;refine ⟨hk2.cells 8 _ rfl,h2.blk.cells 1 _ rfl,?_⟩;refine qxb h2.st k.Id fun w3 hB3=>?_;refine qaj (hx2.ext hB3) (le_refl _) fun w4 hx4 hg4 hs4=>?_;have hc4:Chg (fun i=>i=w1.drew.heap.size) w3 w4:=Chg.of_grown hg4 fun k hk=>by cases hk;rfl
   have lk:=hk1d.lt;have z1:w.heap.size<=w1.drew.heap.size:=B1.size;refine lI (x:=k.Id) (((hk2.ext hB3).chg hc4 fun e=>by omega).cells 8 _ rfl) ?_;exact hK w4 (b1o (qcn B1 hB2 hB3) hc4 (by omega)) hid
theorem zj0 {m:Nat} {S:St} (hk:StOk m S) (id:Int):∀k,imgS (S.use id) k->imgS S k:=by
 rintro k ⟨p,hp,hb⟩;unfold St.use at hp;split at hp
 ·rename_i x hx;obtain ⟨a,b⟩:=p;rcases (qh2 hk.srt _ _ a b).1 hp with ⟨rfl,rfl⟩ | ⟨_,hp'⟩
  ·exact ⟨(a,x),(qc1 hk.srt).1 hx,hb⟩
  ·exact ⟨(a,b),hp',hb⟩
 ·exact ⟨p,hp,hb⟩
theorem zg0 (h:EngM w base g F E n) (hn:n<=900) (hT:Tab w) (h4:4<=base) {k:qaa} (hwk:Wide (toL k)) (v:qaf) {K:qad->World->Prop}
  (hK:∀r F' w',ResM w' r (showK E k v).2->EngT base g w F F' (showK E k v).1 (n+2) w'->(∀j,r.Reply.blk=some j->w.heap.size<=j/\¬engS g F' j)->K r w'):qiu (some ⟨g,0,none⟩) k v w K:=by
 refine qvi _ _ _ ?_;unfold qnd;simp only [onPtr_some];refine nwb fun w1 hk1 hB1 hs1=>nwb fun w2 hv2 hB2 hs2=>nwb fun w3 ht3 hB3 hs3=>?_;have B3:=qcn hB1 hB2 hB3;have hk3:=(hk1.ext hB2).ext hB3;have hv3:=hv2.ext hB3;have h3:=h.ext B3;have nE:∀{b:Nat},w.heap.size<=b->¬engS g F b:=fun hb hk=>by have:=(h.below _ hk).2;omega
 have nLS:∀{b:Nat},w.heap.size<=b->¬F.LS b:=fun hb hk=>nE hb (.inr (.inr (.inr hk)));have tys:tyFar qai:=by decide
 have z1:=hB1.size;have z2:=hB2.size;have z3:=hB3.size;have lt3:=ht3.lt;refine qal (r:=qaa.rep) (x:=k) hk3.cells ?_;refine zeb h3 (by omega) k hwk fun w4 hB4 hid=>?_;unfold showK at hK;generalize (qdd E.S k).1=id at *;generalize (qdd E.S k).2=is_ at *;have B4:=qap B3 hB4;have hk4:=hk3.ext hB4;have hv4:=hv3.ext hB4;have ht4:=ht3.ext hB4;have z4:=hB4.size;cases is_
 ·simp only [if_true] at hK;refine cT rfl (qal (r:=qaa.rep) (x:=k) hk4.cells ?_);refine qfk (hT.ext B4) hwk 7 [] (by simp) fun q w5 hq hB5 hqb=>?_;have ht5:=ht4.ext hB5;refine qbm (r:=qad.rep) (x:=⟨q,0,0,false⟩) ht5 rfl rfl fun w6 hc6 hs6=>?_;exact hK _ F w6 ⟨hq.chg hc6 fun a ha e=>by have:=hqb a.block (slk.2 ⟨a,ha,rfl⟩);omega,rfl,rfl,rfl⟩ (((EngT.of_ext h (qap B4 hB5)).up (by omega)).other ht5 tys (nLS (by omega)) (by omega) hc6) (fun j hj=>⟨by have:=hqb j hj;omega,fun hs=>by have:=(h.below _ hs).2;have:=hqb j hj;omega⟩)
 ·rw [if_neg (by decide)] at hK;refine cF rfl ?_;show stK ⟨w.heap.size,8,none⟩ _ _ _;refine qaj hk4 (by show (8+1:Nat)<=22;omega) fun w5 hk5 hg5 hs5=>?_;have hc5:Chg (fun i=>i=w.heap.size) w4 w5:=Chg.of_grown hg5 fun k hk=>by cases hk;rfl
  have hk5:Blk w5 w.heap.size qay (qaa.rep.cells { k with Id:=id }):=hk5;have B5:=b1o B4 hc5 (le_refl _);have hv5:=hv4.chg hc5 fun e=>by omega
  have ht5:=ht4.chg hc5 fun e=>by omega
  have h5:=EngT.of_ext h B5;have lv5:=hv5.lt;have lt5:=ht5.lt;refine qal (r:=qaa.rep) (x:={ k with Id:=id }) hk5.cells (qal (r:=qaf.rep) (x:=v) hv5.cells ?_);refine q4j h5.m (by omega) (hT.ext B5) h4 (zby hwk hid) id v fun r F6 w6 hr6 h6 hrb=>?_;generalize qe7 E { k with Id:=id } id v=R at *;obtain ⟨E6,R6,ok⟩:=R;dsimp only at hr6 h6 hK ⊢;have hE6:=h5.trans h6;have ht6:=ht5.chg h6.chg (nE (by omega));refine qcu (vs:=qad.rep.cells r) rfl fun w8 ho8 hB8 hs8=>?_;have h8:=hE6.ext hB8;have ht8:=ht6.ext hB8;have hr8:=hr6.ext hB8;have z5:=B5.size;have z8:=hB8.size;have z6:=h6.chg.size;have nF6:∀{b:Nat},w.heap.size<=b->b<w5.heap.size->¬F6.LS b:=fun h1 h2 hs=>by
   rcases h6.ls _ hs with h7 | h7
   ·exact nLS h1 h7
   ·omega
  cases ok
  ·rw [if_neg (by decide)] at hK;refine cF rfl (qal (r:=qad.rep) (x:=r) ho8.cells ?_);refine qbm (r:=qad.rep) (x:=r) ht8 rfl rfl fun w9 hc9 hs9=>?_;exact hK r F6 w9 ⟨hr8.1.chg hc9 fun a ha e=>by have:=(hrb a.block (slk.2 ⟨a,ha,rfl⟩)).1;omega,hr8.2⟩ ((h8.up (by omega)).other ht8 tys (nF6 (by omega) (by omega)) (by omega) hc9) (fun j hj=>⟨by have:=(hrb j hj).1;omega,(hrb j hj).2⟩)
  ·rw [if_pos rfl] at hK;refine cT rfl (qa8 (x:=some ⟨F6.sg,0,none⟩) (h8.m.blk.cells 1 _ rfl) ?_);refine zit h8.m.st h8.m.ok (by omega) id fun w9 hst hc9=>?_;have h9:=h8.trans (EngT.store h8.m hst (zkf h8.m.ok id) (by omega) hc9 fun j hj=>.inl (zj0 h8.m.ok id j hj));have nS:∀{b:Nat} {t:TypeId} {vs:List Value},Blk w8 b t vs->t≠qbu->¬onS F6.sg F6.sr b:=fun hb ht hs=>by
    rcases hs with e | e
    ·exact hb.ne_t h8.m.st.blk ht e
    ·exact h8.m.st.map.ne_blk hb e.symm
   have ho9:=ho8.chg hc9 (nS ho8 (by decide));have ht9:=ht8.chg hc9 (nS ht8 (by decide));have z9:=hc9.size;refine qal (r:=qad.rep) (x:=r) ho9.cells ?_;refine qbm (r:=qad.rep) (x:=r) ht9 rfl rfl fun w10 hc10 hs10=>?_;refine hK r F6 w10 ⟨?_,hr8.2⟩ (h9.other ht9 tys (nF6 (by omega) (by omega)) (by omega) hc10) (fun j hj=>⟨by have:=(hrb j hj).1;omega,(hrb j hj).2⟩);have hr9:Rd qae w9 r.Reply R6.reply:=hr8.1.chg hc9 fun a ha hs=>?_
   ·exact hr9.chg hc10 fun a ha e=>by have:=(hrb a.block (slk.2 ⟨a,ha,rfl⟩)).1;omega
   ·exact (hrb a.block (slk.2 ⟨a,ha,rfl⟩)).2 (.inr (.inl hs))
end
def capK (k:qaa):Bool:=decide (k.What>=65) && decide (k.What<=90)
def qjo (S:St) (k:qaa):List Int:=(S.L.map (·.1)).filter fun id=>decide (id>=k.X) && decide (id<=k.Y)
noncomputable def idsK (E:KE) (k:qaa):Option (List Int×Int) :=
 if k.What=110\/k.What=78 then (if (numK E.S k.Number).2 then some ([(numK E.S k.Number).1],(numK E.S k.Number).1) else none)
 else if k.What=105\/k.What=73 then some ([k.Id],k.Id)
 else if k.What=114\/k.What=82 then some (qjo E.S k,k.Id)
 else some ([],k.Id)
def askK (k:qaa) (im:Int):PAsk:=⟨k.What,im,k.Place,k.X,k.Y,k.Z⟩
def goneK (E:KE) (k:qaa) (v:qaf) (ids:List Int) (im:Int):KE :=
 if capK k then qfv { E with T:=E.T.filter fun p=>!qjv (askK k im) p v.View } (fun _=>true) (ids++(E.T.filter fun p=>qjv (askK k im) p v.View).map (·.Image))
 else { E with T:=E.T.filter fun p=>!qjv (askK k im) p v.View }
noncomputable def q5b (E:KE) (k:qaa) (v:qaf):KE:=match idsK E k with
 | none=>E
 | some (ids,im)=>goneK E k v ids im
section
variable {w w':World} {base g n:Nat} {F F':KF} {E E':KE}
theorem q8m (h:EngM w base g F E n) (hn:n<=1000) {b:Nat} {k:qaa} (hk:Blk w b qay (qaa.rep.cells k)) {J2:Slc×Unit->World->Prop}
  (hJ:∀s w',Below w.heap.size w w'->Go.Vc.Own E_int w' w.heap.size s (qjo E.S k)->J2 (s,()) w') :
  onPtr (some ⟨g,0,none⟩) fun t67 =>
       ldP (t67.add 1) w fun t69 =>
       qe9 t69 w fun t70 w19 =>
       loopP (σ:=Slc×Int×Unit) (fun I7 s_6 w20 =>
        cond (decide (s_6.2.1<((t70.n:Nat):Int)))
         (
          ixK t70 s_6.2.1 1 fun t74 =>
          ldI .i64 t74 w20 fun t75 =>
          joinP (σ:=Bool×Unit) (fun s_7 w21 =>
           cond s_7.1
            (
            nw qa9 [(.int .i64 t75)] w21 fun t88 w22 =>
            apK PG #[qbg,qbg] qbg s_6.1 (⟨(some t88),1,1⟩:Slc) w22 fun t89 w23 =>
            I7 (t89,(i64.wrap (s_6.2.1+(1:Int))),()) w23)
            (I7 (s_6.1,(i64.wrap (s_6.2.1+(1:Int))),()) w21)) fun J8 =>
          ldI .i64 ((⟨b,0,none⟩:Addr).add 12) w20 fun t78 =>
          cond (decide (t75>=t78))
           (
           ldI .i64 ((⟨b,0,none⟩:Addr).add 13) w20 fun t83 =>
           J8 ((decide (t75<=t83)),()) w20)
           (J8 (false,()) w20))
         (J2 (s_6.1,()) w20)) (⟨none,0,0⟩,0,()) w19:=by
 simp only [onPtr_some];refine qa8 (x:=some ⟨F.sg,0,none⟩) (h.blk.cells 1 _ rfl) ?_;refine zhb h.st h.ok hn fun q w1 hq hB1=>?_;obtain ⟨L,hL⟩:∃L,E.S.L.map (·.1)=L:=⟨_,rfl⟩;have hr:qjo E.S k=L.filter fun id=>decide (id>=k.X) && decide (id<=k.Y):=by unfold qjo;rw [hL]
 rw [hL] at hq;rw [hr] at hJ;have hl:q.n=L.length:=hq.rd.n;have hLn:L.length<=n:=by rw [<-hL,length_map];exact h.ok.len
 have z1:=hB1.size;refine lpR (fun (st:Slc×Int×Unit) w2=>∃i:Nat,st.2.1=(i:Int)/\i<=L.length/\Below w.heap.size w w2/\w1.heap.size<=w2.heap.size/\Go.Vc.Own E_int w2 w.heap.size q L/\(∀j,q.blk=some j->j<w1.heap.size)/\Go.Vc.Own E_int w2 w1.heap.size st.1 ((L.take i).filter fun id=>decide (id>=k.X) && decide (id<=k.Y))) (fun st=>L.length-st.2.1.toNat)
  ⟨0,rfl,zero_le _,hB1,le_refl _,hq,fun j hj=>(hq.lt j hj).2,Go.Vc.Own.nil _ _ _⟩ ?_
 rintro ⟨s,i,u⟩ w2 ⟨m,hi,hm,B2,z2,hq2,hqlt,hs2⟩ I hI;dsimp only at hi hs2 ⊢;subst hi;refine cO (fun e=>?_) fun e=>?_
 ·have e:=oTq e;have hlt:m<L.length:=by omega
  obtain ⟨x,hx⟩:∃x,L[m]?=some x:=⟨_,List.getElem?_eq_getElem hlt⟩;have tk:L.take (m+1)=L.take m++[x]:=by rw [take_add_one,hx];rfl
  have hk2:=hk.below B2 hk.lt;refine hq2.rd.ix (E:=E_int) (i:=(m:Int)) rfl (by omega) (by omega) fun hc=>?_;have e1:L[(m:Int).toNat]'(by omega)=x:=(List.getElem?_eq_some_iff.1 (by simpa using hx)).2;rw [e1] at hc;refine lI (x:=x) (by simpa using hc 0 _ rfl) ?_;rw [w64i (x:=(m:Int)+1) (by omega)];have hfl:((L.take m).filter fun id=>decide (id>=k.X) && decide (id<=k.Y)).length<=1000:=by
   have:=length_filter_le (fun id=>decide (id>=k.X) && decide (id<=k.Y)) (L.take m);rw [length_take] at this;omega
  refine jpO fun J hJ8=>?_;have j8:J ((decide (x>=k.X) && decide (x<=k.Y)),()) w2:=by
   refine hJ8 _ _ ?_;refine cO (fun hf=>?_) fun hf=>?_
   ·dsimp only at hf;refine qht (E:=E_int) qhd hs2 (y:=x) rfl z2 (by rw [qjn];omega) (by unfold maxLen;omega) fun r w3 ho hc3 hr3=>?_;have nlt:∀j,s.blk=some j->w1.heap.size<=j:=fun j hj=>(hs2.lt j hj).1;have z3:=hc3.size;refine hI _ _ ⟨m+1,by simp,by omega,B2.trans (hc3.below (by omega) fun j hj e=>by have:=nlt j e;omega),by omega,hq2.chg hc3 (fun j hj e=>by have:=nlt j e;have:=hqlt j hj;omega),hqlt,?_⟩ (by dsimp only;omega);have e9:List.filter (fun id=>decide (id>=k.X) && decide (id<=k.Y)) [x]=[x]:=by simp only [List.filter,hf]
    rw [tk,List.filter_append,e9];exact ho
   ·dsimp only at hf;refine hI _ _ ⟨m+1,by simp,by omega,B2,z2,hq2,hqlt,?_⟩ (by dsimp only;omega);have e9:List.filter (fun id=>decide (id>=k.X) && decide (id<=k.Y)) [x]=[]:=by simp only [List.filter,hf]
    rw [tk,List.filter_append,e9,List.append_nil];exact hs2
  refine lI (x:=k.X) (hk2.cells 12 _ rfl) (cO (fun e1=>?_) fun e1=>?_)
  ·rw [e1,Bool.true_and] at j8;exact lI (x:=k.Y) (hk2.cells 13 _ rfl) j8
  ·rw [e1,Bool.false_and] at j8;exact j8
 ·have e:=oFq e;have hml:m=L.length:=by omega
  subst hml;rw [take_length] at hs2;exact hJ s w2 B2 (hs2.base z1)
theorem zan (h:EngM w base g F E n) (hn:n<=900) (k:qaa) (v:qaf) {K:World->Prop} (hK:∀F' w',EngT base g w F F' (q5b E k v) n w'->K w'):qgz (some ⟨g,0,none⟩) k v w K:=by
 refine qso _ _ _ ?_;unfold qli;refine nwb fun w1 hk1 hB1 hs1=>nwb fun w2 hv2 hB2 hs2=>?_;have hk2:=hk1.ext hB2;have B2:=qap hB1 hB2;have z1:=hB1.size;have z2:=hB2.size;have gl:=h.blk.lt;have nE:∀{b:Nat},w.heap.size<=b->¬engS g F b:=fun hb hk=>by have:=(h.below _ hk).2;omega
 have nLS:∀{b:Nat},w.heap.size<=b->¬F.LS b:=fun hb hk=>nE hb (.inr (.inr (.inr hk)));refine lI (x:=k.What) (hk2.cells 3 _ rfl) (lI (x:=k.Id) (hk2.cells 8 _ rfl) (lI (x:=k.Place) (hk2.cells 10 _ rfl) (lI (x:=k.X) (hk2.cells 12 _ rfl) (lI (x:=k.Y) (hk2.cells 13 _ rfl) (lI (x:=k.Z) (hk2.cells 20 _ rfl) ?_)))));refine qcu (vs:=qb8.rep.cells (askK k k.Id)) rfl fun w4 ha4 hB4 hs4=>?_;have hk4:=hk2.ext hB4;have hv4:=hv2.ext hB4;have B4:=qap B2 hB4;have z4:=hB4.size;unfold q5b at hK;refine jpO fun J1 hJ1=>?_;have j1:J1 (capK k,()) w4:=by
  refine hJ1 _ _ ?_;refine jpO fun J2 hJ2=>?_;have j2:∀(wx:World) (ids:Slc) (L:List Int) (im:Int) (b:Nat),EngT base g w F F E n wx->Blk wx w1.heap.size qbf (qaf.rep.cells v)->Blk wx w2.heap.size qg1 (qb8.rep.cells (askK k im)) ->
    w.heap.size<=b->b<=wx.heap.size->Go.Vc.Own E_int wx b ids L->L.length<=2000->idsK E k=some (L,im)->J2 (ids,()) wx:=by
   intro wx ids L im b hx hvx hax hb hbx ho hLl hid;have hK:∀F' w',EngT base g w F F' (goneK E k v L im) n w'->K w':=by
    rw [hid] at hK;exact hK
   refine hJ2 _ _ ?_;simp only [onPtr_some];have hxd:=hx.ext (qcg wx);refine qa8 (x:=some ⟨F.tg,0,none⟩) (hxd.m.blk.cells 2 _ rfl) ?_;refine qal (r:=qb8.rep) (x:=askK k im) hax.drew.cells ?_;refine qal (r:=qbw.rep) (x:=v.View) (hvx.drew.sub 0 _ rfl) ?_;refine q7p hxd.m.tb (by have:=h.tl;omega) (le_trans hxd.m.hg (Nat.le_of_lt hxd.m.blk.lt)) _ _ fun r q' w7 hr ht hq hne hc7=>?_;have h7:=EngT.tab hxd.m ht hq hc7 (le_trans (length_filter_le _ _) h.tl);have e0:wx.drew.heap.size=wx.heap.size:=rfl;have hfr:=zff hxd.m hr hne;have hE7:=hxd.trans h7;have hDl:=le_trans (length_filter_le (fun p=>qjv (askK k im) p v.View) E.T) h.tl;unfold goneK at hK;generalize hD:E.T.filter (fun p=>qjv (askK k im) p v.View)=D at *;generalize hE1:({ E with T:=E.T.filter fun p=>!qjv (askK k im) p v.View }:KE)=E1 at *;have ho7:Go.Vc.Own E_int w7 b ids L:=ho.drew.chg hc7 fun j hj e=>by
    have:=(ho.lt j hj).1;have:=h.tb.blk.lt;omega
   have z7:=hc7.size;have rl:r.n=D.length:=hr.rd.n;refine lpR (fun (st:Slc×Int×Unit) w8=>∃m:Nat,st.2.1=(m:Int)/\m<=D.length/\EngT base g w F { F with q:=q' } E1 n w8/\Go.Vc.Own E_int w8 b st.1 (L++(D.take m).map (·.Image))/\Go.Vc.Own qbd w8 wx.drew.heap.size r D/\w7.heap.size<=w8.heap.size) (fun st=>D.length-st.2.1.toNat)
    ⟨0,rfl,zero_le _,hE7,by simpa using ho7,hr,le_refl _⟩ ?_
   rintro ⟨s,i,u⟩ w8 ⟨m,hi,hm,h8,ho8,hr8,z8⟩ I hI;dsimp only at hi ho8 ⊢;subst hi;refine cO (fun e=>?_) fun e=>?_
   ·have e:=oTq e;have hlt:m<D.length:=by omega
    obtain ⟨p,hp⟩:∃p,D[m]?=some p:=⟨_,List.getElem?_eq_getElem hlt⟩;have tk:(D.take (m+1)).map (·.Image)=(D.take m).map (·.Image)++[p.Image]:=by rw [take_add_one,hp,List.map_append];rfl
    refine hr8.rd.ix (E:=qbd) (i:=(m:Int)) rfl (by omega) (by omega) fun hx=>?_;have hx:qaw w8 (r.at_ qbd.k (m:Int).toNat) (qah.rep.cells p):=by
     simp only [Int.toNat_natCast] at hx ⊢;have e1:D[m]'hlt=p:=(List.getElem?_eq_some_iff.1 hp).2;rw [e1] at hx;exact hx
    refine qal (r:=qah.rep) (x:=p) hx ?_;refine qcu (vs:=qah.rep.cells p) rfl fun w9 hb9 hB9 hs9=>?_;refine lI (x:=p.Image) (hb9.cells 0 _ rfl) ?_;have ho9:=ho8.ext hB9;have hml:((D.take m).map (·.Image)).length<=1000:=by rw [length_map,length_take];omega
    refine qht (E:=E_int) qhd ho9 (y:=p.Image) rfl (by omega) (by rw [qjn,length_append];omega) (by unfold maxLen;rw [length_append];omega) fun t w10 ho10 hc10 ht10=>?_;rw [w64i (x:=(m:Int)+1) (by omega)];have z10:=hc10.size;refine hI _ _ ⟨m+1,by simp,by omega,?_,?_,?_,by omega⟩ (by dsimp only;omega)
    ·exact (h8.ext hB9).far hc10 (fun j hj=>⟨by obtain ⟨cs,hcs⟩:=ho9.blk_t hj;exact ⟨_,cs,hcs,by decide⟩,nLS (by have:=(ho9.lt j hj).1;omega)⟩) fun j hj=>by have:=(ho9.lt j hj).1;omega
    ·rw [tk,<-List.append_assoc];exact ho10
    ·exact (hr8.ext hB9).chg hc10 fun j hj e=>by
      obtain ⟨cs,hcs⟩:=ho9.blk_t e;exact qo9 (hr8.ext hB9) hcs (by decide) j hj rfl
   ·have e:=oFq e;have hml:m=D.length:=by omega
    subst hml;rw [take_length] at ho8;refine cO (fun hc=>?_) fun hc=>?_
    ·rw [hc] at hK;simp only [if_true] at hK;refine zcg h8.m (by omega) ho8.rd (fun a ha hs=>?_) zc9 fun w9 h9=>hK _ w9 (h8.trans h9);have:=(ho8.lt a.block (slk.2 ⟨a,ha,rfl⟩)).1;exact nE (by omega) (.inr (.inl hs))
    ·rw [hc] at hK;simp only [Bool.false_eq_true,if_false] at hK;exact hK _ w8 h8
  have h4:=EngT.of_ext h B4;have ha4l:=ha4.lt;refine lI (x:=k.What) (hk4.cells 3 _ rfl) ?_;refine jpO fun J4 hJ4=>?_;have j4:∀(wx:World) (im:Int),EngT base g w F F E n wx->Blk wx w1.heap.size qbf (qaf.rep.cells v)->Blk wx w2.heap.size qg1 (qb8.rep.cells (askK k im))->idsK E k=some ([im],im)->J4 () wx:=by
   intro wx im hx hvx hax hid;refine hJ4 _ _ (lI (x:=im) (hax.cells 1 _ rfl) ?_);have zx:=hx.chg.size;refine qht (E:=E_int) qhd (Go.Vc.Own.nil E_int wx wx.heap.size) (y:=im) rfl (le_refl _) (by rw [qjn];simp) (by unfold maxLen;simp) fun t w5 ho5 hc5 ht5=>?_;have hBf:Below wx.heap.size wx w5:=hc5.below (le_refl _) fun j hj e=>by cases e
   exact j2 w5 t [im] im wx.heap.size (hx.ext hBf) (hvx.ext hBf) (hax.ext hBf) zx hBf.size ho5 (by simp) hid
  have hnil:idsK E k=some ([],k.Id)->J2 ((⟨none,0,0⟩:Slc),()) w4:=fun hid=>j2 w4 _ [] k.Id w.heap.size h4 hv4 ha4 (le_refl _) B4.size (Go.Vc.Own.nil _ _ _) (by simp) hid;refine jpO fun J5 hJ5=>?_;have j5:k.What≠110->k.What≠78->J5 () w4:=by
   intro n1 n2;refine hJ5 _ _ (jpO fun J6 hJ6=>?_);have j6:k.What≠105->k.What≠73->J6 () w4:=by
    intro n3 n4;refine hJ6 _ _ ?_;have lp:(k.What=114\/k.What=82)->∀s w',Below w4.heap.size w4 w'->Go.Vc.Own E_int w' w4.heap.size s (qjo E.S k)->J2 (s,()) w':=by
     intro hw s w5 hB5 ho5;have hid:idsK E k=some (qjo E.S k,k.Id):=by
      unfold idsK;rw [if_neg (by omega),if_neg (by omega),if_pos hw]
     have hrl:(qjo E.S k).length<=2000:=by
      have:=length_filter_le (fun id=>decide (id>=k.X) && decide (id<=k.Y)) (E.S.L.map (·.1));rw [length_map] at this;have:=h.ok.len;unfold qjo;omega
     exact j2 w5 s _ k.Id w4.heap.size (h4.ext hB5) (hv4.ext hB5) (ha4.ext hB5) B4.size hB5.size ho5 hrl hid
    refine cO (fun e=>?_) fun e=>?_
    ·refine cT e ?_;exact q8m h4.m (by omega) hk4 (lp (.inl (eq_of_beq e)))
    ·have n5:=beq_eq_false_iff_ne.1 e;refine cO (fun e=>?_) fun e=>?_
     ·exact q8m h4.m (by omega) hk4 (lp (.inr (eq_of_beq e)))
     ·have n6:=beq_eq_false_iff_ne.1 e;refine hnil ?_;unfold idsK;rw [if_neg (by omega),if_neg (by omega),if_neg (by omega)]
   have k4:(k.What=105\/k.What=73)->J4 () w4:=fun hw=>j4 w4 k.Id h4 hv4 ha4 (by
    unfold idsK;rw [if_neg (by omega),if_pos hw])
   refine cO (fun e=>?_) fun e=>?_
   ·exact cT e (k4 (.inl (eq_of_beq e)))
   ·have n3:=beq_eq_false_iff_ne.1 e;refine cO (fun e=>?_) fun e=>?_
    ·exact k4 (.inr (eq_of_beq e))
    ·exact j6 n3 (beq_eq_false_iff_ne.1 e)
  have num:(k.What=110\/k.What=78)->∀(b:Int) (ok:Bool) (w5:World),qj0 E.S.L k.Number b ok->Below w4.drew.heap.size w4.drew w5->cond (!ok) (K w5) (stK ((⟨w2.heap.size,0,none⟩:Addr).add 1) [(.int .i64 b)] w5 fun w30=>J4 () w30):=by
   intro hw b ok w5 hN hB5;have hne:=zbt h.ok hN;have B45:Below w4.heap.size w4 w5:=qap (qcg w4) hB5;have h5:=h4.ext B45;cases ok
   ·have hid:idsK E k=none:=by
     unfold idsK;rw [if_pos hw,hne];rfl
    rw [hid] at hK;exact cT rfl (hK F w5 h5)
   ·have hid:idsK E k=some ([b],b):=by
     unfold idsK;rw [if_pos hw,hne];rfl
    refine cF rfl ?_;have ha5:=ha4.ext B45;have hv5:=hv4.ext B45;show stK ⟨w2.heap.size,1,none⟩ _ _ _;refine qaj ha5 (by show (1+1:Nat)<=6;omega) fun w6 ha6 hg6 hs6=>?_;have hc6:Chg (fun i=>i=w2.heap.size) w5 w6:=Chg.of_grown hg6 fun k hk=>by cases hk;rfl
    have lv5:=hv4.lt;refine j4 w6 b (h5.other ha5 (by decide) (nLS (by omega)) (by omega) hc6) (hv5.chg hc6 fun e=>by have:=hv2.lt;omega) ha6 hid
  simp only [onPtr_some];refine cO (fun e=>?_) fun e=>?_
  ·refine cT e ?_;refine qa8 (x:=some ⟨F.sg,0,none⟩) (h4.m.drew.blk.cells 1 _ rfl) (lI (x:=k.Number) (hk4.drew.cells 9 _ rfl) ?_);exact qu1 h4.m.drew.st h.ok k.Number fun b ok w5 hN hB5=>num (.inl (eq_of_beq e)) b ok w5 hN hB5
  ·have n1:=beq_eq_false_iff_ne.1 e;refine cO (fun e=>?_) fun e=>?_
   ·refine qa8 (x:=some ⟨F.sg,0,none⟩) (h4.m.drew.blk.cells 1 _ rfl) (lI (x:=k.Number) (hk4.drew.cells 9 _ rfl) ?_);exact qu1 h4.m.drew.st h.ok k.Number fun b ok w5 hN hB5=>num (.inr (eq_of_beq e)) b ok w5 hN hB5
   ·exact j5 n1 (beq_eq_false_iff_ne.1 e)
 unfold capK at j1;refine lI (x:=k.What) (hk4.cells 3 _ rfl) (cO (fun e1=>?_) fun e1=>?_)
 ·rw [e1,Bool.true_and] at j1;exact lI (x:=k.What) (hk4.cells 3 _ rfl) j1
 ·rw [e1,Bool.false_and] at j1;exact j1
end
def Sml (L:List Int):Prop:=∀x∈L,-4294967296<=x/\x<=4294967295
theorem Sml.set {L:List Int} (h:Sml L) (j:Nat) {x:Int} (hx:-4294967296<=x/\x<=4294967295):Sml (L.set j x):=fun y hy=>by
 rcases List.mem_or_eq_of_mem_set hy with h1 | rfl
 ·exact h y h1
 ·exact hx
theorem zir {v:List UInt8} {n:Nat} (h:readN v=some n):n<=4294967295:=by
 unfold readN at h;split at h
 ·cases h
 ·obtain ⟨m,_,h2⟩:=Option.bind_eq_some_iff.1 h;split at h2
  ·cases h2;assumption
  ·cases h2
theorem zgt {v:List UInt8} {m:Int} (h:qqa v=some m):-4294967296<=m/\m<=4294967295:=by
 have key:∀x:Int,near x=true->-4294967296<=x/\x<=4294967295:=fun x hx=>by
  unfold near at hx;simp only [Bool.and_eq_true,decide_eq_true_eq] at hx;omega
 unfold qqa at h;split at h
 all_goals
  obtain ⟨n,_,h2⟩:=Option.bind_eq_some_iff.1 h;split at h2
  ·rename_i hnear;injection h2 with h2
   rw [<-h2];exact key _ hnear
  ·cases h2
theorem zhh {k k':List Int} {s:List UInt8} (hk:Sml k/\k.length=22) (h:oneL k s=some k'):Sml k'/\k'.length=22:=by
 have st:∀(j:Nat) {x:Int},(-4294967296<=x/\x<=4294967295)->Sml (k.set j x)/\(k.set j x).length=22:=fun j x hx=>⟨hk.1.set j hx,by rw [List.length_set];exact hk.2⟩;unfold oneL at h;split at h
 ·split at h
  ·cases h
  ·split at h
   ·obtain ⟨m,hm,rfl⟩:=map_eq_some_iff.1 h;exact st _ (zgt hm)
   ·split at h
    ·rename_i j _;unfold sgnL at h;split at h
     ·rename_i b;split at h
      ·cases h;have:=b.toNat_lt;exact st _ (by omega)
      ·cases h
     ·cases h
    ·split at h
     ·obtain ⟨m,hm,rfl⟩:=map_eq_some_iff.1 h;obtain ⟨a,ha,hb⟩:=Option.bind_eq_some_iff.1 hm;have:=zir ha;injection hb with hb
      exact st _ (by omega)
     ·cases h;exact hk
 ·cases h
theorem q2y:∀(l:List (List UInt8)) (k k':List Int),(Sml k/\k.length=22)->l.foldlM oneL k=some k'->Sml k'/\k'.length=22
 | [],k,k',hk,h=>by
  cases h;exact hk
 | s::l,k,k',hk,h=>by
  rw [List.foldlM_cons] at h;obtain ⟨k1,h1,h2⟩:=Option.bind_eq_some_iff.1 h;exact q2y l k1 k' (zhh hk h1) h2
theorem qz5:Sml qef/\qef.length=22:=by
 refine ⟨?_,rfl⟩;intro x hx;simp [qef] at hx;omega
theorem zg2 (b:List UInt8):Sml (qda b).1/\(qda b).1.length=22:=by
 have hz:Sml zeroL/\zeroL.length=22:=by
  refine ⟨fun x hx=>?_,rfl⟩;unfold zeroL at hx;have:=List.eq_of_mem_replicate hx;omega
 unfold qda;split
 ·exact hz
 ·split
  ·exact qz5
  ·split
   ·rename_i k hk;exact q2y _ _ _ qz5 hk
   ·exact hz
theorem q4v (b:List UInt8):Wide (toL (ofL (qda b).1)):=by
 obtain ⟨h1,h2⟩:=zg2 b;rw [q8w h2];intro i;cases hx:(qda b).1[i]? with
 | none=>simp
 | some x =>
  have:=h1 x (List.mem_of_getElem? hx);simp only [getD_some];omega
noncomputable def goK (E:KE) (k:qaa) (ts:List UInt8) (P:Slc) (v:qaf):KE×KR :=
 if k.Action=116\/k.Action=84\/k.Action=113 then qjw E k ts P v
 else if k.Action=112 then showK E k v
 else if k.Action=100 then (q5b E k v,kr0)
 else (E,toldR k 1 [])
noncomputable def cmdK (E:KE) (k:qaa) (ts:List UInt8) (P:Slc) (v:qaf):KE×KR:=match E.ld with
 | some (C,s)=>if k.Action≠100 then moreK E C s k ts P v else goK E.idle k ts P v
 | none=>goK E k ts P v
noncomputable def doK (E:KE) (c:List UInt8) (P:Slc) (v:qaf):KE×KR:=match c with
 | []=>(E,kr0)
 | b::r=>if b≠71 then (E,kr0) else if (qda (headB 59 r)).2≠0 then (E,kr0) else cmdK E (ofL (qda (headB 59 r)).1) (tailB 59 r) P v
section
variable {w w':World} {base g n:Nat} {F F':KF} {E E':KE}
theorem zjj {s:Slc} {b:UInt8} {r:List UInt8} (h:Rd qae w s (b::r)) {a:Addr} (ha:s.a=some a):a.spot=none:=by
 have h1:=h.at_ 0 b rfl 0 (.int .u8 (b.toNat:Int)) rfl;have e:((s.at_ qae.k 0).add 0).spot=a.spot:=by
  unfold Slc.at_;rw [ha];rfl
 cases hs:a.spot with
 | none=>rfl
 | some x =>
  exfalso;unfold World.cell? at h1;rw [e,hs] at h1;split at h1
  ·cases h1
  ·cases h1
theorem q1q (h:EngM w base g F E n) (hn:n<=900) (hT:Tab w) (h4:4<=base) (hq:E.quota<=100000) {c:Slc} {bs:List UInt8} (hbs:bs.length<=40000) (hc:Rd qae w c bs)
  (hld:∀C s,E.ld=some (C,s)->s.over=false/\potL s+3*bs.length<=120000/\Wide (toL E.first)) (v:qaf) {K:qad->World->Prop}
  (hK:∀P r F' w',ResM w' r (doK E bs P v).2->EngT base g w F F' (doK E bs P v).1 (n+2) w'->(∀j,r.Reply.blk=some j->w.heap.size<=j/\¬engS g F' j)->K r w'):qba (some ⟨g,0,none⟩) c v w K:=by
 refine qxp _ _ _ ?_;unfold qqr;refine nwb fun w1 hv1 hB1 hs1=>nwb fun w2 ht2 hB2 hs2=>?_;have B2:=qap hB1 hB2;have hv2:=hv1.ext hB2;have z1:=hB1.size;have z2:=hB2.size;have lt2:=ht2.lt;have lv2:=hv2.lt;have nE:∀{b:Nat},w.heap.size<=b->¬engS g F b:=fun hb hk=>by have:=(h.below _ hk).2;omega
 have nLS:∀{b:Nat},w.heap.size<=b->¬F.LS b:=fun hb hk=>nE hb (.inr (.inr (.inr hk)));have tys:tyFar qai:=by decide
 have fin:∀(P:Slc) (r:qad) (R:KR) (F':KF) (E':KE) (wz:World) (vs:List Value),vs.length=4->Blk wz w1.heap.size qai vs->EngT base g w F F' E' (n+2) wz->ResM wz r R->¬F'.LS w1.heap.size ->
   (∀j,r.Reply.blk=some j->w1.heap.size<j/\¬engS g F' j)->doK E bs P v=(E',R)->stK ⟨w1.heap.size,0,none⟩ (qad.rep.cells r) wz fun w12=>ldS qad.rep ⟨w1.heap.size,0,none⟩ w12 fun r_1=>K r_1 w12:=by
  intro P r R F' E' wz vs hvs hb hE hr hls hf hd;refine qbm (r:=qad.rep) (x:=r) hb rfl (by rw [hvs];rfl) fun w9 hc9 hs9=>?_;refine hK P r F' w9 ?_ ?_ fun j hj=>⟨by have:=(hf j hj).1;omega,(hf j hj).2⟩
  ·rw [hd];exact ⟨hr.1.chg hc9 fun a ha e=>by have:=(hf a.block (slk.2 ⟨a,ha,rfl⟩)).1;omega,hr.2⟩
  ·rw [hd];exact hE.other hb tys hls (by omega) hc9
 have no:∀(wz:World) (vs:List Value),vs.length=4->Blk wz w1.heap.size qai vs->EngT base g w F F E (n+2) wz->(∀P,doK E bs P v=(E,kr0))->stK ⟨w1.heap.size,0,none⟩ [(.slice none 0 0),(.int .i64 0),(.int .i64 0),(.bool false)] wz fun w12=>ldS qad.rep ⟨w1.heap.size,0,none⟩ w12 fun r_1=>K r_1 w12:=by
  intro wz vs hvs hb hE hd;exact fin ⟨none,0,0⟩ ⟨⟨none,0,0⟩,0,0,false⟩ kr0 F E wz vs hvs hb hE (ResM.nil _) (nLS (by omega)) (fun j hj=>by cases hj) (hd _)
 have hcn:=hc.n;have hc2:=hc.ext B2;have h2:EngT base g w F F E (n+2) w2:=(EngT.of_ext h B2).up (by omega);refine jpO fun J1 hJ1=>?_;cases bs with
 | nil =>
  refine cT (by rw [hcn];rfl) ?_;exact no w2 _ rfl ht2 h2 fun P=>rfl
 | cons b r =>
  rw [length_cons] at hcn hbs;refine cF (by rw [hcn];simp;omega) ?_;refine hc2.ix (E:=qae) (i:=0) rfl (by decide) (by simp) fun hcell=>?_;refine lI (x:=(b.toNat:Int)) (by simpa using hcell 0 _ rfl) ?_;by_cases hb:b=71
  ·subst hb;refine cF rfl (hJ1 _ _ ?_);refine hc2.slK (E:=qae) (k:=1) (l:=1) (m:=r.length+1) rfl (.inr rfl) (.inl ⟨rfl,by rw [length_cons]⟩) (by omega) (by rw [length_cons];omega) fun hc3=>?_;have er:((71::r).take (r.length+1)).drop 1=r:=by simp
   rw [er] at hc3;obtain ⟨a,ha⟩:∃a,c.a=some a:=Option.isSome_iff_exists.1 (hc.some_ (by simp));have hsp:=zjj hc ha;have hca3:∃o,cut c.a 1 c.c qae.k=some ⟨a.block,o,none⟩:=by
    rw [ha];obtain ⟨ab,ao,asp⟩:=a;dsimp only at hsp;subst hsp;unfold cut;split
    ·exact ⟨_,rfl⟩
    ·exact ⟨_,rfl⟩
   obtain ⟨o,ho⟩:=hca3;refine zbd hc3 (g:=a.block) (o:=o) ho (by omega) fun p q w4 hB4 hp hq4 hpf hqf=>?_;refine zcz hp fun w5 hB5=>?_;have hwk:=q4v (headB 59 r);have hdo:∀P,doK E (71::r) P v=if (qda (headB 59 r)).2≠0 then (E,kr0) else cmdK E (ofL (qda (headB 59 r)).1) (tailB 59 r) P v:=fun P=>by
    unfold doK;dsimp only;rw [if_neg (by decide)]
   have htl:=q60 59 r;have hts:(tailB 59 r).length<=40000:=by omega
   generalize ofL (qda (headB 59 r)).1=k at *;generalize (qda (headB 59 r)).2=x at *;generalize tailB 59 r=ts at *;refine qcu (vs:=qaa.rep.cells k) rfl fun w7 hk7 hB7 hs7=>?_;have B27:Below w2.heap.size w2 w7:=qcn hB4 hB5 hB7;have B7:=qap B2 B27;have hv7:=hv2.ext B27;have ht7:=ht2.ext B27;have h7:=EngT.of_ext h B7;have hq7:=(hq4.ext hB5).ext hB7;have z4:=hB4.size;have z5:=hB5.size;have z7:=hB7.size;have z27:=B27.size;have lk7:=hk7.lt;refine cO (fun e=>?_) fun e=>?_
   ·exact no w7 _ rfl ht7 (h7.up (by omega)) fun P=>by rw [hdo,if_pos (bne_iff_ne.1 e)]
   have hx0:x=0:=by simpa using e
   subst hx0;have hdo:∀P,doK E (71::r) P v=cmdK E k ts P v:=fun P=>by rw [hdo,if_neg (by decide)]
   refine jpO fun J2 hJ2=>?_;have qe:∀j,q.blk=some j->¬engS g F j:=fun j hj=>nE (by have:=hqf j hj;omega);have j2:∀(wz:World) (F1:KF) (E1:KE),E1.ld=none->E1.quota=E.quota->EngT base g w F F1 E1 n wz->w7.heap.size<=wz.heap.size->Blk wz w.heap.size qbf (qaf.rep.cells v)->Blk wz w1.heap.size qai [(.slice none 0 0),(.int .i64 0),(.int .i64 0),(.bool false)] ->
     Blk wz w5.heap.size qay (qaa.rep.cells k)->Rd qae wz q ts->(∀j,q.blk=some j->ts≠[]->¬engS g F1 j)->(∀P,doK E (71::r) P v=goK E1 k ts P v)->J2 () wz:=by
    intro wz F1 E1 hl1 hq1 h1 zz hvz htz hkz hqz hqe hd;refine hJ2 _ _ ?_;have hTz:=hT.stepK h h4 h1;have nl1:∀j,¬F1.LS j:=h1.m.nl hl1;have nF:∀{F2:KF} {E2:KE} {w2':World},EngT base g wz F1 F2 E2 (n+2) w2'->¬F2.LS w1.heap.size:=fun hT hs=>by
     rcases hT.ls _ hs with h3 | h3
     ·exact nl1 _ h3
     ·omega
    have keep:∀{F2:KF} {E2:KE} {w2':World} {m:Nat},EngT base g wz F1 F2 E2 m w2'->Blk w2' w1.heap.size qai [(.slice none 0 0),(.int .i64 0),(.int .i64 0),(.bool false)]:=fun hT=>htz.chg hT.chg (h1.m.not_in htz tys (nl1 _));refine jpO fun J3 hJ3=>?_;have j3:k.Action≠116->k.Action≠84->k.Action≠113->k.Action≠112->k.Action≠100->J3 () wz:=by
     intro n1 n2 n3 n4 n5;refine hJ3 _ _ (qal (r:=qaa.rep) (x:=k) hkz.cells ?_);refine qfk hTz hwk 1 [] (by simp) fun q2 w10 hq2 hB10 hqb2=>?_;have ht10:=htz.ext hB10;have lz:=htz.lt;refine fin ⟨none,0,0⟩ ⟨q2,0,0,false⟩ (toldR k 1 []) F1 E1 w10 _ rfl ht10 ((h1.ext hB10).up (by omega)) ⟨hq2,rfl,rfl,rfl⟩ (nl1 _) (fun j hj=>⟨by have:=hqb2 j hj;omega,fun hs=>by have:=(h1.m.below _ hs).2;have:=hqb2 j hj;omega⟩) ?_;rw [hd];unfold goK;rw [if_neg (by omega),if_neg (by omega),if_neg (by omega)]
    refine lI (x:=k.Action) (hkz.cells 0 _ rfl) ?_;refine jpO fun J4 hJ4=>?_;have j4:(k.Action=116\/k.Action=84\/k.Action=113)->J4 () wz:=by
     intro hw;refine hJ4 _ _ (qal (r:=qaa.rep) (x:=k) hkz.cells (qal (r:=qaf.rep) (x:=v) hvz.cells ?_));refine zcm h1.m hn hTz h4 hl1 (by omega) hts hqz (fun j hj hne=>hqe j hj hne) hwk v fun P r2 F9 w9 hr9 h9 hrb=>?_;have lz:=htz.lt;refine fin P r2 _ F9 _ w9 _ rfl (keep h9) (h1.trans h9) hr9 (nF h9) (fun j hj=>⟨by have:=(hrb j hj).1;omega,(hrb j hj).2⟩) ?_;rw [hd];unfold goK;rw [if_pos hw]
    refine cO (fun e=>j4 (.inl (eq_of_beq e))) fun e=>?_;have n1:=beq_eq_false_iff_ne.1 e;refine cO (fun e=>j4 (.inr (.inl (eq_of_beq e)))) fun e=>?_;have n2:=beq_eq_false_iff_ne.1 e;refine cO (fun e=>j4 (.inr (.inr (eq_of_beq e)))) fun e=>?_;have n3:=beq_eq_false_iff_ne.1 e;refine cO (fun e=>?_) fun e=>?_
    ·have hp2:=eq_of_beq e;refine qal (r:=qaa.rep) (x:=k) hkz.cells (qal (r:=qaf.rep) (x:=v) hvz.cells ?_);refine zg0 h1.m hn hTz h4 hwk v fun r2 F9 w9 hr9 h9 hrb=>?_;have lz:=htz.lt;refine fin ⟨none,0,0⟩ r2 _ F9 _ w9 _ rfl (keep h9) (h1.trans h9) hr9 (nF h9) (fun j hj=>⟨by have:=(hrb j hj).1;omega,(hrb j hj).2⟩) ?_;rw [hd];unfold goK;rw [if_neg (by omega),if_pos hp2]
    have n4:=beq_eq_false_iff_ne.1 e;refine cO (fun e=>?_) fun e=>j3 n1 n2 n3 n4 (beq_eq_false_iff_ne.1 e);have hp2:=eq_of_beq e;refine qal (r:=qaa.rep) (x:=k) hkz.cells (qal (r:=qaf.rep) (x:=v) hvz.cells ?_);refine zan h1.m hn k v fun F9 w9 h9=>?_;have h9':=h9.up (m:=n+2) (by omega);refine fin ⟨none,0,0⟩ ⟨⟨none,0,0⟩,0,0,false⟩ kr0 F9 _ w9 _ rfl (keep h9) (h1.trans h9') (ResM.nil _) (nF h9') (fun j hj=>by cases hj) ?_;rw [hd];unfold goK;rw [if_neg (by omega),if_neg (by omega),if_pos hp2]
   simp only [onPtr_some];have h7m:=h7.m;cases hl:E.ld with
   | none =>
    refine qa8 (x:=none) (by have:=h7m.blk.cells 3 _ rfl;rw [hl] at this;exact this) (cF rfl ?_);refine j2 w7 F E hl rfl h7 (le_refl _) hv7 ht7 hk7 hq7 (fun j hj _=>qe j hj) fun P=>?_;rw [hdo];unfold cmdK;rw [hl]
   | some Cs =>
    obtain ⟨C,s⟩:=Cs;obtain ⟨hov,hpot,hwf⟩:=hld C s hl;refine qa8 (x:=some ⟨F.lg,0,none⟩) (by have:=h7m.blk.cells 3 _ rfl;rw [hl] at this;exact this) (cT rfl ?_);refine lI (x:=k.Action) (hk7.cells 0 _ rfl) ?_;have nt7:¬engS g F w1.heap.size:=nE (by omega);refine cO (fun e=>?_) fun e=>?_
    ·have hac:=bne_iff_ne.1 e;refine qal (r:=qaa.rep) (x:=k) hk7.cells (qal (r:=qaf.rep) (x:=v) hv7.cells ?_);refine q63 h7m hn (hT.stepK h h4 h7) h4 hl hov (by rw [length_cons] at hpot;omega) hq7 (fun j hj _ hs=>qe j hj (.inr (.inr (.inr hs)))) hwf hwk v fun P r2 F9 w9 hr9 h9 hrb=>?_;refine fin P r2 _ F9 _ w9 _ rfl (ht7.chg h9.chg nt7) (h7.trans h9) hr9 (fun hs=>?_) (fun j hj=>⟨by have:=(hrb j hj).1;omega,(hrb j hj).2⟩) ?_
     ·rcases h9.ls _ hs with h3 | h3
      ·exact nt7 (.inr (.inr (.inr h3)))
      ·omega
     ·rw [hdo];unfold cmdK;rw [hl];dsimp only;rw [if_pos hac]
    ·have hac:k.Action=100:=by simpa using e
     refine q0i h7m fun F8 w8 h8 hq8 ht8=>?_;have z8:=h8.chg.size;refine j2 w8 F8 E.idle rfl rfl (h7.trans h8) z8 (hv7.chg h8.chg (nE (le_refl _))) (ht7.chg h8.chg nt7) (hk7.chg h8.chg (nE (by omega))) (hq7.chg h8.chg fun a ha hs=>qe a.block (slk.2 ⟨a,ha,rfl⟩) hs) (fun j hj hne hs=>?_) fun P=>?_
     ·rcases h8.old j hs with h3 | h3
      ·exact qe j hj h3
      ·obtain ⟨a2,ha2,rfl⟩:=slk.1 hj;have:=rd_lt hq7 (List.length_pos_iff.2 hne) a2 ha2;omega
     ·rw [hdo];unfold cmdK;rw [hl];dsimp only;rw [if_neg (fun hh=>hh hac)]
  ·refine cT (bne_iff_ne.2 fun hh=>hb (by apply UInt8.toNat_inj.1;show b.toNat=71;omega)) ?_;exact no w2 _ rfl ht2 h2 fun P=>by unfold doK;dsimp only;rw [if_pos hb]
end
section
variable {w w':World} {base g n:Nat} {F F':KF} {E E':KE}
end
def HasI (S:St) (id:Int):Prop:=∃x,(id,x)∈S.L
def Here (T:List Pl) (S:St):Prop:=∀p∈T,HasI S p.Image
def LdOk (B:Nat) (E:KE):Prop:=∀C s,E.ld=some (C,s)->s.over=false/\Wide (toL E.first)/\potL s<=B/\(s.b.length:Int)+E.S.used<=E.quota
structure Inv (B:Nat) (E:KE):Prop where
 here:Here E.T E.S
 q:E.S.quota=E.quota
 ld:LdOk B E
section
variable {B n:Nat} {E:KE} {W H:Int} {bs:List UInt8}
theorem q80 (hq:E.S.quota=E.quota) (h0:0<=E.quota) (hh:heldK E<=1000000) :
  ((heldK E:Int)<=E.quota/\E.reserve 0=({ E with S:=(({ E.S with res:=(heldK E:Int) }:St).room (heldK E)).1,T:=goneT E.T (({ E.S with res:=(heldK E:Int) }:St).room (heldK E)).2 },0))\/(E.quota<(heldK E:Int)/\E.reserve 0=(E,6)):=by
 have e:wi (0+(heldK E:Int))=heldK E:=by
  unfold wi;rw [Int.zero_add];exact i64_in (by omega)
 unfold KE.reserve;rw [if_neg (by omega),if_neg (by omega),e];by_cases hh:(heldK E:Int)<=E.quota
 ·left;refine ⟨hh,?_⟩;have er:E.S.reserve (heldK E:Int)=((({ E.S with res:=(heldK E:Int) }:St).room (heldK E)).1,(({ E.S with res:=(heldK E:Int) }:St).room (heldK E)).2,0):=by
   unfold St.reserve;rw [if_neg (by omega),if_neg (by omega)]
  rw [er]
 ·right;refine ⟨by omega,?_⟩;have er:E.S.reserve (heldK E:Int)=(E.S,[],6):=by
   unfold St.reserve;rw [if_neg (by omega),if_pos (by omega)]
  rw [er];rfl
theorem q8t (C:LdK):∀(ts:List UInt8) (s:LdS),potL (addL C s ts)<=potL s+3*ts.length
 | [],s=>le_refl _
 | c::ts,s=>by
  have h1:=q8t C ts (addC C s c);have h2:=q8i C s c;have e:addL C s (c::ts)=addL C (addC C s c) ts:=rfl;rw [e,length_cons];omega
theorem q68 (C:LdK):∀(ts:List UInt8) (s:LdS),(addL C s ts).over=s.over
 | [],s=>rfl
 | c::ts,s=>(q68 C ts (addC C s c)).trans (q7b C s c)
end
def keys0:qaa:=⟨0,0,0,0,0,0,0,0,0,0,0,0,0,0,0,0,0,0,0,0,0,0⟩
def newE (q:Int):KE:=⟨q,⟨q,0,0,0,[]⟩,[],none,keys0⟩
section
variable {w w':World} {base g n:Nat} {F F':KF} {E E':KE}
theorem q0x {q:Int} {K:Option Addr->Int->World->Prop} (hE:qnf q=1->K none 1 w)
  (hK:qnf q=0->∀g F w',w.heap.size<=g->EngM w' w.heap.size g F (newE q) 0->Below w.heap.size w w'->K (some ⟨g,0,none⟩) 0 w'):qlf q w K:=by
 refine q5z _ ?_;unfold q0f;refine zc6 (base:=w.heap.size) (fun h=>cT rfl (hE h)) fun sg sr w1 he hsg hsr hst hB1=>?_;refine cF rfl ?_;refine q5m ?_;unfold qzz;refine nwb fun w2 ht2 hB2 hs2=>?_;refine nwb fun w3 hg3 hB3 hs3=>?_;have B3:=qcn hB1 hB2 hB3;have z1:=hB1.size;have z2:=hB2.size;have z3:=hB3.size;refine hK he w2.heap.size ⟨sg,sr,w1.heap.size,⟨none,0,0⟩,0,0,fun _=>False⟩ w3 (by omega) ⟨hg3,by omega,(hst.ext hB2).ext hB3,zkl he,⟨hsg,hsr⟩,⟨ht2.ext hB3,by omega,Go.Vc.Own.nil _ _ _⟩,le_refl _,(fun C s h=>by cases h),(fun _ k h=>h),(fun h=>h),⟨fun h=>h,fun h=>h⟩,(fun k _ h=>h),fun k _ h=>h⟩ B3
theorem qn9 (h:EngM w base g F E n) {K:Option Addr->World->Prop} (hK:∀g' r' w',w.heap.size<=g'->w.heap.size<=r'->StM w' base g' r' E.S->Below w.heap.size w w'->K (some ⟨g',0,none⟩) w'):qc4 (some ⟨g,0,none⟩) w K:=by
 refine qtz _ ?_;unfold qmf;simp only [onPtr_some];exact qa8 (x:=some ⟨F.sg,0,none⟩) (h.blk.cells 1 _ rfl) (ze5 h.st hK)
theorem qra (h:EngM w base g F E n) (hn:n<=100000) {K:Option Addr->World->Prop} (hK:∀g' q' w',PlTM w' w.heap.size g' q' E.T->Below w.heap.size w w'->K (some ⟨g',0,none⟩) w'):qdn (some ⟨g,0,none⟩) w K:=by
 refine qs1 _ ?_;unfold qls;simp only [onPtr_some];refine qa8 (x:=some ⟨F.tg,0,none⟩) (h.blk.cells 2 _ rfl) ?_;refine qwq _ ?_;unfold qol;simp only [onPtr_some];refine lSl (x:=F.q) (h.tb.blk.cells 0 _ rfl) ?_;refine qzp h.tb.own.rd (le_trans h.tl hn) fun r w1 hr hB1=>?_;refine nwb fun w2 hb hB2 hs2=>?_;exact hK _ r w2 ⟨hb,hB1.size,hr.ext hB2⟩ (qap hB1 hB2)
end
def cmdA:List UInt8:=[71,97,61,84,44,102,61,50,52,44,115,61,49,44,118,61,49,44,105,61,55,59,65,81,73,68]
def cmdD:List UInt8:=[71,97,61,100,44,100,61,65]
def viewA:qaf:=⟨⟨false,0,5,5,0,0⟩,1,1⟩
def keysA:qaa:=⟨84,100,0,97,0,24,1,1,7,0,0,0,0,0,0,0,0,0,0,0,0,0⟩
def plA:Pl:=⟨7,0,false,0,0,1,1,0,0,1,1,0,0,0⟩
def zkn (P:Slc):St:=⟨100,0,4,1,[(7,⟨⟨0,⟨1,1,P⟩,1,1⟩,[1,2,3,255]⟩)]⟩
def engA (P:Slc):KE:=⟨100,zkn P,[plA],none,keysA⟩
theorem doA (P:Slc):doK (newE 100) cmdA P viewA=(engA P,q38 keysA plA):=by kernel_rfl
theorem itoa7:itoa 7=[55]:=by
 have h:=zh9 7;have e:itoa 7=Lib.decDigits 7:=rfl;rw [e,<-h];rfl
theorem zj7:toldK keysA 0 []=[27,95,71,105,61,55,59,79,75,27,92]:=by
 have e:toldK keysA 0 []=[27,95,71]++joinC [105::61::itoa 7]++[59]++[79,75]++[27,92]:=by kernel_rfl
 rw [e,itoa7];rfl
theorem doD (P P':Slc):(doK (engA P) cmdD P' viewA).1.S.L=[]:=by kernel_rfl
section
variable {w w':World} {base g n:Nat} {F F':KF} {E E':KE}
theorem q8c (hT:Tab w) (h4:4<=w.heap.size) {K:Bool->World->Prop} (hK:∀w',Below w.heap.size w w'->K true w'):qvo w K:=by
 refine q5w ?_;unfold qz3;refine q0x (fun h=>by cases h) fun _ g F w1 hg h1 hB1=>?_;refine jpO fun J1 hJ1=>?_;refine cF rfl (cF rfl (hJ1 _ _ ?_));refine nwb fun w2 hv2 hB2 hs2=>?_;show stK ⟨w1.heap.size,2,none⟩ _ _ _;refine qaj hv2 (by show (2+1:Nat)<=8;omega) fun w3 hv3 hg3 hs3=>?_;show stK ⟨w1.heap.size,3,none⟩ _ _ _;refine qaj hv3 (by show (3+1:Nat)<=8;omega) fun w4 hv4 hg4 hs4=>?_;show stK ⟨w1.heap.size,6,none⟩ _ _ _;refine qaj hv4 (by show (6+1:Nat)<=8;omega) fun w5 hv5 hg5 hs5=>?_;show stK ⟨w1.heap.size,7,none⟩ _ _ _;refine qaj hv5 (by show (7+1:Nat)<=8;omega) fun w6 hv6 hg6 hs6=>?_;have cc:∀{a b:World},a.grownBy b (some w1.heap.size)->Chg (fun i=>i=w1.heap.size) a b:=fun hg=>Chg.of_grown hg fun k hk=>by cases hk;rfl
 have hc26:Chg (fun i=>i=w1.heap.size) w2 w6:=(((cc hg3).trans (cc hg4) fun i _ hi=>hi).trans (cc hg5) fun i _ hi=>hi).trans (cc hg6) fun i _ hi=>hi;have hv6:Blk w6 w1.heap.size qbf (qaf.rep.cells viewA):=hv6;have hB16:Below w1.heap.size w1 w6:=b1o hB2 hc26 (le_refl _);have h6:=EngT.of_ext h1 hB16;refine quz (bs:=cmdA) rfl rfl (by decide) fun s1 w7 hs1r hs1b hB7 _ hs1a=>?_;have hv7:=hv6.ext hB7;have h7:=h6.ext hB7;have z1:=hB1.size;have z6:=hB16.size;have z7:=hB7.size;have lv7:=hv7.lt;have hTab1:Tab w1:=hT.ext hB1;refine qal (r:=qaf.rep) (x:=viewA) hv7.cells ?_;have nl7:∀k,¬F.LS k:=h7.m.nl rfl;refine q1q h7.m (by omega) (hTab1.stepK h1 h4 h7) h4 (by decide) (by decide) hs1r (fun C s hl=>by cases hl) viewA fun P r F8 w8 hr8 h8 hrb=>?_;rw [doA] at hr8 h8;have hE8:=h7.trans h8;have hv8:=hv7.chg h8.chg (h7.m.not_in hv7 (by decide) (nl7 _));have z8:=h8.chg.size;have hTab8:Tab w8:=hTab1.stepK h1 h4 hE8;refine qcu (vs:=qad.rep.cells r) rfl fun w9 hr9 hB9 hs9=>?_;have h9:=hE8.ext hB9;refine qn9 h9.m fun sg' sr' w10 hsg' hsr' hst10 hB10=>?_;refine qyc hst10 h9.m.ok 7 fun P2 w11 hP2 hB11=>?_;have eB:bsOf (engA P).S.L 7=[1,2,3,255]:=by kernel_rfl
 rw [eB] at hP2;refine qcu (vs:=qac.rep.cells ⟨_,_,P2⟩) rfl fun w12 hm12 hB12 hs12=>?_;have h12:=((h9.ext hB10).ext hB11).ext hB12;refine qra h12.m (by omega) fun tg' q' w13 ht13 hB13=>?_;refine qxf ht13 (by show (1:Nat)<=_;omega) fun l w14 hl14 hB14=>?_;refine quz (bs:=cmdD) rfl rfl (by decide) fun s2 w15 hs2r hs2b hB15 _ hs2a=>?_;have h15:=((h12.ext hB13).ext hB14).ext hB15;have z9:=hB9.size;have z10:=hB10.size;have z11:=hB11.size;have z12:=hB12.size;have z13:=hB13.size;have z14:=hB14.size;have z15:=hB15.size;have B815:Below w8.heap.size w8 w15:=qap (qap (qap hB9 (qcn hB10 hB11 hB12)) (qap hB13 hB14)) hB15;have hv15:=hv8.ext B815;have hr15:=(((((hr9.ext hB10).ext hB11).ext hB12).ext hB13).ext hB14).ext hB15;have hm15:=((hm12.ext hB13).ext hB14).ext hB15;have hP15:=(((hP2.ext hB12).ext hB13).ext hB14).ext hB15;have hrp15:=hr8.1.ext B815;refine qal (r:=qaf.rep) (x:=viewA) hv15.cells ?_;have nE8:∀{b:Nat},w8.heap.size<=b->¬engS g F8 b:=fun hb hk=>by have:=(hE8.m.below _ hk).2;omega
 refine q1q h15.m (by omega) (hTab8.ext B815) h4 (by show (100:Int)<=_;omega) (by decide) hs2r (fun C s hl=>by cases hl) viewA fun P' r2 F16 w16 hr16 h16 hrb2=>?_;have hE16:=h15.trans h16;have z16:=h16.chg.size;refine qn9 hE16.m fun sg2 sr2 w17 _ _ hst17 hB17=>?_;refine qyc hst17 hE16.m.ok 7 fun P3 w18 hP3 hB18=>?_;refine qcu (vs:=qac.rep.cells ⟨_,_,P3⟩) rfl fun w19 hx19 hB19 hs19=>?_;have B1619:Below w16.heap.size w16 w19:=qcn hB17 hB18 hB19;have hr16b:=hr15.chg h16.chg (nE8 (le_refl _));have hr19:=hr16b.ext B1619;have hm19:=(hm15.chg h16.chg (nE8 (by omega))).ext B1619;have hP19:=(hP15.chg h16.chg fun k hk=>nE8 (by have:=(hP2.lt k hk).1;omega)).ext B1619;have hrp19:Rd qae w19 r.Reply (q38 keysA plA).reply:=(hrp15.chg h16.chg fun a ha=>(hrb a.block (slk.2 ⟨a,ha,rfl⟩)).2).ext B1619;have hrep:(q38 keysA plA).reply=[27,95,71,105,61,55,59,79,75,27,92]:=zj7;rw [hrep] at hrp19;have hres:=hr8.2;refine lSl (x:=r.Reply) (hr19.cells 0 _ rfl) (qhe hrp19 ?_);have e1:(⟨#[27,95,71,105,61,55,59,79,75,27,92]⟩:ByteArray)=strB [27,95,71,105,61,55,59,79,75,27,92]:=rfl;rw [e1];refine cT (by simp) ?_;refine lI (x:=r.Rows) (hr19.cells 1 _ rfl) (cT (by rw [hres.1];rfl) ?_);refine lI (x:=r.Cols) (hr19.cells 2 _ rfl) (cT (by rw [hres.2.1];rfl) ?_);refine qc5 (x:=r.Moves) (hr19.cells 3 _ rfl) (cT (by rw [hres.2.2];rfl) ?_);refine cT (by kernel_rfl) ?_;refine lSl (x:=P2) (hm19.cells 2 _ rfl) (qhe hP19.rd ?_);have e2:(⟨#[1,2,3,255]⟩:ByteArray)=strB [1,2,3,255]:=rfl;rw [e2];refine cT (by simp) ?_;refine cT (by rw [hl14.rd.n];rfl) ?_;have e3:(lookL (doK (engA P) cmdD P' viewA).1.S.L 7).isSome=false:=by rw [doD];rfl
 rw [e3];refine hK w19 ?_;have hB8:Below w.heap.size w w8:=hB1.trans (EngT.belowB h1 hE8);have hB15':Below w.heap.size w w15:=hB8.trans (B815.mono (by omega));have hB16':Below w.heap.size w w16:=hB15'.trans (EngT.belowB h15.m h16);exact hB16'.trans (B1619.mono (by omega))
end
section
variable {w w':World} {base g n:Nat} {F F':KF} {E E':KE}
theorem zgf (v:qaf) {K:Bool->World->Prop} (hK:∀b w',Below w.heap.size w w'->K b w'):qu7 v w K:=by
 refine q48 _ ?_;unfold q00;refine nwb fun w1 hb hB1 hs1=>?_;have hK:=fun b=>hK b w1 hB1;have ld:∀(j:Nat) {x:Int} {X:Int->Prop},(qaf.rep.cells v)[j]?=some (.int .i64 x)->X x->ldI .i64 ((⟨w.heap.size,0,none⟩:Addr).add j) w1 X:=fun j x X h hx=>lI (x:=x) (hb.cells j _ h) hx;refine ld 1 (x:=v.View.Top) rfl (cO (fun _=>?_) fun _=>hK _);refine ld 1 (x:=v.View.Top) rfl (cO (fun _=>?_) fun _=>hK _);refine ld 2 (x:=v.View.Rows) rfl (cO (fun _=>?_) fun _=>hK _);refine ld 2 (x:=v.View.Rows) rfl (cO (fun _=>?_) fun _=>hK _);refine ld 3 (x:=v.View.Cols) rfl (cO (fun _=>?_) fun _=>hK _);refine ld 3 (x:=v.View.Cols) rfl (cO (fun _=>?_) fun _=>hK _);refine ld 4 (x:=v.View.Row) rfl (cO (fun _=>?_) fun _=>hK _);refine ld 4 (x:=v.View.Row) rfl (ld 2 (x:=v.View.Rows) rfl (cO (fun _=>?_) fun _=>hK _));refine ld 5 (x:=v.View.Col) rfl (cO (fun _=>?_) fun _=>hK _);exact ld 5 (x:=v.View.Col) rfl (ld 3 (x:=v.View.Cols) rfl (hK _))
end
theorem zbz (bs:List UInt8):flat qae bs=bs.map fun b=>Value.int .u8 (b.toNat:Int):=by
 induction bs with
 | nil=>rfl
 | cons b l ih =>
  have e:flat qae (b::l)=Value.int .u8 (b.toNat:Int)::flat qae l:=rfl;rw [e,ih];rfl
section
variable {w w':World} {base g n:Nat} {F F':KF} {E E':KE}
def cellB (b:UInt8):Value:=.int .u8 (b.toNat:Int)
def RowM (w:World) (g:Nat) (bs:List UInt8):Prop:=w.heap[g]?=some (.cells (bs.map cellB).toArray qan (bs.length,bs.length+1))
theorem RowM.lt {bs:List UInt8} (h:RowM w g bs):g<w.heap.size:=(Array.getElem?_eq_some_iff.1 h).1
theorem RowM.chg {S:Nat->Prop} {bs:List UInt8} (h:RowM w g bs) (hc:Chg S w w') (hS:¬S g):RowM w' g bs:=(hc.block g h.lt hS).trans h
theorem RowM.cell {bs:List UInt8} (h:RowM w g bs) {j:Nat} {b:UInt8} (hb:bs[j]?=some b):w.cell? ⟨g,j,none⟩=some (cellB b):=by
 unfold RowM at h;simp [World.cell?,h,hb]
theorem RowM.cells {bs:List UInt8} (h:RowM w g bs) {j:Nat} {v:Value} (hv:(bs.map cellB)[j]?=some v):w.cell? ((⟨g,0,none⟩:Addr).add j)=some v:=by
 rw [List.getElem?_map] at hv;obtain ⟨b,hb,rfl⟩:=map_eq_some_iff.1 hv;rw [qas,zero_add];exact h.cell hb
theorem RowM.rd {bs:List UInt8} (h:RowM w g bs) (hl:bs.length<=1000000):Rd qae w ⟨some ⟨g,0,none⟩,bs.length,bs.length⟩ bs:=by
 refine ⟨rfl,le_refl _,by show bs.length<=maxLen;simp only [maxLen];omega,fun _=>rfl,fun i x hx j v hv=>?_⟩;have hj:j=0:=by
  have:=(List.getElem?_eq_some_iff.1 hv).1;simp [qae] at this;exact this
 subst hj;have e:v=cellB x:=by simpa [qae,cellB] using hv.symm
 rw [e];show w.cell? (((⟨g,0,none⟩:Addr).add (i*qae.k)).add 0)=_;rw [add_zero,qas,zero_add,show i*qae.k=i from mul_one i];exact h.cell hx
theorem RowM.st {bs:List UInt8} (h:RowM w g bs) {i:Nat} (hi:i<bs.length) (b:UInt8) {K:World->Prop} (hK:∀w',RowM w' g (bs.set i b)->Chg (fun k=>k=g) w w'->w'.heap.size=w.heap.size->K w'):stK ⟨g,i,none⟩ [cellB b] w K:=by
 refine ⟨fun j hj=>?_,hK _ ?_ (Chg.gg (q28 w ⟨g,i,none⟩ _)) (size_wr _ _ _)⟩
 ·have hj:j=0:=by simpa using hj
  subst hj;rw [add_zero];refine ⟨⟨_,h.cell (List.getElem?_eq_getElem hi)⟩,?_⟩;unfold RowM at h;simp [World.frozen?,h];omega
 ·have e:wr w ⟨g,i,none⟩ [cellB b]=w.setCell ⟨g,i,none⟩ (cellB b):=by
   show w.setCell ((⟨g,i,none⟩:Addr).add 0) (cellB b)=_;rw [add_zero]
  rw [e];unfold RowM at h ⊢;rw [setCell_eq_setRow w g i _ _ _ _ h,setRow_heap w g _ _ _ _ h];simp [List.map_set]
theorem q6p (w:World) (xs ys:List UInt8) (old:Nat) (hl:xs.length+ys.length<=1000000) :
  Go.Vc.Own qae (w.drew.alloc (.cells ((xs.map cellB).toArray++(ys.map cellB).toArray++Builtin.zeroCells (Value.int .u8 0).cells (grownCap w (xs.length+ys.length) old qan-(xs.length+ys.length))) qan)) w.heap.size ⟨some ⟨w.heap.size,0,none⟩,xs.length+ys.length,grownCap w (xs.length+ys.length) old qan⟩ (xs++ys):=by
 have hge:=grownCap_ge w (xs.length+ys.length) old qan;have hcm:grownCap w (xs.length+ys.length) old qan<=maxLen:=grownCap_le_maxLen w _ old _ (by simp only [maxLen];omega);have hz1:(Value.int IntKind.u8 0).cells.size=1:=rfl;have hf:flat qae (xs++ys)=xs.map cellB++ys.map cellB:=by rw [zbz,List.map_append];rfl
 have:=Own.of_blk (E:=qae) (base:=w.heap.size) (g:=w.heap.size) (xs:=xs++ys) (c:=grownCap w (xs.length+ys.length) old qan) (w:=w.drew.alloc (.cells ((xs.map cellB).toArray++(ys.map cellB).toArray++Builtin.zeroCells (Value.int .u8 0).cells (grownCap w (xs.length+ys.length) old qan-(xs.length+ys.length))) qan))
  (cur:=((xs.map cellB).toArray++(ys.map cellB).toArray++Builtin.zeroCells (Value.int .u8 0).cells (grownCap w (xs.length+ys.length) old qan-(xs.length+ys.length))).toList) (le_refl _)
  (by unfold Blk;rw [Array.toArray_toList];exact heap_alloc_new w.drew _) (by rw [length_append];exact hge) hcm
  (by
   have:qae.k=1:=rfl;simp only [Array.length_toList,Array.size_append,List.size_toArray,length_map,size_zeroCells,hz1,this];omega)
  (by
   have hk:qae.k=1:=rfl;rw [hf,hk,mul_one,Array.toList_append,Array.toList_append];have:(xs++ys).length=(xs.map cellB++ys.map cellB).length:=by simp
   rw [this];exact List.take_left)
 rw [length_append] at this;exact this
def Cmd (w:World) (base:Nat) (c:Slc) (bs:List UInt8):Prop:=Go.Vc.Own qae w base c bs\/∃g,base<=g/\c=⟨some ⟨g,0,none⟩,bs.length,bs.length⟩/\RowM w g bs
theorem Cmd.rd {c:Slc} {bs:List UInt8} (h:Cmd w base c bs) (hl:bs.length<=1000000):Rd qae w c bs:=by
 rcases h with h | ⟨g,_,rfl,h⟩
 ·exact h.rd
 ·exact h.rd hl
theorem q7a {vs:List Value} {m:Nat} {bs:List UInt8} {K:Slc->World->Prop} (hv:vs=bs.map cellB) (hn:m=bs.length)
  (hK:∀s w',Cmd w' w.heap.size s bs->Below w.heap.size w w'->K s w') :
  nw qan vs w fun t w1=>runK1 PG (convert qab qab (.slice (some t) m m)) Kind.slice w1 K:=by
 subst hn hv;refine ⟨⟨some ⟨w.heap.size,0,none⟩,bs.length,bs.length⟩,_,Lib.run_convert_bytes_const w qab qan _ _ _ (by kernel_rfl) (by kernel_rfl),hK _ _ (.inr ⟨_,le_refl _,rfl,?_⟩) ((Below.refl _ w).alloc (le_refl _) _)⟩;show (w.alloc _).heap[w.heap.size]?=_;rw [heap_alloc_new];simp
theorem Cmd.apK {c x:Slc} {bs ys:List UInt8} {w0:World} {K:Slc->World->Prop} (h:Cmd w w0.heap.size c bs) (hG:Below w0.heap.size w0 w) (hx:Rd qae w x ys) (hl:bs.length+ys.length<=1000000)
  (hK:∀r w',Cmd w' w0.heap.size r (bs++ys)->Below w0.heap.size w0 w'->w.heap.size<=w'.heap.size->(∀b t vs,Blk w b t vs->t≠qan->Blk w' b t vs)->K r w'):apK PG #[qab,qab] qab c x w K:=by
 rcases h with ho | ⟨g,hg,rfl,h⟩
 ·refine qkd qau ho hx hG.size (by rw [qc0];omega) (by unfold maxLen;omega) fun r wy hr hgr _=>?_;have hc:Chg (fun k=>c.blk=some k) w wy:=Chg.of_grown hgr fun k hk=>hk;exact hK r wy (.inl hr) (hG.trans (hc.below hG.size fun i hi hs=>by have:=(ho.lt i hs).1;omega)) hc.size fun b t vs hb ht=>hb.chg hc fun hs=>qa0 ho hb (fun e=>ht e.symm) b hs rfl
 ·have hi1:qau.i.size=1:=qau.hs;cases ys with
  | nil =>
   have hn:x.n=0:=by simpa using hx.n
   refine ⟨⟨some ⟨g,0,none⟩,bs.length,bs.length⟩,w,?_,hK _ w (.inr ⟨g,hg,by simp,by simpa using h⟩) hG (le_refl _) fun _ _ _ hb _=>hb⟩;rw [hn];cases hxa:x.a with
   | none=>simp [append_,run_underlying qau.ht,sizeOf,typeInfo,qau.hi,Builtin.lenOf,Builtin.firstCells,storeCells]
   | some a =>
    have hf:=run_firstCells_some (P:=PG) w qau.i.size 0 a 0 x.c [] (by simp) (by simp);simp [append_,run_underlying qau.ht,sizeOf,typeInfo,qau.hi,Builtin.lenOf,hf,storeCells]
  | cons y l =>
   obtain ⟨a,ha⟩:=Option.isSome_iff_exists.1 (hx.some_ (by simp));have hxn:x.n=(y::l).length:=hx.n;have hcells:∀(j:Nat) (u:Value),((y::l).map cellB)[j]?=some u->w.cell? (a.add j)=some u:=by
    intro j u hu;rw [List.getElem?_map] at hu;obtain ⟨b,hb,rfl⟩:=map_eq_some_iff.1 hu;have h1:=hx.at_ j b hb 0 (cellB b) rfl;have e:(x.at_ qae.k j).add 0=a.add j:=by
     rw [add_zero];unfold Slc.at_;rw [ha,show j*qae.k=j from mul_one j];rfl
    rwa [e] at h1
   have hrun:=run_append_grow (P:=PG) w qab qab qan qau.i (.int .u8 0) qau.ht qau.hi qau.hz ⟨g,0,none⟩ bs.length bs.length (bs.map cellB) (by rw [hi1];simp) (fun j v hv=>h.cells hv) a (y::l).length x.c ((y::l).map cellB) (by rw [hi1];simp) hcells
    (by simp) (by omega) (growslice_fits (by simp) (by rw [qc0];omega))
   rw [<-hxn,<-ha] at hrun;have hB:Below w.heap.size w (w.drew.alloc (.cells ((bs.map cellB).toArray++((y::l).map cellB).toArray++Builtin.zeroCells (Value.int .u8 0).cells (grownCap w (bs.length+x.n) bs.length qan-(bs.length+x.n))) qan)):=(qcg w).alloc (le_refl _) _;refine ⟨⟨_,_,_⟩,_,hrun,hK _ _ (.inl ?_) (qap hG hB) hB.size fun b t vs hb _=>hb.ext hB⟩;rw [hxn];exact (q6p w bs (y::l) bs.length hl).base hG.size
theorem zjr {s:Slc} {xs bs:List UInt8} {K:Slc->World->Prop} (hown:Go.Vc.Own qae w base s xs) (hb:base<=w.heap.size) (hl:xs.length+bs.length<=1000000)
  (hK:∀r w',Go.Vc.Own qae w' base r (xs++bs)->w.grownBy w' s.blk->K r w'):apS PG #[qab,qa1] qab s (strB bs) w K:=by
 have hz:=qbs bs;obtain ⟨v',w',hrun,h2,h3,_⟩:=Lib.run_append_own_string (P:=PG) w base qab qa1 qab qan qau.i (by kernel_rfl) (by kernel_rfl) qau.hi qau.hz (by kernel_rfl) (by kernel_rfl) s.v xs.length (flat qae xs) hown (strB bs)
  (by rw [hz];simp only [maxLen];omega) (by rw [hz];omega) hb
 have hv':∃r:Slc,v'=r.v:=by
  rcases h2.2 with ⟨e,_⟩ | ⟨g,cap,cur,e,_⟩
  ·exact ⟨⟨none,0,0⟩,e⟩
  ·exact ⟨⟨_,_,_⟩,e⟩
 obtain ⟨r,rfl⟩:=hv';refine ⟨r,w',hrun,hK r w' ?_ (by rw [<-qn3];exact h3)⟩;have e:Lib.strCells (strB bs)=flat qae bs:=by
  rw [zbz];unfold Lib.strCells;show (strB bs).data.toList.map _=_;have:(strB bs).data.toList=bs:=by simp [strB]
  rw [this]
 rw [e,hz] at h2;unfold Go.Vc.Own;rw [length_append,q2w];exact h2
theorem Cmd.apS {c:Slc} {bs ys:List UInt8} {w0:World} {K:Slc->World->Prop} (h:Cmd w w0.heap.size c bs) (hG:Below w0.heap.size w0 w) (hy:ys≠[]) (hl:bs.length+ys.length<=1000000)
  (hK:∀r w',Go.Vc.Own qae w' w0.heap.size r (bs++ys)->Below w0.heap.size w0 w'->w.heap.size<=w'.heap.size->(∀b t vs,Blk w b t vs->t≠qan->Blk w' b t vs)->K r w'):apS PG #[qab,qa1] qab c (strB ys) w K:=by
 rcases h with ho | ⟨g,hg,rfl,h⟩
 ·refine zjr ho hG.size hl fun r wy hr hgr=>?_;have hc:Chg (fun k=>c.blk=some k) w wy:=Chg.of_grown hgr fun k hk=>hk;exact hK r wy hr (hG.trans (hc.below hG.size fun i hi hs=>by have:=(ho.lt i hs).1;omega)) hc.size fun b t vs hb ht=>hb.chg hc fun hs=>qa0 ho hb (fun e=>ht e.symm) b hs rfl
 ·have hi1:qau.i.size=1:=qau.hs;have hz:=qbs ys;have hyl:0<ys.length:=List.length_pos_iff.2 hy;have e:Lib.strCells (strB ys)=ys.map cellB:=by
   unfold Lib.strCells;have:(strB ys).data.toList=ys:=by simp [strB]
   rw [this];rfl
  have hrun:=Lib.run_append_grow_string (P:=PG) w qab qa1 qab qan qau.i (.int .u8 0) (by kernel_rfl) (by kernel_rfl) qau.hi qau.hz ⟨g,0,none⟩ bs.length bs.length (bs.map cellB) (by rw [hi1];simp) (fun j v hv=>h.cells hv) (strB ys)
   (by rw [hz];omega) (by rw [hz];omega) (growslice_fits (by rw [hz];omega) (by rw [qc0,hz];omega))
  rw [e,hz] at hrun;have hB:Below w.heap.size w (w.drew.alloc (.cells ((bs.map cellB).toArray++(ys.map cellB).toArray++Builtin.zeroCells (Value.int .u8 0).cells (grownCap w (bs.length+ys.length) bs.length qan-(bs.length+ys.length))) qan)):=(qcg w).alloc (le_refl _) _;exact ⟨⟨_,_,_⟩,_,hrun,hK _ _ ((q6p w bs ys bs.length hl).base hG.size) (qap hG hB) hB.size fun b t vs hb _=>hb.ext hB⟩
theorem Cmd.st {c:Slc} {bs:List UInt8} (h:Cmd w base c bs) {i:Nat} (hi:i<bs.length) (b:UInt8) {K:World->Prop} (hK:∀w',Cmd w' base c (bs.set i b)->Chg (fun k=>base<=k) w w'->(∀b t vs,Blk w b t vs->t≠qan->Blk w' b t vs)->K w'):stK (c.at_ 1 i) [cellB b] w K:=by
 rcases h with ho | ⟨g,hg,rfl,h⟩
 ·refine Own.st0 (E:=qae) ho (x:=bs[i]) (y:=b) (by simp [hi]) rfl fun w' ho' hgr hs=>?_;have hc:Chg (fun k=>c.blk=some k) w w':=Chg.of_grown hgr fun k hk=>hk;exact hK w' (.inl ho') (hc.mono fun k _ hk=>(ho.lt k hk).1) fun b t vs hb ht=>hb.chg hc fun hs=>qa0 ho hb (fun e=>ht e.symm) b hs rfl
 ·have e:(⟨some ⟨g,0,none⟩,bs.length,bs.length⟩:Slc).at_ 1 i=⟨g,i,none⟩:=by
   show (⟨g,0,none⟩:Addr).add (i*1)=_;rw [mul_one,qas,zero_add]
  rw [e];refine h.st hi b fun w' h' hc hs=>hK w' (.inr ⟨g,hg,by simp,h'⟩) (hc.mono fun k _ hk=>by rw [hk];exact hg) fun b t vs hb ht=>hb.chg hc fun hs=>?_;subst hs;have h1:some _=some _:=hb.symm.trans h;injection h1 with h1
  injection h1 with h2 h3
  exact ht h3
theorem EngM.chgS {S:Nat->Prop} (h:EngM w base g F E n) (hc:Chg S w w') (hS:∀k,engS g F k->¬S k) (hi:∀k,imgS E.S k->¬S k):EngM w' base g F E n :=
 ⟨h.blk.chg hc (hS _ (.inl rfl)),h.hg,h.st.keep hc (hS _ (.inr (.inl (.inl rfl)))) (hS _ (.inr (.inl (.inr rfl)))) (fun p hp k hk=>hi k ⟨p,hp,hk⟩),h.ok,h.hs,h.tb.chg hc fun k hk=>hS k (.inr (.inr (.inl hk))),h.tl,
  fun C s hl=>⟨(h.lo C s hl).1.chg hc fun k hk=>hS k (.inr (.inr (.inr hk))),(h.lo C s hl).2⟩,h.nl,h.dg,h.ds,h.dt,h.di⟩
theorem zgx {b2 g2 n2:Nat} {F2:KF} {E2:KE} (h:EngM w base g F E n) (h2:EngM w b2 g2 F2 E2 n2) (hl:∀k,F2.LS k->¬imgS E.S k):∀k,imgS E.S k->¬engS g2 F2 k:=by
 rintro k ⟨p,hp,hk⟩ hs;have ho:=h.st.img p hp;rcases hs with e | (e | e) | (e | e) | e
 ·exact ho.ne_b h2.blk (by decide) k hk e
 ·exact ho.ne_b h2.st.blk (by decide) k hk e
 ·exact ho.ne_m h2.st.map k hk e
 ·exact ho.ne_b h2.tb.blk (by decide) k hk e
 ·exact ho.ne_o h2.tb.own (by decide) k hk e
 ·exact hl k e ⟨p,hp,hk⟩
end
def qeh (h:List UInt8):List UInt8:=71::(h++[44,97,61,84,44,113,61,48,44,105,61,55,44,73,61,48,44,112,61,48,44,109,61])
def keyM (k:qaa) (d:Int):qaa:={ k with Action:=84,Quiet:=0,Id:=7,Number:=0,Place:=0,More:=d }
theorem zje (L:List Int) (h:L.length=22) (d:Int):ofL ((((((L.set 0 84).set 4 0).set 8 7).set 9 0).set 10 0).set 11 d)=keyM (ofL L) d:=by
 match L,h with
 | [a0,a1,a2,a3,a4,a5,a6,a7,a8,a9,b0,b1,b2,b3,b4,b5,b6,b7,b8,b9,c0,c1],_=>rfl
theorem q1e {c:UInt8}:∀{a:List UInt8},(∀b∈a,b≠c)->∀t,headB c (a++c::t)=a/\tailB c (a++c::t)=t
 | [],_,t=>by simp [headB,tailB]
 | x::a,h,t=>by
  have h1:=q1e (a:=a) (fun b hb=>h b (by simp [hb])) t;have hx:x≠c:=h x (by simp);refine ⟨?_,?_⟩
  ·have:headB c (x::(a++c::t))=x::headB c (a++c::t):=by simp [headB,hx]
   rw [List.cons_append,this,h1.1]
  ·have:tailB c (x::(a++c::t))=tailB c (a++c::t):=by simp [tailB,hx]
   rw [List.cons_append,this,h1.2]
theorem zh8 (k:List Int) (d:UInt8) (hd:d=48\/d=49):[[97,61,84],[113,61,48],[105,61,55],[73,61,48],[112,61,48],[109,61,d]].foldlM oneL k=some ((((((k.set 0 84).set 4 0).set 8 7).set 9 0).set 10 0).set 11 (((d-48).toNat:Nat):Int)):=by
 rcases hd with rfl | rfl<;>kernel_rfl
def digI (d:UInt8):Int:=(((d-48).toNat:Nat):Int)
theorem q99 {h:List UInt8} (hl:h.length<=200):∃o:Option qaa,∀d:UInt8,d=48\/d=49->qda (h++[44,97,61,84,44,113,61,48,44,105,61,55,44,73,61,48,44,112,61,48,44,109,61,d])=(match o with
  | some k=>(toL (keyM k (digI d)),0)
  | none=>(zeroL,3)):=by
 refine ⟨((qa7 h).foldlM oneL qef).map ofL,fun d hd=>?_⟩;have hs:qa7 (h++[44,97,61,84,44,113,61,48,44,105,61,55,44,73,61,48,44,112,61,48,44,109,61,d])=qa7 h++[[97,61,84],[113,61,48],[105,61,55],[73,61,48],[112,61,48],[109,61,d]]:=by
  rw [zcq h];rcases hd with rfl | rfl<;>rfl
 unfold qda;rw [if_neg (by rw [length_append];simp only [length_cons,length_nil];omega),if_neg (by simp),hs,List.foldlM_append];cases hk:(qa7 h).foldlM oneL qef with
 | none=>rfl
 | some k =>
  have hk22:=(q2y _ _ _ qz5 hk).2;show (match [[97,61,84],[113,61,48],[105,61,55],[73,61,48],[112,61,48],[109,61,d]].foldlM oneL k with
   | some k=>(k,(0:Int))
   | none=>(zeroL,3))=(toL (keyM (ofL k) (digI d)),0)
  rw [zh8 k d hd,<-zje k hk22];show (_,(0:Int))=_;rw [q8w (by simp [hk22])];rfl
theorem zgg {h:List UInt8} (hn:∀b∈h,b≠59) {d:UInt8} (hd:d=48\/d=49):∀b∈h++[44,97,61,84,44,113,61,48,44,105,61,55,44,73,61,48,44,112,61,48,44,109,61,d],b≠59:=by
 intro b hb;rcases List.mem_append.1 hb with h1 | h1
 ·exact hn b h1
 ·rcases hd with rfl | rfl
  ·exact (by decide:∀b∈([44,97,61,84,44,113,61,48,44,105,61,55,44,73,61,48,44,112,61,48,44,109,61,48]:List UInt8),b≠59) b h1
  ·exact (by decide:∀b∈([44,97,61,84,44,113,61,48,44,105,61,55,44,73,61,48,44,112,61,48,44,109,61,49]:List UInt8),b≠59) b h1
theorem ziu {h:List UInt8} (hl:h.length<=200) (hn:∀b∈h,b≠59):∃o:Option qaa,(∀k,o=some k->Wide (toL (keyM k 1)))/\∀(d:UInt8),d=48\/d=49->∀(E:KE) (ts:List UInt8) (P:Slc) (v:qaf),doK E (qeh h++d::59::ts) P v=(match o with
  | some k=>cmdK E (keyM k (digI d)) ts P v
  | none=>(E,kr0)):=by
 obtain ⟨o,ho⟩:=q99 hl;refine ⟨o,fun k hk=>?_,fun d hd E ts P v=>?_⟩
 ·have h1:=q4v (h++[44,97,61,84,44,113,61,48,44,105,61,55,44,73,61,48,44,112,61,48,44,109,61,49]);rw [ho 49 (.inr rfl),hk] at h1;exact h1
 have e:qeh h++d::59::ts=71::((h++[44,97,61,84,44,113,61,48,44,105,61,55,44,73,61,48,44,112,61,48,44,109,61,d])++59::ts):=by simp [qeh]
 obtain ⟨h1,h2⟩:=q1e (zgg hn hd) ts;rw [e];unfold doK;dsimp only;rw [h1,h2,if_neg (by simp),ho d hd];cases o with
 | none=>exact if_pos (by show (3:Int)≠0;omega)
 | some k=>exact (if_neg (by show ¬(0:Int)≠0;omega)).trans (by show cmdK E (ofL (toL (keyM k (digI d)))) ts P v=_;rw [zb0])
def keyD (d:Int):qaa:=⟨116,100,0,97,0,32,0,0,0,0,0,d,0,0,0,0,0,0,0,0,0,0⟩
def moreB (d:UInt8):List UInt8:=[71,109,61,d,59]
theorem zjx {d:UInt8} (hd:d=48\/d=49) (E:KE) (ts:List UInt8) (P:Slc) (v:qaf):doK E (moreB d++ts) P v=cmdK E (keyD (digI d)) ts P v:=by
 have e:moreB d++ts=71::([109,61,d]++59::ts):=rfl;have hn:∀b∈([109,61,d]:List UInt8),b≠59:=by rcases hd with rfl | rfl<;>decide
 obtain ⟨h1,h2⟩:=q1e hn ts;have hp:qda [109,61,d]=(toL (keyD (digI d)),0):=by rcases hd with rfl | rfl<;>kernel_rfl
 rw [e];unfold doK;dsimp only;rw [h1,h2,if_neg (by simp),hp];exact (if_neg (by show ¬(0:Int)≠0;omega)).trans (by show cmdK E (ofL (toL (keyD (digI d)))) ts P v=_;rw [zb0])
def cfgM (k:qaa) (d:Int):LdK:=cfgK (newE 8192) (keyM k d)
theorem q76 (k:qaa) (d:Int) (s:LdS) (ts:List UInt8):addL (cfgM k d) s ts=addL (cfgM k 0) s ts:=by
 have e:addC (cfgM k d)=addC (cfgM k 0):=by
  funext s c;rfl
 unfold addL;rw [e]
def stM (k:qaa) (pre:List UInt8):LdS:=addL (cfgM k 0) ld0 pre
def midE (k:qaa) (d:Int) (pre:List UInt8):KE:=⟨8192,⟨8192,((stM k pre).b.length:Int),0,0,[]⟩,[],some (cfgM k d,stM k pre),keyM k d⟩
theorem zb1 (k:qaa) (pre:List UInt8):4*(stM k pre).b.length<=3*pre.length/\potL (stM k pre)<=3*pre.length/\(stM k pre).over=false:=by
 have h:=q8t (cfgM k 0) pre ld0;have h0:potL ld0=0:=rfl;have h1:potL (stM k pre)<=3*pre.length:=by
  show potL (addL (cfgM k 0) ld0 pre)<=_;omega
 refine ⟨?_,h1,q68 _ pre ld0⟩;unfold potL at h1;omega
theorem q5f (k:qaa) (a b:List UInt8):addL (cfgM k 0) (stM k a) b=stM k (a++b):=(qva _ _ a b).symm
theorem zav (k:qaa) (d:Int) (pre ts:List UInt8) (h:(pre++ts).length<=1500):(addE (midE k d pre) (cfgM k d) (stM k pre) ts).reserve 0=(midE k d (pre++ts),0):=by
 have hl:=(zb1 k (pre++ts)).1;have e:addE (midE k d pre) (cfgM k d) (stM k pre) ts={ midE k d pre with ld:=some (cfgM k d,stM k (pre++ts)) }:=by
  unfold addE;rw [q76,q5f]
 rw [e];have hh:heldK { midE k d pre with ld:=some (cfgM k d,stM k (pre++ts)) }=(stM k (pre++ts)).b.length:=rfl;rcases q80 (E:={ midE k d pre with ld:=some (cfgM k d,stM k (pre++ts)) }) rfl (by show (0:Int)<=8192;omega) (by rw [hh];omega) with ⟨_,h2⟩ | ⟨h2,_⟩
 ·rw [h2];rfl
 ·rw [hh] at h2;have h2:(8192:Int)<_:=h2;omega
noncomputable def qg3 (k:qaa) (d:Int) (all:List UInt8) (m:Int) (P:Slc) (v:qaf):KE×KR :=
 if (stM k all).err≠0 then (({ midE k d all with S:=⟨8192,0,0,0,[]⟩,ld:=none }:KE),toldR (keyM k d) (((stM k all).err:Nat):Int) [])
 else if m=1 then (midE k d all,kr0) else endK (midE k d all) (cfgM k d) (stM k all) (keyM k d) P v
theorem q3u (k:qaa) (d:Int) (pre ts:List UInt8) (h:(pre++ts).length<=1500) {c:qaa} (hq:c.Quiet=0) (P:Slc) (v:qaf) :
  moreK (midE k d pre) (cfgM k d) (stM k pre) c ts P v=qg3 k d (pre++ts) c.More P v:=by
 unfold moreK qg3;rw [zav k d pre ts h,q76,q5f];have e:qet (midE k d pre).first c=keyM k d:=by
  unfold qet;rw [if_neg (fun hh=>hh hq)];rfl
 rw [e];split
 ·rfl
 ·rfl
theorem qim (k:qaa) (d:Int) (ts:List UInt8) (h:ts.length<=1500) (P:Slc) (v:qaf) :
  cmdK (newE 8192) (keyM k d) ts P v=if newP (keyM k 0) 8192≠0 then (newE 8192,toldR (keyM k d) ((newP (keyM k 0) 8192:Nat):Int) []) else qg3 k d ts d P v:=by
 have e1:cmdK (newE 8192) (keyM k d) ts P v=qjw (newE 8192) (keyM k d) ts P v:=by
  show goK (newE 8192) (keyM k d) ts P v=_;unfold goK;exact if_pos (.inr (.inl rfl))
 have e2:newP (keyM k d) (newE 8192).quota=newP (keyM k 0) 8192:=rfl;rw [e1];unfold qjw;rw [e2];split
 ·rfl
 ·have e3:begE (newE 8192) (keyM k d)=midE k d []:=rfl;rw [e3];exact q3u k d [] ts h rfl P v
theorem q79 (k:qaa) (d m:Int) (pre ts:List UInt8) (h:(pre++ts).length<=1500) (P:Slc) (v:qaf):cmdK (midE k d pre) (keyD m) ts P v=qg3 k d (pre++ts) m P v:=by
 have e:cmdK (midE k d pre) (keyD m) ts P v=moreK (midE k d pre) (cfgM k d) (stM k pre) (keyD m) ts P v:=by
  show (if (keyD m).Action≠100 then moreK (midE k d pre) (cfgM k d) (stM k pre) (keyD m) ts P v else goK (midE k d pre).idle (keyD m) ts P v)=_;exact if_pos (by show (116:Int)≠100;omega)
 rw [e];exact q3u k d pre ts h rfl P v
theorem q6e (m:Int) (ts:List UInt8) (P:Slc) (v:qaf):cmdK (newE 8192) (keyD m) ts P v=(newE 8192,kr0):=by
 have e1:cmdK (newE 8192) (keyD m) ts P v=qjw (newE 8192) (keyD m) ts P v:=by
  show goK (newE 8192) (keyD m) ts P v=_;unfold goK;exact if_pos (.inl rfl)
 rw [e1];unfold qjw;have e2:newP (keyD m) (newE 8192).quota=1:=by kernel_rfl
 rw [e2];exact (if_pos (by omega)).trans (by kernel_rfl)
structure Alk (x y:KE×KR):Prop where
 r:x.2=y.2
 is:(lookL x.1.S.L 7).isSome=(lookL y.1.S.L 7).isSome
 bs:bsOf x.1.S.L 7=bsOf y.1.S.L 7
 t:x.1.T.length=y.1.T.length
theorem q6a (k:qaa) (d:Int) (x:Int):(toldR (keyM k d) x []).reply≠[]:=by
 intro h;have e:(toldR (keyM k d) x []).reply=[27,95,71]++joinC (qia (toL (keyM k d)))++[59]++codW x++[27,92]:=rfl;rw [e] at h;simp at h
theorem zhi (k:qaa) (d e:Int) (E E':KE) (hS:E.S=E'.S) (hT:E.T=[]/\E'.T=[]) (hL:E.S.L=[]) (W H:Int) (bs:List UInt8) (P P':Slc) (v:qaf):Alk (keepK E (keyM k d) W H bs P v) (keepK E' (keyM k e) W H bs P' v):=by
 obtain ⟨q,S,T,ld,f⟩:=E;obtain ⟨q',S',T',ld',f'⟩:=E';dsimp only at hS hT hL;obtain ⟨hT1,hT2⟩:=hT;subst hS hT1 hT2;obtain ⟨qq,rs,us,ck,L⟩:=S;dsimp only at hL;subst hL;unfold keepK;have e1:qh8 (⟨qq,rs,us,ck,[]⟩:St) (keyM k d).Id (keyM k d).Number W H bs.length=qh8 (⟨qq,rs,us,ck,[]⟩:St) (keyM k e).Id (keyM k e).Number W H bs.length:=rfl;dsimp only;rw [e1];split
 ·exact ⟨rfl,rfl,rfl,rfl⟩
 ·have ha:∀x,¬(keyM k x).Action≠84:=fun x h=>h rfl;rw [if_neg (ha d),if_neg (ha e)];unfold qe7;obtain ⟨u,e2⟩:∃u:Int,∀(q:Int) (x:Int) (P:Slc) (ld:Option (LdK×LdS)) (f:qaa),(keptE ⟨q,⟨qq,rs,us,ck,[]⟩,[],ld,f⟩ (keyM k x) W H bs P)=⟨q,⟨qq,0,u,ck+1,[(7,⟨⟨0,⟨W,H,P⟩,ck+1,ck+1⟩,bs⟩)]⟩,[],ld,f⟩:=⟨us-((szOf [] 7:Nat):Int)+((bs.length:Nat):Int),fun _ _ _ _ _=>rfl⟩;have e3:∀(q:Int) (x:Int) (ld:Option (LdK×LdS)) (f:qaa),qds ⟨q,⟨qq,rs,us,ck,[]⟩,[],ld,f⟩ (keyM k x) bs=keyM k x:=fun _ _ _ _=>rfl;have e4:∀(q:Int) (x:Int) (ld:Option (LdK×LdS)) (f:qaa),idK ⟨q,⟨qq,rs,us,ck,[]⟩,[],ld,f⟩ (keyM k x) bs=7:=fun _ _ _ _=>rfl;have e5:qib (⟨qq,0,u,ck+1,[(7,⟨⟨0,⟨W,H,P⟩,ck+1,ck+1⟩,bs⟩)]⟩:St) (keyM k d) 7 v=qib (⟨qq,0,u,ck+1,[(7,⟨⟨0,⟨W,H,P'⟩,ck+1,ck+1⟩,bs⟩)]⟩:St) (keyM k e) 7 v:=rfl;rw [e2,e2,e3,e3,e4,e4];dsimp only;rw [e5];split
  ·split
   ·exact ⟨rfl,rfl,rfl,rfl⟩
   ·exact ⟨rfl,rfl,rfl,rfl⟩
  ·exact ⟨rfl,rfl,rfl,rfl⟩
theorem zjc (k:qaa) (d e:Int) (all:List UInt8) (P P':Slc) (v:qaf):Alk (endK (midE k d all) (cfgM k d) (stM k all) (keyM k d) P v) (endK (midE k e all) (cfgM k e) (stM k all) (keyM k e) P' v):=by
 have e1:resL (cfgM k d) (stM k all)=resL (cfgM k e) (stM k all):=rfl;unfold endK;rw [e1];have ha:∀x,(keyM k x).Action=84:=fun x=>rfl;rw [ha,ha];split
 ·exact ⟨rfl,rfl,rfl,rfl⟩
 ·exact zhi k d e (midE k d all).idle (midE k e all).idle rfl ⟨rfl,rfl⟩ rfl _ _ _ _ _ v
theorem q7e (k:qaa) (d e:Int) (all:List UInt8) (P P':Slc) (v:qaf):Alk (qg3 k d all 0 P v) (qg3 k e all 0 P' v):=by
 unfold qg3;split
 ·exact ⟨rfl,rfl,rfl,rfl⟩
 ·rw [if_neg (by omega),if_neg (by omega)];exact zjc k d e all P P' v
theorem q9v (k:qaa) (d:Int) (pre suf:List UInt8) (P P':Slc) (v:qaf):((stM k pre).err=0/\qg3 k d pre 1 P v=(midE k d pre,kr0))\/((qg3 k d pre 1 P v).2.reply≠[]/\Alk (qg3 k d pre 1 P v) (qg3 k 0 (pre++suf) 0 P' v)):=by
 by_cases h:(stM k pre).err=0
 ·left;refine ⟨h,?_⟩;unfold qg3;rw [if_neg (fun hh=>hh h),if_pos rfl]
 ·right;have e:stM k (pre++suf)=stM k pre:=by
   rw [<-q5f];exact q73 h suf
  unfold qg3;rw [if_pos h,e,if_pos h];exact ⟨q6a k d _,rfl,rfl,rfl,rfl⟩
noncomputable def sayF (o:Option qaa) (d:Int) (ts:List UInt8) (P:Slc) (v:qaf):KE×KR:=match o with
 | some k=>cmdK (newE 8192) (keyM k d) ts P v
 | none=>(newE 8192,kr0)
def MidP (o:Option qaa) (pre:List UInt8) (E:KE):Prop:=match o with
 | some k=>newP (keyM k 0) 8192=0/\(stM k pre).err=0/\E=midE k 1 pre
 | none=>E=newE 8192
theorem zdc (o:Option qaa) {text:List UInt8} (hl:text.length<=1500) (P P':Slc) (v:qaf):Alk (sayF o 0 text P v) (sayF o 0 text P' v):=by
 cases o with
 | none=>exact ⟨rfl,rfl,rfl,rfl⟩
 | some k =>
  unfold sayF;dsimp only;rw [qim k 0 text hl,qim k 0 text hl];split
  ·exact ⟨rfl,rfl,rfl,rfl⟩
  ·exact q7e k 0 0 text P P' v
theorem zhg (o:Option qaa) {pre suf:List UInt8} (hl:(pre++suf).length<=1500) (P P':Slc) (v:qaf):((sayF o 1 pre P v).2=kr0/\MidP o pre (sayF o 1 pre P v).1)\/((sayF o 1 pre P v).2.reply≠[]/\Alk (sayF o 1 pre P v) (sayF o 0 (pre++suf) P' v)):=by
 cases o with
 | none=>exact .inl ⟨rfl,rfl⟩
 | some k =>
  unfold sayF MidP;dsimp only;rw [qim k 1 pre (by rw [length_append] at hl;omega),qim k 0 (pre++suf) hl];split
  ·exact .inr ⟨q6a k 1 _,rfl,rfl,rfl,rfl⟩
  ·rename_i hn;rcases q9v k 1 pre suf P P' v with ⟨h1,h2⟩ | ⟨h1,h2⟩
   ·rw [h2];exact .inl ⟨rfl,by omega,h1,rfl⟩
   ·exact .inr ⟨h1,h2⟩
theorem zkj {o:Option qaa} {pre ts suf:List UInt8} {E:KE} (h:MidP o pre E) (hl:(pre++ts++suf).length<=1500) (P P':Slc) (v:qaf) :
  ((cmdK E (keyD 1) ts P v).2=kr0/\MidP o (pre++ts) (cmdK E (keyD 1) ts P v).1)\/((cmdK E (keyD 1) ts P v).2.reply≠[]/\Alk (cmdK E (keyD 1) ts P v) (sayF o 0 (pre++ts++suf) P' v)):=by
 cases o with
 | none =>
  have h:E=newE 8192:=h;subst h;rw [q6e];exact .inl ⟨rfl,rfl⟩
 | some k =>
  obtain ⟨h1,h2,rfl⟩:=h;rw [q79 k 1 1 pre ts (by rw [length_append] at hl;omega)];unfold sayF MidP;dsimp only;rw [qim k 0 _ hl,if_neg (fun hh=>hh h1)];rcases q9v k 1 (pre++ts) suf P P' v with ⟨h3,h4⟩ | ⟨h3,h4⟩
  ·rw [h4];exact .inl ⟨rfl,h1,h3,rfl⟩
  ·exact .inr ⟨h3,h4⟩
theorem zix {o:Option qaa} {pre ts:List UInt8} {E:KE} (h:MidP o pre E) (hl:(pre++ts).length<=1500) (P P':Slc) (v:qaf):Alk (cmdK E (keyD 0) ts P v) (sayF o 0 (pre++ts) P' v):=by
 cases o with
 | none =>
  have h:E=newE 8192:=h;subst h;rw [q6e];exact ⟨rfl,rfl,rfl,rfl⟩
 | some k =>
  obtain ⟨h1,h2,rfl⟩:=h;rw [q79 k 1 0 pre ts hl];unfold sayF;dsimp only;rw [qim k 0 _ hl,if_neg (fun hh=>hh h1)];exact q7e k 1 0 _ P P' v
end Go.Proofs.YtedcpbkcamckoaaGreatDoor
