import Derived.Test.YtedcpbkcamckoaaGreatDoorP2
import Derived.Test.YtedcpbkcamckoaaGreatDoorP1
import Derived.Test.YtedcpbkcamckoaaGreatDoorShA
set_option linter.unusedVariables false
namespace Go.Proofs.YtedcpbkcamckoaaGreatDoor
open Go.Vc Go.RowKit
set_option maxRecDepth 400000
open IntKind (i64)
open _root_.Nat (le_refl)
theorem zaw {y:Nat} {w:World} {K:Int->Int->World->Prop} (h0:257<=y) (h1:y<=285) (hK:K ((qfm y).1:Nat) ((qfm y).2:Nat) w):qmb y w K:=by
 refine qzb _ ?_;unfold qrw;unfold qfm at hK;refine cO (fun e=>?_) (fun e=>?_)
 ·have e:y=285:=by have:=eq_of_beq e;omega
  rw [if_pos e] at hK;exact hK
 ·have e:y≠285:=by have:=beq_eq_false_iff_ne.1 e;omega
  rw [if_neg e] at hK;have e1:i64.wrap ((y:Int)-257)=((y-257:Nat):Int):=by rw [w64i (by omega)];omega
  rw [e1];obtain ⟨k,hk⟩:∃k,y-257=k:=⟨_,rfl⟩;rw [hk] at hK ⊢;refine cO (fun c=>?_) (fun c=>?_)
  ·have c:=oTq c;rw [if_pos (by omega)] at hK;rw [w64i (by omega)];exact hK
  ·have c:=oFq c;rw [if_neg (by omega)] at hK;have d4:((k:Nat):Int).tdiv 4=((k/4:Nat):Int):=IntWalk.up_tdiv rfl rfl;have m4:((k:Nat):Int).tmod 4=((k%4:Nat):Int):=IntWalk.up_tmod rfl rfl;have en:i64.wrap (i64.wrap (((k:Nat):Int).tdiv 4)-1)=((k/4-1:Nat):Int):=by
    rw [d4,w64i (x:=((k/4:Nat):Int)) (by omega),w64i (by omega)];omega
   rw [en,m4,w64i (x:=4+((k%4:Nat):Int)) (by omega)];have hn:k/4-1<=6:=by omega
   have hp:2^(k/4-1)<=2^6:=Nat.pow_le_pow_right (by decide) hn;have e2:min (((k/4-1:Nat):Int)).toNat i64.bits=k/4-1:=by show min (k/4-1) 64=_;omega
   have e3:(4:Int)+((k%4:Nat):Int)=((4+k%4:Nat):Int):=by omega
   have hq:(4+k%4)*2^(k/4-1)<=7*2^6:=Nat.mul_le_mul (by omega) hp;have hpp:2^(k/4-1)*1<=2^6:=by omega
   rw [e2,e3,qbk,qax .i64 (by show _<2^63;omega),w64i (by omega)];refine ⟨by decide,by decide,by omega,?_⟩;have e5:(3:Int)+(((4+k%4)*2^(k/4-1):Nat):Int)=((3+(4+k%4)*2^(k/4-1):Nat):Int):=by omega
   rw [e5];exact hK
theorem q7n {z:Nat} {w:World} {K:Int->Int->World->Prop} (h1:z<=29) (hK:K ((qdh z).1:Nat) ((qdh z).2:Nat) w):qjs z w K:=by
 refine qwr _ ?_;unfold qoi;unfold qdh at hK;refine cO (fun c=>?_) (fun c=>?_)
 ·have c:=oTq c;rw [if_pos (by omega)] at hK;rw [w64i (by omega)];exact hK
 ·have c:=oFq c;rw [if_neg (by omega)] at hK;have d2:((z:Nat):Int).tdiv 2=((z/2:Nat):Int):=IntWalk.up_tdiv rfl rfl;have m2:((z:Nat):Int).tmod 2=((z%2:Nat):Int):=IntWalk.up_tmod rfl rfl;have en:i64.wrap (i64.wrap (((z:Nat):Int).tdiv 2)-1)=((z/2-1:Nat):Int):=by
   rw [d2,w64i (x:=((z/2:Nat):Int)) (by omega),w64i (by omega)];omega
  rw [en,m2,w64i (x:=2+((z%2:Nat):Int)) (by omega)];have hn:z/2-1<=13:=by omega
  have hp:2^(z/2-1)<=2^13:=Nat.pow_le_pow_right (by decide) hn;have e2:min (((z/2-1:Nat):Int)).toNat i64.bits=z/2-1:=by show min (z/2-1) 64=_;omega
  have e3:(2:Int)+((z%2:Nat):Int)=((2+z%2:Nat):Int):=by omega
  have hq:(2+z%2)*2^(z/2-1)<=3*2^13:=Nat.mul_le_mul (by omega) hp;rw [e2,e3,qbk,qax .i64 (by show _<2^63;omega),w64i (by omega)];refine ⟨by decide,by decide,by omega,?_⟩;have e5:(1:Int)+(((2+z%2)*2^(z/2-1):Nat):Int)=((1+(2+z%2)*2^(z/2-1):Nat):Int):=by omega
  rw [e5];exact hK
theorem zdt (y:Nat) (h0:257<=y) (h1:y<=285):(qfm y).1<=258/\(qfm y).2<=5:=by
 have:∀k:Fin 29,(qfm (257+k.val)).1<=258/\(qfm (257+k.val)).2<=5:=by decide +kernel
 have:=this ⟨y-257,by omega⟩
 rwa [show 257+(y-257)=y by omega] at this
theorem zau (z:Nat) (h1:z<=29):(qdh z).1<=24577/\1<=(qdh z).1/\(qdh z).2<=13:=by
 have:∀k:Fin 30,(qdh k.val).1<=24577/\1<=(qdh k.val).1/\(qdh k.val).2<=13:=by decide +kernel
 exact this ⟨z,by omega⟩
theorem qx3 (most far:Nat):∀(n:Nat) (h:List UInt8),copyN most far (n+1) h=match copyN most far n h with | none=>none | some h'=>if most<=h'.length then none else some (h'++[h'.getD (h'.length-far) 0])
 | 0,h=>by simp [copyN]
 | n+1,h=>by
  rw [copyN];split
  ·next hf=>rw [copyN,if_pos hf]
  ·next hf=>rw [qx3 most far n,copyN,if_neg hf]
theorem zd6 (most far:Nat) {n m:Nat} (hnm:n<=m) {h:List UInt8} (hn:copyN most far n h=none):copyN most far m h=none:=by
 induction m with
 | zero =>
      have:n=0:=by omega
      subst this;exact hn
 | succ m ih =>
  rcases Nat.lt_or_ge n (m+1) with hlt | hge
  ·rw [qx3,ih (by omega)]
  ·have:n=m+1:=by omega
   subst this;exact hn
section
variable {w w':World} {base:Nat} {F:DF} {S:DS} {r:Nat} {rs:Slc} {at_:Nat}
theorem rRead {f:TF} {bt:Nat} {ls:List UInt8} {K:Int->Int->World->Prop} (h:DR w base F S r rs at_) (ht:TabR w bt f ls)
  (hK1:∀y k w',readT ls S.wait at_=.sym y k->at_+k<=8*S.wait.length->y<ls.length->DR w' base F S r rs (at_+k)->Chg (fun k=>k=r) w w'->K y 0 w')
  (hK2:∀w',readT ls S.wait at_=.short->DR w' base F S r rs at_->Chg (drS F r) w w'->K 0 2 w') (hK3:∀w',readT ls S.wait at_=.form->DR w' base F S r rs at_->Chg (drS F r) w w'->K 0 3 w'):qd5 (some ⟨f.g,0,none⟩) (some ⟨r,0,none⟩) w K :=
 zes (f:=f) ht.blk ht.so.rd (fun k hk e=>by
  subst e;obtain ⟨cs,hcs⟩:=ht.so.blk_t hk;exact hcs.ne_t h.rdr.blk (by decide) rfl) ht.sm ht.small ht.room h.rdr (fun y k w' e hl hy hr hc=>hK1 y k w' e hl hy (h.moved hr hc) hc) (fun w' e hB=>hK2 w' e (h.ext hB) (Chg.of_ext hB)) (fun w' e hB=>hK3 w' e (h.ext hB) (Chg.of_ext hB))
theorem zf2 {K:Int->World->Prop} (h:DR w base F S r rs at_) (hm:S.c.mode=4) (hbase:base<=w.heap.size)
  (hK:∀e F' S' at' w',qo4 S at_ e S' at'->DR w' base F' S' r rs at'->F.to F' w.heap.size->Chg (drS F r) w w'->K e w'):qgs (some ⟨F.d,0,none⟩) (some ⟨r,0,none⟩) w K:=by
 refine qsa _ _ ?_;unfold qkr;simp only [onPtr_some];have hst:step1 S.most S.wait at_ S.c=ql2 S.most S.wait at_ S.c:=by rw [step1,if_neg (by omega),stepN,if_neg (by omega),if_neg (by omega),if_neg (by omega),if_neg (by omega)]
 obtain ⟨f1,f2,e1,e2,t1,t2⟩:=h.d.tabs hm;have hp6:(qa5 F S 0)[6]?=some (.pointer (some ⟨f1.g,0,none⟩)):=by
  show some (Value.pointer (tp F.sg))=_;rw [e1];rfl
 have hp7:(qa5 F S 0)[7]?=some (.pointer (some ⟨f2.g,0,none⟩)):=by
  show some (Value.pointer (tp F.ds))=_;rw [e2];rfl
 refine qa8 (x:=some ⟨f1.g,0,none⟩) (h.d.blk.cells 6 _ hp6) ?_;unfold ql2 at hst;have hN:∀k,k=r->k<w.heap.size->NoTab w k:=fun k e _=>by subst e;exact ⟨_,_,h.rdr.blk,by decide,by decide⟩
 have short:∀at' w',step1 S.most S.wait at_ S.c=.short->at_<=at'->DR w' base F S r rs at'->Chg (drS F r) w w'->K 2 w':=fun at' w' hs ha h' hc' =>
  hK 2 F S at' w' ⟨rfl,rfl,rfl,.inr (.inl ⟨rfl,0,at_,.refl _ _,hs,⟨[],by simp,by simp⟩,by simp,by omega,by simp,by omega,by omega⟩)⟩ h' (DF.to.refl _ _) hc'
 have bad:∀(n:Nat) F' S' at' w',step1 S.most S.wait at_ S.c=.err n->(n=3\/n=5)->S'.most=S.most->S'.given=S.given->S'.told=S.told->S'.took=S.took->S'.wait=S.wait->DR w' base F' S' r rs at'->F.to F' w.heap.size->Chg (drS F r) w w'->K n w':=fun n F' S' at' w' hs hn h1 h2 h3 h4 h5 h' hto hc' =>
  hK n F' S' at' w' ⟨h1,h2,h3,.inr (.inr ⟨n,rfl,hn,⟨S.c,at_,.refl _ _,hs⟩,h4,h5⟩)⟩ h' hto hc'
 refine rRead h t1 (fun y k w1 er hl1 hy h1 hc1=>?_) (fun w1 er h1 hc1=>?_) (fun w1 er h1 hc1=>?_)
 rotate_left
 ·rw [er] at hst;exact cT rfl (short _ w1 hst (le_refl _) h1 hc1)
 ·rw [er] at hst;exact cT rfl (bad 3 F S _ w1 hst (.inl rfl) rfl rfl rfl rfl rfl h1 (DF.to.refl _ _) hc1)
 rw [er] at hst;dsimp only at hst;have c01:Chg (drS F r) w w1:=drS_r hc1;have s01:=hc1.size;refine cF rfl ?_;refine cO (fun c=>?_) (fun c=>?_)
 ·have c:y=256:=by have:=eq_of_beq c;omega
  rw [if_pos c] at hst;refine next1 h1 fun w2 h2 hc2=>?_;exact hK 0 F { S with c:=S.c.behind } (at_+k) w2 ⟨rfl,rfl,rfl,.inl ⟨rfl,⟨_,_,hst,.refl _ _⟩,⟨[],by simp [Cfg.behind],by simp⟩,rfl,rfl,rfl⟩⟩ h2 (DF.to.refl _ _) (c01.trans hc2 fun i _ hi=>hi)
 have c:y≠256:=by have:=beq_eq_false_iff_ne.1 c;omega
 rw [if_neg c] at hst;refine cO (fun c2=>?_) (fun c2=>?_)
 ·have c2:=oTq c2;rw [if_pos (by omega)] at hst;exact bad 3 F S _ w1 hst (.inl rfl) rfl rfl rfl rfl rfl h1 (DF.to.refl _ _) c01
 have c2:=oFq c2;rw [if_neg (by omega)] at hst;refine cO (fun c3=>?_) (fun c3=>?_)
 ·have c3:=oTq c3;rw [if_pos (by omega)] at hst;have hv:IntKind.u8.wrap ((y:Nat):Int)=(((UInt8.ofNat y).toNat:Nat):Int):=by
   rw [qax .u8 (by show _<2^8;omega),UInt8.toNat_ofNat'];congr 1;omega
  refine put1 hv h1 (by omega) (fun w2 hfull h2 hc2=>?_) (fun F2 w2 hroom h2 hto2 hc2=>?_)
  ·rw [if_pos hfull] at hst;exact bad 5 F S _ w2 hst (.inr rfl) rfl rfl rfl rfl rfl h2 (DF.to.refl _ _) (c01.trans hc2 fun i _ hi=>hi)
  ·rw [if_neg (by omega)] at hst;exact hK 0 F2 { S with c:={ S.c with hist:=S.c.hist++[UInt8.ofNat y] },out:=S.out++[UInt8.ofNat y] } (at_+k) w2 ⟨rfl,rfl,rfl,.inl ⟨rfl,⟨_,_,hst,.refl _ _⟩,⟨_,rfl,rfl⟩,rfl,rfl,rfl⟩⟩ h2 ((DF.to.refl F w.heap.size).trans hto2 (by omega)) (c01.trans hc2 fun i _ hi=>hi)
 have c3:=oFq c3;rw [if_neg (by omega)] at hst;obtain ⟨lb1,lb2⟩:=zdt y (by omega) (by omega);refine zaw (by omega) (by omega) ?_;obtain ⟨b,n,hbn⟩:∃b n,qfm y=(b,n):=⟨_,_,rfl⟩;rw [hbn] at hst lb1 lb2 ⊢;dsimp only at hst lb1 lb2 ⊢;refine rBits h1 (fun m w5 e hm32 hl5 h5 hc5=>?_) (fun w5 hn h5 hc5=>?_)
 rotate_left
 ·rw [if_pos (by omega)] at hst;exact cT rfl (short _ w5 hst (by omega) h5 (c01.trans hc5 fun i _ hi=>hi))
 have:m=n:=by omega
 subst this;rw [if_neg (by omega)] at hst;refine cF rfl ?_;have c05:Chg (drS F r) w w5:=c01.trans hc5 fun i _ hi=>hi;have s05:=c05.size;refine qa8 (x:=some ⟨f2.g,0,none⟩) (h5.d.blk.cells 7 _ hp7) ?_;have hN1:∀(k:Nat),drS F r k->k<w.heap.size->NoTab w k:=fun k hk hlt=>by
  rcases hk with hk | hk
  ·exact h.d.noTab k hk
  ·exact hN k hk hlt
 have t2':=t2.chg c05 hN1;refine rRead h5 t2' (fun z j w6 er2 hl6 hz h6 hc6=>?_) (fun w6 er2 h6 hc6=>?_) (fun w6 er2 h6 hc6=>?_)
 rotate_left
 ·rw [er2] at hst;exact cT rfl (short _ w6 hst (by omega) h6 (c05.trans hc6 fun i _ hi=>hi))
 ·rw [er2] at hst;exact cT rfl (bad 3 F S _ w6 hst (.inl rfl) rfl rfl rfl rfl rfl h6 (DF.to.refl _ _) (c05.trans hc6 fun i _ hi=>hi))
 rw [er2] at hst;dsimp only at hst;refine cF rfl ?_;have c06:Chg (drS F r) w w6:=c05.trans hc6 fun i _ hi=>.inr hi;have s06:=c06.size;refine cO (fun c4=>?_) (fun c4=>?_)
 ·have c4:=oTq c4;rw [if_pos (by omega)] at hst;exact bad 3 F S _ w6 hst (.inl rfl) rfl rfl rfl rfl rfl h6 (DF.to.refl _ _) c06
 have c4:=oFq c4;rw [if_neg (by omega)] at hst;obtain ⟨db1,db2,db3⟩:=zau z (by omega);refine q7n (by omega) ?_;obtain ⟨b2,n2,hbn2⟩:∃b n,qdh z=(b,n):=⟨_,_,rfl⟩;rw [hbn2] at hst db1 db2 db3 ⊢;dsimp only at hst db1 db2 db3 ⊢;refine rBits h6 (fun m2 w8 e hm32' hl8 h8 hc8=>?_) (fun w8 hn h8 hc8=>?_)
 rotate_left
 ·rw [if_pos (by omega)] at hst;exact cT rfl (short _ w8 hst (by omega) h8 (c06.trans hc8 fun i _ hi=>hi))
 have:m2=n2:=by omega
 subst this;rw [if_neg (by omega)] at hst;refine cF rfl ?_;have c08:Chg (drS F r) w w8:=c06.trans hc8 fun i _ hi=>hi;have s08:=c08.size;have hx1:=qcx S.wait (at_+k) m;have hx2:=qcx S.wait (at_+k+m+j) m2;have hpm:2^m<=2^5:=Nat.pow_le_pow_right (by decide) lb2;have hpm2:2^m2<=2^13:=Nat.pow_le_pow_right (by decide) db3;obtain ⟨len,hlen⟩:∃x,b+peekN S.wait (at_+k) m=x:=⟨_,rfl⟩;obtain ⟨far,hfar⟩:∃x,b2+peekN S.wait (at_+k+m+j) m2=x:=⟨_,rfl⟩;rw [hlen,hfar] at hst;refine lI (x:=((S.c.hist.length:Nat):Int)) (h8.d.blk.cells 9 _ rfl) ?_;have ef:i64.wrap (((b2:Nat):Int)+i64.wrap ((peekN S.wait (at_+k+m+j) m2:Nat):Int))=((far:Nat):Int):=by
  rw [w64i (x:=((peekN S.wait (at_+k+m+j) m2:Nat):Int)) (by omega),w64i (by omega)];omega
 have el:i64.wrap (((b:Nat):Int)+i64.wrap ((peekN S.wait (at_+k) m:Nat):Int))=((len:Nat):Int):=by
  rw [w64i (x:=((peekN S.wait (at_+k) m:Nat):Int)) (by omega),w64i (by omega)];omega
 simp only [ef,el];have emin:(if (32768:Int)<((S.c.hist.length:Nat):Int) then (32768:Int) else ((S.c.hist.length:Nat):Int))=((min S.c.hist.length 32768:Nat):Int):=by split<;>omega
 rw [emin];refine cO (fun c5=>?_) (fun c5=>?_)
 ·have c5:=oTq c5;rw [if_pos (by omega)] at hst;exact bad 3 F S _ w8 hst (.inl rfl) rfl rfl rfl rfl rfl h8 (DF.to.refl _ _) c08
 have c5:=oFq c5;rw [if_neg (by omega)] at hst;have hfar1:1<=far:=by omega
 have hmo:=h.d.mo;refine lpR (fun (s:Int×Unit) w9=>∃(i:Nat) (F9:DF) (hh x:List UInt8),s.1=i/\i<=len/\copyN S.most far i S.c.hist=some hh/\hh=S.c.hist++x/\DR w9 base F9 { S with c:={ S.c with hist:=hh },out:=S.out++x } r rs (at_+k+m+j+m2)/\F9.d=F.d/\F.to F9 w.heap.size/\Chg (drS F r) w w9) (fun s=>len-s.1.toNat)
  ⟨0,F,S.c.hist,[],rfl,by omega,rfl,by simp,by rw [List.append_nil];exact h8,rfl,DF.to.refl _ _,c08⟩ ?_
 rintro ⟨i,_⟩ w9 ⟨i,F9,hh,x,rfl,hi,hcp,hhx,h9,ed9,hto9,hc9⟩ I hI;dsimp only at *;have s09:=hc9.size;refine cO (fun c6=>?_) (fun c6=>?_)
 ·have c6:=oTq c6;have h9d:=h9.drew;rw [<-ed9];have hlh:S.c.hist.length<=hh.length:=by rw [hhx,List.length_append];omega
  have hhm:=h9.d.hm;dsimp only at hhm;refine lSl (x:=F9.ring) (h9d.d.blk.cells 8 _ rfl) ?_;refine lI (x:=((hh.length:Nat):Int)) (h9d.d.blk.cells 9 _ rfl) ⟨by decide,?_⟩;have e9:(i64.wrap (((hh.length:Nat):Int)-((far:Nat):Int))).tmod 32768=(((hh.length-far)%32768:Nat):Int):=by
   rw [w64i (by omega),show ((hh.length:Nat):Int)-((far:Nat):Int)=((hh.length-far:Nat):Int) by omega];exact IntWalk.up_tmod rfl rfl
  rw [e9];have hrl:=qrg hh;have hget:=zb9 hh (hh.length-far) (by omega) (by omega);have hidx:(hh.length-far)%32768<(qd0 hh).length:=by
   rw [List.getElem?_eq_getElem (by omega:hh.length-far<hh.length)] at hget;exact (List.getElem?_eq_some_iff.1 hget).1
  refine h9d.d.ring.rd.ix rfl (by omega) (by show _<(((qd0 hh).length:Nat):Int);omega) fun hc=>?_;have hval:∀q,(qd0 hh)[(((hh.length-far)%32768:Nat):Int).toNat]'q=hh.getD (hh.length-far) 0:=fun q=>by
   have h2:=List.getElem?_eq_getElem (l:=qd0 hh) (i:=(hh.length-far)%32768) hidx;rw [hget] at h2;rw [List.getD_eq_getElem?_getD,h2];rfl
  have hc:qaw w9.drew (F9.ring.at_ qae.k (((hh.length-far)%32768:Nat):Int).toNat) (qae.cells ((qd0 hh)[(((hh.length-far)%32768:Nat):Int).toNat]'(by exact hidx))):=hc;rw [hval] at hc;refine ldB8 (b:=hh.getD (hh.length-far) 0) hc ?_;have hsucc:=qx3 S.most far i S.c.hist;rw [hcp] at hsucc;dsimp only at hsucc;have sub:∀{w2 w3:World},Chg (drS F r) w w2->Chg (drS F9 r) w2 w3->Chg (drS F r) w w3:=fun h2 h3=>h2.trans h3 fun i hi hs=>by
   rcases hs with hs | hs
   ·rcases hto9.old i hs with e | e
    ·exact .inl e
    ·omega
   ·exact .inr hs
  have hc9d:Chg (drS F r) w w9.drew:=hc9.trans (Chg.of_ext (S:=drS F r) ((Below.refl _ w9).drew)) fun i _ hi=>hi;refine put1 (c:=hh.getD (hh.length-far) 0) rfl h9d (by show base<=w9.heap.size;omega) (fun w10 hfull h10 hc10=>?_) (fun F10 w10 hroom h10 hto10 hc10=>?_)
  ·dsimp only at hfull;rw [if_pos hfull] at hsucc;rw [zd6 S.most far (by omega:i+1<=len) hsucc] at hst;exact cT rfl (bad 5 F9 { S with c:={ S.c with hist:=hh },out:=S.out++x } _ w10 hst (.inr rfl) rfl rfl rfl rfl rfl h10 hto9 (sub hc9d hc10))
  ·dsimp only at hroom;rw [if_neg (by omega)] at hsucc;refine cF rfl ?_;rw [w64i (by omega)];have ed:F10.d=F9.d:=hto10.d;refine hI _ _ ⟨i+1,F10,hh++[hh.getD (hh.length-far) 0],x++[hh.getD (hh.length-far) 0],by simp,by omega,hsucc,by rw [hhx,List.append_assoc],?_,ed.trans ed9,hto9.trans hto10 (by show w.heap.size<=w9.heap.size;omega),sub hc9d hc10⟩ (by simp;omega);rw [<-List.append_assoc];exact h10
 ·have c6:=oFq c6;have:i=len:=by omega
  subst this;rw [hcp] at hst;exact hK 0 F9 { S with c:={ S.c with hist:=hh },out:=S.out++x } (at_+k+m+j+m2) w9 ⟨rfl,rfl,rfl,.inl ⟨rfl,⟨_,_,hst,.refl _ _⟩,⟨x,hhx,rfl⟩,rfl,rfl,rfl⟩⟩ h9 hto9 hc9
end
theorem q1o {s:Slc} {ls:List UInt8} {w:World} {K:Option Addr->Int->World->Prop} (h:Rd qae w s ls)
  (hK1:qjh ls->∀e w',e≠0->Below w.heap.size w w'->K none e w')
  (hK2:¬qjh ls->∀f w',TabM w' w.heap.size f ls->Below w.heap.size w w'->K (some ⟨f.g,0,none⟩) 0 w'):qgb s w K :=
 q29 h (fun hb w' hB=>hK1 (.inl hb) _ w' (by decide) hB) (fun _ hb w' hB=>hK1 (.inr hb) _ w' (by decide) hB) (fun h1 h2 f w' ht hB=>hK2 (fun hb=>by rcases hb with hb | hb;exact h1 hb;exact h2 hb) f w' ht hB)
section
variable {w w':World} {base:Nat} {F:DF} {S:DS} {r:Nat} {rs:Slc} {at_:Nat}
theorem zfw {f:TF} {ls:List UInt8} {nn b1:Nat} {K:Slc->Int->World->Prop} (h:DR w base F S r rs at_) (ht:TabR w b1 f ls) (hnn:nn<=1000) (hls:ls.length<=19)
  (hK1:∀s l a w',qei ls S.wait nn 400 at_ []=.lens l a->l.length=nn->Go.Vc.Own qae w' w.heap.size s l->at_<=a->DR w' base F S r rs a->Chg (drS F r) w w'->K s 0 w')
  (hK2:∀a w',qei ls S.wait nn 400 at_ []=.short->at_<=a->DR w' base F S r rs a->Chg (drS F r) w w'->K ⟨none,0,0⟩ 2 w')
  (hK3:∀a w',qei ls S.wait nn 400 at_ []=.form->DR w' base F S r rs a->Chg (drS F r) w w'->K ⟨none,0,0⟩ 3 w') (hn4:nn<400):qpk (some ⟨r,0,none⟩) (some ⟨f.g,0,none⟩) nn w K:=by
 refine q11 _ _ _ ?_;unfold qui;have hG0:qei ls S.wait nn 400 at_ []=qei ls S.wait nn 400 at_ []:=rfl
 generalize hG:qei ls S.wait nn 400 at_ []=G at hK1 hK2 hK3
 have hG0:G=qei ls S.wait nn 400 at_ []:=hG.symm
 clear hG;refine qg4 (fun m (s:Slc×Unit) w1=>∃(l:List UInt8) (a1 f1:Nat),m=nn-l.length/\l.length<=nn/\nn-l.length<f1/\Go.Vc.Own qae w1 w.heap.size s.1 l/\at_<=a1/\DR w1 base F S r rs a1/\TabR w1 b1 f ls/\G=qei ls S.wait nn f1 a1 l/\Chg (drS F r) w w1)
  nn ⟨[],at_,400,rfl,Nat.zero_le _,by simpa using hn4,Go.Vc.Own.nil _ _ _,le_refl _,h,ht,hG0,Chg.refl _ _⟩ ?_
 rintro m ⟨s,_⟩ w1 ⟨l,a1,f1,rfl,hll,hf1,ho1,ha1,h1,ht1,hgo,hc1⟩ I hI;dsimp only at *;obtain ⟨f1,rfl⟩:∃k,f1=k+1:=⟨f1-1,by omega⟩;rw [qei] at hgo;have hsn:s.n=l.length:=ho1.rd.n;have hs1:=hc1.size;rw [hsn];refine cO (fun hlt=>?_) (fun hge=>?_)
 ·have hlt:=oTq hlt;rw [if_neg (by omega)] at hgo;have fr:∀k,s.blk=some k->k≠r:=fun k hk e=>by
   subst e;have:=(ho1.lt _ hk).1;have:=h.rdr.blk.lt;omega
  have fd:∀k,s.blk=some k->¬drS F r k:=fun k hk hs=>by
   have:=(ho1.lt _ hk).1;rcases hs with hs | hs
   ·have:=(h.d.below k hs).2;omega
   ·exact fr k hk hs
  refine rRead h1 ht1 (fun y k w2 er hl2 hy h2 hc2=>?_) (fun w2 er h2 hc2=>?_) (fun w2 er h2 hc2=>?_)
  rotate_left
  ·rw [er] at hgo;exact cT rfl (hK2 a1 w2 hgo ha1 h2 (hc1.trans hc2 fun i _ hi=>hi))
  ·rw [er] at hgo;exact cT rfl (hK3 a1 w2 hgo h2 (hc1.trans hc2 fun i _ hi=>hi))
  rw [er] at hgo;dsimp only at hgo;refine cF rfl ?_;have c02:Chg (drS F r) w w2:=hc1.trans hc2 fun i _ hi=>.inr hi;have ho2:=ho1.chg hc2 fun k hk e=>fr k hk e;have ht2:=ht1.chg hc2 fun k e _=>by subst e;exact ⟨_,_,h1.rdr.blk,by decide,by decide⟩
  have s02:=c02.size;refine jpO fun J2 hJ2=>?_;have main:∀(b m:Nat) (v:UInt8),(if y=18 then ((11,7,0):Nat×Nat×UInt8) else if y=17 then (3,3,0) else if y=16 then (3,2,l.getLastD 0) else (1,0,UInt8.ofNat y))=(b,m,v)->¬(y=16/\l=[])->m<=7->1<=b->b<=11->J2 ((b:Int),(m:Int),((v.toNat:Nat):Int),()) w2:=fun b m v hbm hn16 hm7 hb1 hb11=>hJ2 _ _ (by
   clear hJ2;rw [if_neg hn16] at hgo;simp only [hbm] at hgo;dsimp only;refine rBits h2 (fun m' w4 e _ hl4 h4 hc4=>?_) (fun w4 hn h4 hc4=>?_)
   rotate_left
   ·rw [if_pos (by omega)] at hgo;exact cT rfl (hK2 _ w4 hgo (by omega) h4 (c02.trans hc4 fun i _ hi=>hi))
   have:m'=m:=by omega
   subst this;rw [if_neg (by omega)] at hgo;refine cF rfl ?_;have hp:=qcx S.wait (a1+k) m';have hpm:2^m'<=2^7:=Nat.pow_le_pow_right (by decide) hm7;have c04:Chg (drS F r) w w4:=c02.trans hc4 fun i _ hi=>hi;have s04:=c04.size;obtain ⟨p,hpp⟩:∃p,peekN S.wait (a1+k) m'=p:=⟨_,rfl⟩;rw [hpp] at hgo hp ⊢;rw [w64i (x:=((p:Nat):Int)) (by omega),w64i (x:=((l.length:Nat):Int)+(b:Int)) (by omega),w64i (x:=((l.length:Nat):Int)+(b:Int)+(p:Int)) (by omega),w64i (x:=(b:Int)+(p:Int)) (by omega)];refine cO (fun hbig=>?_) (fun hfit=>?_)
   ·have hbig:=oTq hbig;rw [if_pos (by omega)] at hgo;exact hK3 _ w4 hgo h4 c04
   have hfit:=oFq hfit;rw [if_neg (by omega)] at hgo;have ho4:=ho2.chg hc4 fd;have ht4:=ht2.chg hc4 fun k hk _=>by
    rcases hk with hk | hk
    ·exact h2.d.noTab k hk
    ·subst hk;exact ⟨_,_,h2.rdr.blk,by decide,by decide⟩
   refine lpR (fun (s:Slc×Int×Unit) w5=>∃i:Nat,s.2.1=i/\i<=b+p/\Go.Vc.Own qae w5 w.heap.size s.1 (l++List.replicate i v)/\DR w5 base F S r rs (a1+k+m')/\TabR w5 b1 f ls/\Chg (drS F r) w w5) (fun s=>b+p-s.2.1.toNat) ⟨0,rfl,Nat.zero_le _,by simpa using ho4,h4,ht4,c04⟩ ?_;rintro ⟨q,i,_⟩ w5 ⟨i,rfl,hi,ho5,h5,ht5,c05⟩ I3 hI3;dsimp only at *;have s05:=c05.size;refine cO (fun hlt2=>?_) (fun hge2=>?_)
   ·have hlt2:=oTq hlt2;refine apB1 (c:=v) rfl ho5 s05 (by simp;omega) fun q2 w6 ho6 hc6 hq6=>?_;rw [w64i (by omega)];have fresh:∀k,q.blk=some k->w.heap.size<=k:=fun k hk=>(ho5.lt k hk).1;have ndr:∀k,drS F r k->q.blk≠some k:=fun k hk e=>by
     have:=fresh k e;rcases hk with hk | hk
     ·have:=(h.d.below k hk).2;omega
     ·subst hk;have:=h.rdr.blk.lt;omega
    have h6:DR w6 base F S r rs (a1+k+m'):=by
     refine ⟨h5.d.chg hc6 (fun k hk e=>?_) fun k e _=>?_,h5.rdr.chg hc6 (ndr _ (.inr rfl)) fun k hk e=>?_,h5.sep,h5.rb,h5.wr,fun k hk=>by have:=h5.wl k hk;have:=hc6.size;omega,fun k hk=>by have:=h5.sl k hk;have:=hc6.size;omega⟩
     ·rcases hk with hk | hk
      ·exact ndr k (.inl hk) e
      ·have:=fresh k e;have:=h.wl k hk;omega
     ·obtain ⟨cs,hcs⟩:=ho5.blk_t e;exact ⟨_,_,hcs,by decide,by decide⟩
     ·have:=fresh k e;have:=h.sl k hk;omega
    refine hI3 _ _ ⟨i+1,by simp,by omega,?_,h6,ht5.chg hc6 fun k e _=>?_,c05.trans hc6 fun k hk e=>by have:=fresh k e;omega⟩ (by simp;omega)
    ·rw [List.replicate_succ',<-List.append_assoc];exact ho6
    ·obtain ⟨cs,hcs⟩:=ho5.blk_t e;exact ⟨_,_,hcs,by decide,by decide⟩
   ·have hge2:=oFq hge2;have:i=b+p:=by omega
    subst this;refine hI _ _ w5 ⟨l++List.replicate (b+p) v,a1+k+m',f1,rfl,by simp;omega,by simp;omega,ho5,by omega,h5,ht5,hgo,c05⟩ (by simp;omega))
  refine cO (fun c=>?_) (fun c=>?_)
  ·have c:y=18:=by have:=eq_of_beq c;omega
   exact main 11 7 0 (by rw [if_pos c]) (by omega) (by decide) (by decide) (by decide)
  have c:y≠18:=by have:=beq_eq_false_iff_ne.1 c;omega
  refine cO (fun c2=>?_) (fun c2=>?_)
  ·have c2:y=17:=by have:=eq_of_beq c2;omega
   exact main 3 3 0 (by rw [if_neg c,if_pos c2]) (by omega) (by decide) (by decide) (by decide)
  have c2:y≠17:=by have:=beq_eq_false_iff_ne.1 c2;omega
  refine cO (fun c3=>?_) (fun c3=>?_)
  ·have c3:y=16:=by have:=eq_of_beq c3;omega
   refine cO (fun c4=>?_) (fun c4=>?_)
   ·have c4:l.length=0:=by have:=eq_of_beq c4;omega
    rw [if_pos ⟨c3,List.eq_nil_of_length_eq_zero c4⟩] at hgo;exact hK3 _ w2 hgo h2 c02
   ·have c4:l.length≠0:=by have:=beq_eq_false_iff_ne.1 c4;omega
    rw [w64i (by omega)];have ei:((l.length:Nat):Int)-1=((l.length-1:Nat):Int):=by omega
    rw [ei];refine ho2.rd.ix rfl (by omega) (by omega) fun hc=>?_;have hlast:∀q,l[((l.length-1:Nat):Int).toNat]'q=l.getLastD 0:=fun q=>by
     rw [List.getLastD_eq_getLast?,List.getLast?_eq_getElem?,List.getElem?_eq_getElem (by omega:l.length-1<l.length)];rfl
    rw [hlast] at hc;refine ldB8 (b:=l.getLastD 0) hc ?_;exact main 3 2 (l.getLastD 0) (by rw [if_neg c,if_neg c2,if_pos c3]) (by rintro ⟨_,e⟩;exact c4 (by rw [e];rfl)) (by decide) (by decide) (by decide)
  ·have c3:y≠16:=by have:=beq_eq_false_iff_ne.1 c3;omega
   have hv:IntKind.u8.wrap ((y:Nat):Int)=(((UInt8.ofNat y).toNat:Nat):Int):=by
    rw [qax .u8 (by show _<2^8;omega),UInt8.toNat_ofNat'];congr 1;omega
   rw [hv];exact main 1 0 (UInt8.ofNat y) (by rw [if_neg c,if_neg c2,if_neg c3]) (by omega) (by decide) (by decide) (by decide)
 ·have hge:=oFq hge;rw [if_pos (by omega)] at hgo;exact hK1 s l a1 w1 hgo (by omega) ho1 ha1 h1 hc1
end
theorem q05 (bs:List UInt8) (a i:Nat):(clens bs a i).length=19:=by
 induction i with
 | zero=>simp [clens]
 | succ i ih=>rw [clens,List.length_set,ih]
theorem zfq (i:Nat) (h:i<19):qvx.getD i 0<19:=by
 have:∀k:Fin 19,qvx.getD k.val 0<19:=by decide
 exact this ⟨i,h⟩
section
variable {w w':World} {base:Nat} {F:DF} {S:DS} {r:Nat} {rs:Slc} {at_:Nat}
theorem q78 {K:Int->World->Prop} (h:DR w base F S r rs at_) (hm:S.c.mode=3) (hbase:base<=w.heap.size)
  (hK:∀e F' S' at' w',qo4 S at_ e S' at'->DR w' base F' S' r rs at'->F.to F' w.heap.size->Chg (drS F r) w w'->K e w'):qfg (some ⟨F.d,0,none⟩) (some ⟨r,0,none⟩) w K:=by
 refine qpi _ _ ?_;unfold qh7;have hst:step1 S.most S.wait at_ S.c=qo7 S.wait at_ S.c:=by rw [step1,if_neg (by omega),stepN,if_neg (by omega),if_neg (by omega),if_neg (by omega),if_pos hm]
 unfold qo7 at hst;have short:∀at' w',step1 S.most S.wait at_ S.c=.short->at_<=at'->DR w' base F S r rs at'->Chg (drS F r) w w'->K 2 w':=fun at' w' hs ha h' hc' =>
  hK 2 F S at' w' ⟨rfl,rfl,rfl,.inr (.inl ⟨rfl,0,at_,.refl _ _,hs,⟨[],by simp,by simp⟩,by simp,by omega,by simp,by omega,by omega⟩)⟩ h' (DF.to.refl _ _) hc'
 have bad:∀at' w',step1 S.most S.wait at_ S.c=.err 3->DR w' base F S r rs at'->Chg (drS F r) w w'->K 3 w':=fun at' w' hs h' hc' =>
  hK 3 F S at' w' ⟨rfl,rfl,rfl,.inr (.inr ⟨3,rfl,.inl rfl,⟨S.c,at_,.refl _ _,hs⟩,rfl,rfl⟩)⟩ h' (DF.to.refl _ _) hc'
 have any:∀{n:Nat} {at1:Nat} {w1:World} {K':Int->Bool->World->Prop},n<=32->DR w1 base F S r rs at1->(∀(ok:Bool) v at2 w2,(ok=true↔at1+n<=8*S.wait.length)->at1<=at2->(ok=true->at2=at1+n/\v=((peekN S.wait at1 n:Nat):Int))->DR w2 base F S r rs at2->Chg (drS F r) w1 w2->K' v ok w2)->qa6 (some ⟨r,0,none⟩) n w1 K':=by
  intro n at1 w1 K' hn h1 hK';refine rBits h1 (fun m w2 e _ hl h2 hc=>?_) (fun w2 hno h2 hc=>?_)
  ·have:m=n:=by omega
   subst this;exact hK' true _ _ w2 ⟨fun _=>hl,fun _=>rfl⟩ (by omega) (fun _=>⟨rfl,rfl⟩) h2 hc
  ·exact hK' false 0 at1 w2 ⟨fun e=>(by cases e),fun e=>by omega⟩ (le_refl _) (fun e=>(by cases e)) h2 hc
 refine any (n:=5) (by decide) h fun ok1 v1 a1 w1 o1 l1 g1 h1 c1=>?_;refine any (n:=5) (by decide) h1 fun ok2 v2 a2 w2 o2 l2 g2 h2 c2=>?_;refine any (n:=4) (by decide) h2 fun ok3 v3 a3 w3 o3 l3 g3 h3 c3=>?_;have c03:Chg (drS F r) w w3:=(c1.trans c2 fun i _ hi=>hi).trans c3 fun i _ hi=>hi;have s03:=c03.size;refine jpO fun J1 hJ1=>?_;refine jpO fun J4 hJ4=>?_;have no:8*S.wait.length<at_+14->J4 (true,()) w3:=fun hl=>hJ4 _ _ (by
  rw [if_pos hl] at hst;exact cT rfl (short a3 w3 hst (by omega) h3 c03))
 have yes:ok1=true->ok2=true->ok3=true->J4 (false,()) w3:=fun e1 e2 e3=>hJ4 _ _ (by
  obtain ⟨p1,rfl⟩:=g1 e1;obtain ⟨p2,rfl⟩:=g2 e2;obtain ⟨p3,rfl⟩:=g3 e3;subst p1 p2 p3;have hl:=o3.1 e3;rw [show at_+5+5=at_+10 by omega] at *;rw [show at_+10+4=at_+14 by omega] at *;rw [if_neg (by omega)] at hst;dsimp only at hst;refine cF rfl ?_;have pa:=qcx S.wait at_ 5
  have pb:=qcx S.wait (at_+5) 5;have pd:=qcx S.wait (at_+10) 4;obtain ⟨a,ea⟩:∃a,peekN S.wait at_ 5=a:=⟨_,rfl⟩
  obtain ⟨b,eb⟩:∃a,peekN S.wait (at_+5) 5=a:=⟨_,rfl⟩;obtain ⟨d,ed⟩:∃a,peekN S.wait (at_+10) 4=a:=⟨_,rfl⟩;rw [ea] at hst pa hJ1 ⊢;rw [eb] at hst pb hJ1 ⊢;rw [ed] at hst pd hJ1;refine cO (fun q=>?_) (fun q=>?_)
  ·have q:=oTq q;rw [if_pos (by omega)] at hst;exact bad _ w3 hst h3 c03
  have q:=oFq q;refine cO (fun q2=>?_) (fun q2=>?_)
  ·have q2:=oTq q2;rw [if_pos (by omega)] at hst;exact bad _ w3 hst h3 c03
  have q2:=oFq q2;rw [if_neg (by omega)] at hst;refine hJ1 _ _ ?_;clear hJ1 hJ4;refine qcu (t:=qz0) rfl fun w6 hb6 hB6 hs6=>?_;have h6:=h3.ext hB6;refine qpl qau (x0:=(0:UInt8)) rfl (n:=19) rfl rfl (by rw [qc0];omega) (by simp only [maxLen];omega) fun w7 ho7 hB7=>?_;have h7:=h6.ext hB7;have hb7:=hb6.ext hB7;have cd:i64.wrap (i64.wrap ((d:Nat):Int)+4)=((d+4:Nat):Int):=by
   rw [w64i (x:=((d:Nat):Int)) (by omega),w64i (by omega)];omega
  rw [cd];have hcn:(⟨some ⟨w6.heap.size,0,none⟩,19,19⟩:Slc).blk=some w6.heap.size:=rfl;have c07:Chg (drS F r) w w7:=(c03.trans (Chg.of_ext (S:=drS F r) hB6) fun i _ hi=>hi).trans (Chg.of_ext (S:=drS F r) hB7) fun i _ hi=>hi;have s06:w3.heap.size<=w6.heap.size:=hB6.size;have fr6:∀k,drS F r k->k<w6.heap.size:=fun k hk=>by
   rcases hk with hk | hk
   ·have:=(h.d.below k hk).2;omega
   ·subst hk;have:=h.rdr.blk.lt;omega
  obtain ⟨cl,hcl⟩:∃s:Slc,s=⟨some ⟨w6.heap.size,0,none⟩,19,19⟩:=⟨_,rfl⟩;rw [<-hcl] at ho7 hcn ⊢;refine lpR (fun (s:Int×Unit) w8=>∃i:Nat,s.1=i/\i<=d+4/\at_+14+3*i<=8*S.wait.length/\Go.Vc.Own qae w8 w6.heap.size cl (clens S.wait (at_+14) i)/\DR w8 base F S r rs (at_+14+3*i)/\Blk w8 w3.heap.size qz0 [.int .i64 16,.int .i64 17,.int .i64 18,.int .i64 0,.int .i64 8,.int .i64 7,.int .i64 9,.int .i64 6,.int .i64 10,.int .i64 5,.int .i64 11,.int .i64 4,.int .i64 12,.int .i64 3,.int .i64 13,.int .i64 2,.int .i64 14,.int .i64 1,.int .i64 15]/\Chg (drS F r) w w8) (fun s=>d+4-s.1.toNat)
   ⟨0,rfl,by omega,by omega,ho7,h7,hb7,c07⟩ ?_
  rintro ⟨i,_⟩ w8 ⟨i,rfl,hi,hil,ho8,h8,hb8,c08⟩ I hI;dsimp only at *;have s08:=c08.size;refine cO (fun hlt=>?_) (fun hge=>?_)
  ·have hlt:=oTq hlt;refine rBits h8 (fun m w9 e _ hl9 h9 hc9=>?_) (fun w9 hno h9 hc9=>?_)
   rotate_left
   ·rw [if_pos (by omega)] at hst;exact cT rfl (short _ w9 hst (by omega) h9 (c08.trans hc9 fun i _ hi=>hi))
   have:m=3:=by omega
   subst this;refine cF rfl ?_;have ho9:=ho8.chg hc9 fun k hk hs=>by rw [hcn] at hk;cases hk;have:=fr6 _ hs;omega
   have hb9:=hb8.chg hc9 fun hs=>by
    rcases hs with (hs | hs | hs) | hs
    ·exact hb8.ne_t h8.d.blk (by decide) hs
    ·obtain ⟨cs,hcs⟩:=h8.d.ring.blk_t hs;exact hb8.ne_t hcs (by decide) rfl
    ·obtain ⟨cs,hcs⟩:=h8.d.out.blk_t hs;exact hb8.ne_t hcs (by decide) rfl
    ·exact hb8.ne_t h8.rdr.blk (by decide) hs
   have hi19:i<19:=by omega
   refine ⟨⟨by omega,by omega⟩,?_⟩;have hov:∀(j:Nat),j<19->([.int .i64 16,.int .i64 17,.int .i64 18,.int .i64 0,.int .i64 8,.int .i64 7,.int .i64 9,.int .i64 6,.int .i64 10,.int .i64 5,.int .i64 11,.int .i64 4,.int .i64 12,.int .i64 3,.int .i64 13,.int .i64 2,.int .i64 14,.int .i64 1,.int .i64 15]:List Value)[j]?=some (.int .i64 ((qvx.getD j 0:Nat):Int)):=fun j hj=>by
    match j,hj with
    | 0,_ | 1,_ | 2,_ | 3,_ | 4,_ | 5,_ | 6,_ | 7,_ | 8,_ | 9,_ | 10,_ | 11,_ | 12,_ | 13,_ | 14,_ | 15,_ | 16,_ | 17,_ | 18,_=>rfl
    | j+19,hj=>omega
   refine lI (x:=((qvx.getD i 0:Nat):Int)) (by simpa using hb9.cells i _ (hov i hi19)) ?_;have hol:=zfq i hi19;have hcl9:=q05 S.wait (at_+14) i;refine ho9.rd.ix rfl (by omega) (by omega) fun _=>?_;have hp:=qcx S.wait (at_+14+3*i) 3;have hv:IntKind.u8.wrap ((peekN S.wait (at_+14+3*i) 3:Nat):Int)=(((UInt8.ofNat (peekN S.wait (at_+14+3*i) 3)).toNat:Nat):Int):=by
    rw [qax .u8 (by show _<2^8;omega),UInt8.toNat_ofNat'];congr 1;omega
   rw [hv];refine ho9.st0 (x:=(clens S.wait (at_+14) i)[qvx.getD i 0]'(by omega)) (y:=UInt8.ofNat (peekN S.wait (at_+14+3*i) 3)) (List.getElem?_eq_getElem _) rfl fun w10 ho10 hg10 hs10=>?_;have hc10:Chg (fun k=>k=w6.heap.size) w9 w10:=Chg.of_grown hg10 fun k hk=>by rw [hcn] at hk;cases hk;rfl
   rw [w64i (by omega)];have h10:DR w10 base F S r rs (at_+14+3*i+3):=by
    have e6:∀k,k=w6.heap.size->NoTab w9 k:=fun k e=>by
     subst e;obtain ⟨cs,hcs⟩:=ho9.blk_t hcn;exact ⟨_,_,hcs,by decide,by decide⟩
    have s69:=hc9.size;refine ⟨h9.d.chg hc10 (fun k hk e=>?_) fun k e _=>e6 k e,h9.rdr.chg hc10 (fun e=>?_) fun k hk e=>?_,h9.sep,h9.rb,h9.wr,fun k hk=>by have:=h9.wl k hk;have:=hc10.size;omega,fun k hk=>by have:=h9.sl k hk;have:=hc10.size;omega⟩
    ·rcases hk with hk | hk
     ·have:=fr6 k (.inl hk);omega
     ·have:=h.wl k hk;omega
    ·have:=fr6 r (.inr rfl);omega
    ·have:=h.sl k hk;omega
   refine hI _ _ ⟨i+1,by simp,by omega,by omega,ho10,by rw [show at_+14+3*(i+1)=at_+14+3*i+3 by omega];exact h10,hb9.chg hc10 fun e=>?_,(c08.trans hc9 fun i _ hi=>hi).trans hc10 fun k hk e=>by omega⟩ (by simp;omega);have:=hB6.size;have:w6.heap.size=w3.heap.size+1:=hs6;omega
  ·have hge:=oFq hge;have:i=d+4:=by omega
   subst this;rw [if_neg (by omega)] at hst;clear hI I;have hcll:=q05 S.wait (at_+14) (d+4);obtain ⟨cs,hcs⟩:∃c,clens S.wait (at_+14) (d+4)=c:=⟨_,rfl⟩;rw [hcs] at hst ho8 hcll;refine q1o ho8.rd (fun hbt e w11 he hB11=>?_) (fun hbt f11 w11 ht11 hB11=>?_)
   ·rw [if_pos hbt] at hst;refine cT (by simp [he]) (bad _ w11 hst (h8.ext hB11) (c08.trans (Chg.of_ext (S:=drS F r) hB11) fun i _ hi=>hi))
   rw [if_neg hbt] at hst;refine cF rfl ?_;have h11:=h8.ext hB11;have c011:Chg (drS F r) w w11:=c08.trans (Chg.of_ext (S:=drS F r) hB11) fun i _ hi=>hi;have s011:=c011.size;have en:i64.wrap (i64.wrap ((a:Nat):Int)+257)=((a+257:Nat):Int):=by
    rw [w64i (x:=((a:Nat):Int)) (by omega),w64i (by omega)];omega
   have en2:i64.wrap (i64.wrap (((a+257:Nat):Int)+i64.wrap ((b:Nat):Int))+1)=((a+257+b+1:Nat):Int):=by
    rw [w64i (x:=((b:Nat):Int)) (by omega),w64i (x:=((a+257:Nat):Int)+b) (by omega),w64i (by omega)];omega
   rw [en,en2];refine zfw h11 ht11.r (by omega) (by omega) (fun s l a2 w12 hgo hll ho12 ha2 h12 c12=>?_) (fun a2 w12 hgo ha2 h12 c12=>?_) (fun a2 w12 hgo h12 c12=>?_) (by omega)
   rotate_left
   ·rw [hgo] at hst;exact cT rfl (short _ w12 hst (by omega) h12 (c011.trans c12 fun i _ hi=>hi))
   ·rw [hgo] at hst;exact cT rfl (bad _ w12 hst h12 (c011.trans c12 fun i _ hi=>hi))
   rw [hgo] at hst;dsimp only at hst;refine cF rfl ?_;have c012:Chg (drS F r) w w12:=c011.trans c12 fun i _ hi=>hi;have s012:=c012.size;refine ho12.rd.slK (l:=0) (m:=a+257) rfl (.inl ⟨rfl,rfl⟩) (.inr rfl) (by omega) (by omega) fun hp1=>?_;rw [List.drop_zero] at hp1;have tail:∀(p2:Option Addr) (e1 e2:Int) (p1:Option Addr) w14,DR w14 base F S r rs a2->Chg (drS F r) w w14->Go.Vc.Own qae w14 w11.heap.size s l->((e1≠0\/e2≠0)/\(qjh (l.take (a+257))\/qjh (l.drop (a+257)))\/e1=0/\e2=0/\¬qjh (l.take (a+257))/\¬qjh (l.drop (a+257))/\∃f1 f2,p1=some ⟨f1.g,0,none⟩/\p2=some ⟨f2.g,0,none⟩/\TabR w14 base f1 (l.take (a+257))/\TabR w14 base f2 (l.drop (a+257))) ->
     joinP (
         σ:=Unit) (fun s_2 w15 =>
         onPtr (some (⟨F.d,0,none⟩:Addr)) fun t134 =>
         stK (t134.add 6) [(.pointer p1)] w15 fun w16 =>
         onPtr (some (⟨F.d,0,none⟩:Addr)) fun t136 =>
         stK (t136.add 7) [(.pointer p2)] w16 fun w17 =>
         onPtr (some (⟨F.d,0,none⟩:Addr)) fun t138 =>
         stK (t138.add 1) [(.int .i64 4)] w17 fun w18 =>
         K 0 w18) fun J3 =>
        cond (e1 !=(0:Int))
         (K 3 w14)
         (cond (e2 !=(0:Int))
          (K 3 w14)
          (
           ixK s 256 1 fun t125 =>
           ldI .u8 t125 w14 fun t126 =>
           cond (t126==(0:Int))
            (K 3 w14)
            (J3 (()) w14))):=by
    intro p2 e1 e2 p1 w14 h14 c14 ho14 hcase;refine jpO fun J3 hJ3=>?_;rcases hcase with ⟨he,hbd⟩ | ⟨rfl,rfl,n1,n2,f1,f2,rfl,rfl,t1,t2⟩
    ·have k3:K 3 w14:=by
      rw [if_pos (by rcases hbd with hb | hb;exact .inl hb;exact .inr (.inl hb))] at hst;exact bad _ w14 hst h14 c14
     refine cO (fun _=>k3) (fun q1=>cO (fun _=>k3) (fun q2=>?_));have q1:=bne_eq_false_iff_eq.1 q1;have q2:=bne_eq_false_iff_eq.1 q2;rcases he with he | he
     ·exact absurd q1 he
     ·exact absurd q2 he
    ·refine cF rfl (cF rfl ?_);obtain ⟨x,hx,hxs⟩:=qcw (xs:=l) (k:=256) (by omega);refine ho14.rd.ix rfl (by decide) (by omega) fun hc=>?_;have hc:qaw w14 (s.at_ qae.k ((256:Nat):Int).toNat) (qae.cells (l[((256:Nat):Int).toNat]'(by show 256<l.length;omega))):=hc;rw [hxs] at hc;refine ldB8 (b:=x) hc ?_;have hgd:l.getD 256 0=x:=by rw [List.getD_eq_getElem?_getD,hx];rfl
     rw [hgd] at hst;refine cO (fun hz=>?_) (fun hz=>?_)
     ·have hz:x=0:=by
       have:=eq_of_beq hz;apply UInt8.toNat_inj.1;show x.toNat=0;omega
      rw [if_pos (.inr (.inr hz))] at hst;exact bad _ w14 hst h14 c14
     ·have hz:x≠0:=fun e=>by rw [e] at hz;simp at hz
      rw [if_neg (by rintro (q | q | q);exact n1 q;exact n2 q;exact hz q)] at hst;refine hJ3 _ _ ?_;simp only [onPtr_some];rw [qas];have hN:∀(k:Nat) (w':World) (cs:List Value),Blk w' F.d qbh cs->k=F.d->k<w'.heap.size->NoTab w' k:=fun k w' cs hb e _=>by subst e;exact ⟨_,_,hb,by decide,by decide⟩
      refine qaj h14.d.blk (by simp [qa5]) fun w15 hb15 hg15 hs15=>?_;have hd15:DecM w15 base { F with sg:=some f1 } S:=h14.d.put hb15 hg15 rfl rfl rfl rfl rfl rfl rfl rfl (fun e=>by omega) h14.d.m5 h14.d.hl h14.d.hs h14.d.ht;have h15:=h14.own hd15 rfl rfl rfl rfl rfl hg15;rw [qas];refine qaj h15.d.blk (by simp [qa5]) fun w16 hb16 hg16 hs16=>?_;have hd16:DecM w16 base { F with sg:=some f1,ds:=some f2 } S:=h15.d.put hb16 hg16 rfl rfl rfl rfl rfl rfl rfl rfl (fun e=>by omega) h15.d.m5 h15.d.hl h15.d.hs h15.d.ht;have h16:=h15.own hd16 rfl rfl rfl rfl rfl hg16;rw [qas];refine qaj h16.d.blk (by simp [qa5]) fun w17 hb17 hg17 hs17=>?_;have t1':=((t1.chg (Chg.gg hg15) fun k e hk=>hN k w14 _ h14.d.blk e hk).chg (Chg.gg hg16) fun k e hk=>hN k w15 _ h15.d.blk e hk).chg (Chg.gg hg17) fun k e hk=>hN k w16 _ h16.d.blk e hk;have t2':=((t2.chg (Chg.gg hg15) fun k e hk=>hN k w14 _ h14.d.blk e hk).chg (Chg.gg hg16) fun k e hk=>hN k w15 _ h15.d.blk e hk).chg (Chg.gg hg17) fun k e hk=>hN k w16 _ h16.d.blk e hk;have hd17:DecM w17 base { F with sg:=some f1,ds:=some f2 } { S with c:={ S.c with mode:=4,sg:=l.take (a+257),ds:=l.drop (a+257) } }:=h16.d.put hb17 hg17 rfl rfl rfl rfl rfl rfl rfl rfl (fun _=>⟨f1,f2,rfl,rfl,t1',t2'⟩) (by show 4<=5;decide) h16.d.hl h16.d.hs h16.d.ht;refine hK 0 { F with sg:=some f1,ds:=some f2 } { S with c:={ S.c with mode:=4,sg:=l.take (a+257),ds:=l.drop (a+257) } } a2 w17 ⟨rfl,rfl,rfl,.inl ⟨rfl,⟨_,_,hst,.refl _ _⟩,⟨[],by simp,by simp⟩,rfl,rfl,rfl⟩⟩ (h16.own hd17 rfl rfl rfl rfl rfl hg17) ⟨rfl,rfl,.inl rfl,.inl rfl⟩ ?_;exact ((c14.trans (drS_g (r:=r) hg15) fun i _ hi=>hi).trans (drS_g (F:=F) (r:=r) hg16) fun i _ hi=>hi).trans (drS_g (F:=F) (r:=r) hg17) fun i _ hi=>hi
   have hbb:base<=w12.heap.size:=by omega
   refine q1o hp1 (fun hb1 e1 w13 he1 hB13=>?_) (fun hb1 f1 w13 ht13 hB13=>?_)
   ·have ho13:=ho12.ext hB13;refine ho13.rd.slK (l:=a+257) (m:=l.length) rfl (.inr rfl) (.inl ⟨rfl,rfl⟩) (by omega) (le_refl _) fun hp2=>?_;rw [List.take_length] at hp2;have h13:=h12.ext hB13;have c013:Chg (drS F r) w w13:=c012.trans (Chg.of_ext (S:=drS F r) hB13) fun i _ hi=>hi;refine q1o hp2 (fun hb2 e2 w14 he2 hB14=>?_) (fun hb2 f2 w14 ht14 hB14=>?_)
    ·exact tail none e1 e2 none w14 (h13.ext hB14) (c013.trans (Chg.of_ext (S:=drS F r) hB14) fun i _ hi=>hi) (ho13.ext hB14) (.inl ⟨.inl he1,.inl hb1⟩)
    ·exact tail _ e1 0 none w14 (h13.ext hB14) (c013.trans (Chg.of_ext (S:=drS F r) hB14) fun i _ hi=>hi) (ho13.ext hB14) (.inl ⟨.inl he1,.inl hb1⟩)
   ·have ho13:=ho12.ext hB13;refine ho13.rd.slK (l:=a+257) (m:=l.length) rfl (.inr rfl) (.inl ⟨rfl,rfl⟩) (by omega) (le_refl _) fun hp2=>?_;rw [List.take_length] at hp2;have h13:=h12.ext hB13;have c013:Chg (drS F r) w w13:=c012.trans (Chg.of_ext (S:=drS F r) hB13) fun i _ hi=>hi;have s013:=c013.size;refine q1o hp2 (fun hb2 e2 w14 he2 hB14=>?_) (fun hb2 f2 w14 ht14 hB14=>?_)
    ·exact tail none 0 e2 _ w14 (h13.ext hB14) (c013.trans (Chg.of_ext (S:=drS F r) hB14) fun i _ hi=>hi) (ho13.ext hB14) (.inl ⟨.inr he2,.inr hb2⟩)
    ·exact tail _ 0 0 _ w14 (h13.ext hB14) (c013.trans (Chg.of_ext (S:=drS F r) hB14) fun i _ hi=>hi) (ho13.ext hB14) (.inr ⟨rfl,rfl,hb1,hb2,f1,f2,rfl,rfl,(ht13.r.ext hB14).base_le (by omega),ht14.r.base_le (by omega)⟩))
 cases e1:ok1 with
 | false =>
  refine cT rfl (no ?_);have:¬at_+5<=8*S.wait.length:=fun hh=>by rw [o1.2 hh] at e1;cases e1
  omega
 | true =>
  refine cF rfl ?_;obtain ⟨p1,_⟩:=g1 e1;cases e2:ok2 with
  | false =>
   refine cT rfl (no ?_);have:¬a1+5<=8*S.wait.length:=fun hh=>by rw [o2.2 hh] at e2;cases e2
   omega
  | true =>
   refine cF rfl ?_;obtain ⟨p2,_⟩:=g2 e2;cases e3:ok3 with
   | false =>
    refine no ?_;have:¬a2+4<=8*S.wait.length:=fun hh=>by rw [o3.2 hh] at e3;cases e3
    omega
   | true=>exact yes e1 e2 e3
theorem zf3 {K:Int->World->Prop} (h:DR w base F S r rs at_) (hm:S.c.mode<=4) (h8:S.c.mode=2->at_%8=0) (hbase:base<=w.heap.size) (htk:S.took+S.wait.length<=1000000000000)
  (hK:∀e F' S' rs' at' w',qo4 S at_ e S' at'->DR w' base F' S' r rs' at'->F.tw F' w.heap.size->Chg (drS F r) w w'->K e w'):qgu (some ⟨F.d,0,none⟩) (some ⟨r,0,none⟩) w K:=by
 refine qr1 _ _ ?_;unfold qkq;simp only [onPtr_some];refine lI (x:=((S.c.mode:Nat):Int)) (h.d.blk.cells 1 _ rfl) ?_;have hK':∀e F' S' at' w',qo4 S at_ e S' at'->DR w' base F' S' r rs at'->F.to F' w.heap.size->Chg (drS F r) w w'->K e w':=fun e F' S' at' w' hr h' hto hc=>hK e F' S' rs at' w' hr h' hto.w hc
 refine cO (fun c=>?_) (fun c=>cO (fun c1=>?_) (fun c1=>cO (fun c2=>?_) (fun c2=>cO (fun c3=>?_) (fun c3=>?_))))
 ·exact zfs h (by have:=eq_of_beq c;omega) hbase hK'
 ·exact zbe h (by have:=eq_of_beq c1;omega) hK'
 ·have c2:S.c.mode=2:=by have:=eq_of_beq c2;omega
  exact zdk h c2 (h8 c2) hbase htk hK
 ·exact q78 h (by have:=eq_of_beq c3;omega) hbase hK'
 ·have c:=beq_eq_false_iff_ne.1 c;have c1:=beq_eq_false_iff_ne.1 c1;have c2:=beq_eq_false_iff_ne.1 c2;have c3:=beq_eq_false_iff_ne.1 c3;exact zf2 h (by omega) hbase hK'
end
end Go.Proofs.YtedcpbkcamckoaaGreatDoor
namespace Go.Vc
open _root_.Nat (add_assoc)
def SR.shift (n:Nat):SR->SR
 | .next c a=>.next c (n+a)
 | .short=>.short
 | .err e=>.err e
section
variable {B:List UInt8} {k:Nat}
theorem zhf (hk:k<=B.length) (a n:Nat):msb (B.drop k) a n=msb B (8*k+a) n:=by
 induction n with
 | zero=>rfl
 | succ n ih=>rw [msb,msb,ih,qdf B k _ _ hk,add_assoc]
theorem qym (hk:k<=B.length) (ls:List UInt8) (a:Nat):readT ls (B.drop k) a=readT ls B (8*k+a):=by
 unfold readT;have:∀n j,qlm ls (B.drop k) a n j=qlm ls B (8*k+a) n j:=by
  intro n
  induction n with
  | zero=>intro j;rfl
  | succ n ih =>
   intro j;have e:8*(B.drop k).length-a=8*B.length-(8*k+a):=by rw [List.length_drop];omega
   rw [qlm,qlm,ih,zhf hk,e]
 exact this 16 1
theorem q15 (hk:k<=B.length) (t:List UInt8) (n:Nat):∀f a l,qei t B n f (8*k+a) l=match qei t (B.drop k) n f a l with | .lens l a=>.lens l (8*k+a) | .short=>.short | .form=>.form
 | 0,a,l=>rfl
 | f+1,a,l=>by
  rw [qei,qei];split
  ·rfl
  ·rw [qym hk];cases readT t B (8*k+a) with
   | short=>rfl
   | form=>rfl
   | sym y j =>
    dsimp only;split
    ·rfl
    ·obtain ⟨b,m,v,hbm⟩:∃b m v,(if y=18 then ((11,7,0):Nat×Nat×UInt8) else if y=17 then (3,3,0) else if y=16 then (3,2,l.getLastD 0) else (1,0,UInt8.ofNat y))=(b,m,v):=⟨_,_,_,rfl⟩;simp only [hbm];rw [qdf B k _ _ hk,List.length_drop];have e1:8*k+(a+j)=8*k+a+j:=by omega
     rw [e1];by_cases h1:8*(B.length-k)<a+j+m
     ·rw [if_pos h1,if_pos (by omega)]
     ·rw [if_neg h1,if_neg (by omega)];split
      ·rfl
      ·have e2:8*k+a+j+m=8*k+(a+j+m):=by omega
       rw [e2,q15 hk t n f]
theorem q3r (hk:k<=B.length) (a:Nat):∀i,clens (B.drop k) a i=clens B (8*k+a) i
 | 0=>rfl
 | i+1=>by rw [clens,clens,q3r hk a i,qdf B k _ _ hk,add_assoc]
theorem zju (k a:Nat):up8 (8*k+a)=8*k+up8 a:=by unfold up8;omega
theorem qr8 (hk:k<=B.length) (most a:Nat) (c:Cfg):step1 most B (8*k+a) c=(step1 most (B.drop k) a c).shift (8*k):=by
 have hl:(B.drop k).length=B.length-k:=List.length_drop;unfold step1;split
 ·rfl
 unfold stepN;split
 ·unfold qi5;rw [hl,qdf B k _ _ hk];by_cases h:8*(B.length-k)<a+3
  ·rw [if_pos h,if_pos (by omega)];rfl
  ·rw [if_neg h,if_neg (by omega)];dsimp only;split
   ·rw [SR.shift,add_assoc]
   ·split
    ·rw [SR.shift,add_assoc]
    ·split
     ·rw [SR.shift,add_assoc]
     ·rfl
 ·split
  ·unfold qf8;have e1:8*k+up8 a+16=8*k+(up8 a+16):=add_assoc _ _ _;rw [hl,zju,qdf B k _ _ hk,qdf B k _ _ hk,e1];by_cases h:8*(B.length-k)<up8 a+32
   ·rw [if_pos h,if_pos (by omega)];rfl
   ·rw [if_neg h,if_neg (by omega)];split
    ·rfl
    ·rw [SR.shift,add_assoc]
  ·split
   ·unfold qhh;rw [hl,qdf B k _ _ hk];split
    ·rfl
    ·by_cases h:8*(B.length-k)<a+8
     ·rw [if_pos h,if_pos (by omega)];rfl
     ·rw [if_neg h,if_neg (by omega)];split
      ·rfl
      ·rw [SR.shift,add_assoc]
   ·split
    ·unfold qo7;have e1:8*k+a+5=8*k+(a+5):=add_assoc _ _ _;have e2:8*k+a+10=8*k+(a+10):=add_assoc _ _ _;have e3:8*k+a+14=8*k+(a+14):=add_assoc _ _ _;rw [hl,qdf B k _ _ hk,qdf B k _ _ hk,qdf B k _ _ hk,e1,e2,e3];by_cases h:8*(B.length-k)<a+14
     ·rw [if_pos h,if_pos (by omega)];rfl
     ·rw [if_neg h,if_neg (by omega)];dsimp only;split
      ·rfl
      ·rw [q3r hk];obtain ⟨d,hd⟩:∃d,3*(peekN B (8*k+(a+10)) 4+4)=d:=⟨_,rfl⟩;rw [hd];by_cases h2:8*(B.length-k)<a+14+d
       ·rw [if_pos h2,if_pos (by omega)];rfl
       ·rw [if_neg h2,if_neg (by omega)];split
        ·rfl
        ·have e4:8*k+(a+14)+d=8*k+(a+14+d):=add_assoc _ _ _;rw [e4,q15 hk];cases qei (clens B (8*k+(a+14)) (peekN B (8*k+(a+10)) 4+4)) (B.drop k) (peekN B (8*k+a) 5+257+peekN B (8*k+(a+5)) 5+1) 400 (a+14+d) [] with
         | short=>rfl
         | form=>rfl
         | lens l a2 =>
          dsimp only;split<;>rfl
    ·unfold ql2;rw [qym hk];cases readT c.sg B (8*k+a) with
     | short=>rfl
     | form=>rfl
     | sym y j =>
      dsimp only;split
      ·rw [SR.shift,add_assoc]
      ·split
       ·rfl
       ·split
        ·split
         ·rfl
         ·rw [SR.shift,add_assoc]
        ·obtain ⟨b,n,hbn⟩:∃b n,qfm y=(b,n):=⟨_,_,rfl⟩;simp only [hbn];have e1:8*k+a+j=8*k+(a+j):=add_assoc _ _ _;have e2:8*k+a+j+n=8*k+(a+j+n):=by omega
         rw [hl,qdf B k _ _ hk,qym hk,e2,e1];by_cases h:8*(B.length-k)<a+j+n
         ·rw [if_pos h,if_pos (by omega)];rfl
         ·rw [if_neg h,if_neg (by omega)]
          try dsimp only
          cases readT c.ds B (8*k+(a+j+n)) with
          | short=>rfl
          | form=>rfl
          | sym z i =>
           dsimp only;split
           ·rfl
           ·obtain ⟨b2,n2,hbn2⟩:∃b n,qdh z=(b,n):=⟨_,_,rfl⟩;simp only [hbn2];have e3:8*k+(a+j+n)+i=8*k+(a+j+n+i):=add_assoc _ _ _;rw [qdf B k _ _ hk,e3];by_cases h2:8*(B.length-k)<a+j+n+i+n2
            ·rw [if_pos h2,if_pos (by omega)];rfl
            ·rw [if_neg h2,if_neg (by omega)]
             try dsimp only
             split
             ·rfl
             ·split
              ·rfl
              ·rw [SR.shift,add_assoc]
end
section
variable {B:List UInt8}
theorem q65 (ls:List UInt8) (a:Nat) {y k:Nat}:∀n j,1<=j->qlm ls B a n j=.sym y k->1<=k/\k<=15/\a+k<=8*B.length
 | 0,_,_,h=>by cases h
 | n+1,j,hj,h=>by
  rw [qlm] at h;split at h
  ·cases h
  ·split at h
   ·cases h
   ·split at h
    ·injection h with _ h;omega
    ·exact q65 ls a n (j+1) (by omega) h
theorem zik {ls:List UInt8} {a y k:Nat} (h:readT ls B a=.sym y k):1<=k/\k<=15/\a+k<=8*B.length:=q65 ls a 16 1 (Nat.le_refl _) h
theorem q7d (t:List UInt8) (n:Nat) {l':List UInt8} {a':Nat}:∀f a l,a<=8*B.length->qei t B n f a l=.lens l' a'->a<=a'/\a'<=8*B.length
 | 0,_,_,_,h=>by cases h
 | f+1,a,l,ha,h=>by
  rw [qei] at h;split at h
  ·injection h with h1 h2;omega
  ·cases hr:readT t B a with
   | short=>rw [hr] at h;cases h
   | form=>rw [hr] at h;cases h
   | sym y k =>
    rw [hr] at h;dsimp only at h;split at h
    ·cases h
    ·obtain ⟨b,mm,v,hbm⟩:∃b m v,(if y=18 then ((11,7,0):Nat×Nat×UInt8) else if y=17 then (3,3,0) else if y=16 then (3,2,l.getLastD 0) else (1,0,UInt8.ofNat y))=(b,m,v):=⟨_,_,_,rfl⟩;simp only [hbm] at h;split at h
     ·cases h
     ·split at h
      ·cases h
      ·have:=q7d t n f _ _ (by omega) h;omega
def mu (B:List UInt8) (c:Cfg) (a:Nat):Nat:=2*(8*B.length-a)+(if c.mode=2 then 1 else 0)
theorem qya {most a a':Nat} {c c':Cfg} (h:step1 most B a c=.next c' a') (ha:a<=8*B.length):a'<=8*B.length/\a<=a'/\mu B c' a'<mu B c a:=by
 have fin:a+1<=a'->a'<=8*B.length->a'<=8*B.length/\a<=a'/\mu B c' a'<mu B c a:=fun h1 h2=>⟨h2,by omega,by unfold mu;split<;>split<;>omega⟩;unfold step1 at h;by_cases hm5:c.mode=5
 ·rw [if_pos hm5] at h;cases h
 rw [if_neg hm5] at h;unfold stepN at h;split at h
 ·unfold qi5 at h;split at h
  ·cases h
  ·dsimp only at h
   repeat' split at h
   all_goals first | (cases h;done) | (injection h with h1 h2;exact fin (by omega) (by omega))
 ·split at h
  ·unfold qf8 at h;have:a<=up8 a:=by unfold up8;omega
   repeat' split at h
   all_goals first | (cases h;done) | (injection h with h1 h2;exact fin (by omega) (by omega))
  ·split at h
   ·next h2 =>
    unfold qhh at h;split at h
    ·injection h with h3 h4
     subst h3 h4;refine ⟨ha,Nat.le_refl _,?_⟩;unfold mu;rw [if_pos h2,if_neg]
     ·omega
     ·unfold Cfg.behind;dsimp only;split<;>omega
    ·repeat' split at h
     all_goals first | (cases h;done) | (injection h with h1 h2;exact fin (by omega) (by omega))
   ·split at h
    ·unfold qo7 at h;split at h
     ·cases h
     ·dsimp only at h;split at h
      ·cases h
      ·split at h
       ·cases h
       ·split at h
        ·cases h
        ·split at h
         ·cases h
         ·cases h
         ·next hlt _ _ _ l a2 hgo =>
          have:=q7d _ _ _ _ _ (by omega) hgo;split at h
          ·cases h
          ·injection h with h1 h2;exact fin (by omega) (by omega)
    ·unfold ql2 at h;cases hr:readT c.sg B a with
     | short=>rw [hr] at h;cases h
     | form=>rw [hr] at h;cases h
     | sym y k =>
      have hk:=zik hr;rw [hr] at h;dsimp only at h;split at h
      ·injection h with h1 h2;exact fin (by omega) (by omega)
      ·split at h
       ·cases h
       ·split at h
        ·split at h
         ·cases h
         ·injection h with h1 h2;exact fin (by omega) (by omega)
        ·obtain ⟨b,n,hbn⟩:∃b n,qfm y=(b,n):=⟨_,_,rfl⟩;simp only [hbn] at h;split at h
         ·cases h
         ·cases hr2:readT c.ds B (a+k+n) with
          | short=>rw [hr2] at h;cases h
          | form=>rw [hr2] at h;cases h
          | sym z j =>
           rw [hr2] at h;dsimp only at h;split at h
           ·cases h
           ·obtain ⟨b2,n2,hbn2⟩:∃b n,qdh z=(b,n):=⟨_,_,rfl⟩;simp only [hbn2] at h;split at h
            ·cases h
            ·split at h
             ·cases h
             ·split at h
              ·cases h
              ·injection h with h1 h2;exact fin (by omega) (by omega)
end
end Go.Vc
namespace Go.Proofs.YtedcpbkcamckoaaGreatDoor
open Go.Vc Go.RowKit
set_option maxRecDepth 400000
open IntKind (i64 u32)
open _root_.List (length_append length_drop length_nil)
open _root_.Nat (le_refl zero_le)
def nilS:Slc:=⟨none,0,0⟩
section
variable {w w':World} {base:Nat} {F:DF} {S:DS} {r:Nat} {rs:Slc} {at_:Nat}
theorem zhj {b:Nat} {K:World->Prop} (h:DR w base F S r rs at_) (hK:∀w',DR w' base F S r rs (min b at_)->Chg (drS F r) w w'->K w'):qf9 (some ⟨r,0,none⟩) b w K:=by
 by_cases hb:b<=at_
 ·refine zgc h.rdr hb fun w' hr hc=>hK w' ?_ (drS_r hc);rw [Nat.min_eq_left hb];exact h.moved hr hc
 ·refine qmr _ _ ?_;unfold qit;simp only [onPtr_some];refine lI (x:=(at_:Int)) (h.rdr.blk.cells 1 _ rfl) ?_;have e:(if (at_:Int)<(if (0:Int)>(b:Int) then (0:Int) else (b:Int)) then (at_:Int) else (if (0:Int)>(b:Int) then (0:Int) else (b:Int)))=(at_:Int):=by
   rw [if_neg (show ¬(0:Int)>(b:Int) by omega),if_pos (by omega)]
  rw [e,qas];refine qaj h.rdr.blk (by simp) fun w2 hb2 hg2 hs2=>?_;have hr2:=h.rdr.move hb2 hg2 h.rdr.le;have h2:=h.moved hr2 (Chg.gg hg2);refine hK w2 ?_ (drS_r (Chg.gg hg2));rw [Nat.min_eq_right (by omega)];exact h2
structure FailM (w:World) (d:Nat) (S:DS) (e:Int):Prop where
 blk:∃sg ds:Option TF,Blk w d qbh (qa5 ⟨d,nilS,nilS,nilS,sg,ds⟩ S e)
theorem zea {e:Int} {K:Slc->Int->World->Prop} (h:DR w base F S r rs at_) (he:e=0\/e=2\/e=3\/e=5) (htold:(e=0\/e=2)->S.told+S.out.length<=S.c.hist.length) (htk:S.took+S.wait.length<=900000000000)
  (hK1:(e=0\/e=2)->∀F' w',DecM w' base F' { S with took:=S.took+(if S.c.mode=5 then (at_+7)/8 else at_/8),skip:=at_%8,wait:=if S.c.mode=5 then [] else S.wait.drop (at_/8),told:=S.told+S.out.length,out:=[] }->Go.Vc.Own qae w' base F.out S.out->(∀k,F.out.blk=some k->¬dS F' k)->F'.d=F.d->F'.ring=F.ring->F'.out=nilS->(∀k,F'.wait.blk=some k->k<w'.heap.size)->Chg (fun k=>k=F.d) w w'->K F.out 0 w')
  (hK2:(e=3\/e=5)->∀S' w',FailM w' F.d S' e->S'.given=S.given->Chg (fun k=>k=F.d) w w'->K nilS e w') :
  qbl (some (⟨r,0,none⟩:Addr)) w fun t77 w12 =>
        (8:Int)≠0 /\
        joinP (σ:=Int×Unit) (fun s_2 w13 =>
         ldI .i64 ((⟨F.d,0,none⟩:Addr).add 11) w13 fun t91 =>
         stK ((⟨F.d,0,none⟩:Addr).add 11) [(.int .i64 (i64.wrap (t91+s_2.1)))] w13 fun w14 =>
         qbl (some (⟨r,0,none⟩:Addr)) w14 fun t98 w15 =>
         (8:Int)≠0 /\
         stK ((⟨F.d,0,none⟩:Addr).add 4) [(.int .i64 (t98.tmod (8:Int)))] w15 fun w16 =>
         ldSl ((⟨F.d,0,none⟩:Addr).add 3) w16 fun t106 =>
         slK t106 (some s_2.1) none 1 fun t108 =>
         qaz t108 w16 fun t109 w17 =>
         stK ((⟨F.d,0,none⟩:Addr).add 3) [(.slice t109.a t109.n t109.c)] w17 fun w18 =>
         joinP (σ:=Unit) (fun s_3 w19 =>
          ldSl ((⟨F.d,0,none⟩:Addr).add 14) w19 fun t123 =>
          stK ((⟨F.d,0,none⟩:Addr).add 14) [(.slice none 0 0)] w19 fun w20 =>
          joinP (σ:=Unit) (fun s_4 w21 =>
           ldI .i64 ((⟨F.d,0,none⟩:Addr).add 10) w21 fun t147 =>
           stK ((⟨F.d,0,none⟩:Addr).add 10) [(.int .i64 (i64.wrap (t147+((t123.n:Nat):Int))))] w21 fun w22 =>
           K t123 0 w22) fun J5 =>
          joinP (σ:=Bool×Unit) (fun s_5 w23 =>
           cond s_5.1
            (
             stK ((⟨F.d,0,none⟩:Addr).add 13) [(.int .i64 e)] w23 fun w24 =>
             stK ((⟨F.d,0,none⟩:Addr).add 3) [(.slice none 0 0)] w24 fun w25 =>
             stK ((⟨F.d,0,none⟩:Addr).add 8) [(.slice none 0 0)] w25 fun w26 =>
             K (⟨none,0,0⟩:Slc) e w26)
            (J5 (()) w23)) fun J6 =>
          cond (e !=(0:Int))
           (J6 ((e !=(2:Int)),()) w20)
           (J6 (false,()) w20)) fun J4 =>
         ldI .i64 ((⟨F.d,0,none⟩:Addr).add 1) w18 fun t115 =>
         cond (t115==(5:Int))
          (
           stK ((⟨F.d,0,none⟩:Addr).add 3) [(.slice none 0 0)] w18 fun w27 =>
           J4 (()) w27)
          (J4 (()) w18)) fun J3 =>
        ldI .i64 ((⟨F.d,0,none⟩:Addr).add 1) w12 fun t82 =>
        cond (t82==(5:Int))
         (
          qbl (some (⟨r,0,none⟩:Addr)) w12 fun t85 w28 =>
          (8:Int)≠0 /\
          J3 ((i64.wrap ((i64.wrap (t85+(7:Int))).tdiv (8:Int))),()) w28)
         (J3 ((i64.wrap (t77.tdiv (8:Int))),()) w12):=by
 have hle:=h.rdr.le;have hwl:=h.d.hw;refine qsg h.rdr ⟨by decide,?_⟩;refine jpO fun J3 hJ3=>?_;refine lI (x:=((S.c.mode:Nat):Int)) (h.d.blk.cells 1 _ rfl) ?_;obtain ⟨n0,hn0⟩:∃n,(if S.c.mode=5 then (at_+7)/8 else at_/8)=n:=⟨_,rfl⟩;have hn0l:n0<=S.wait.length:=by split at hn0<;>omega
 rw [hn0] at hK1;have main:J3 ((n0:Int),()) w:=hJ3 _ _ (by
  clear hJ3;refine lI (x:=((S.took:Nat):Int)) (h.d.blk.cells 11 _ rfl) ?_;rw [qas,w64i (by omega)];have e1:((S.took:Nat):Int)+((n0:Nat):Int)=((S.took+n0:Nat):Int):=rfl;rw [e1];refine qaj h.d.blk (by simp [qa5]) fun w1 hb1 hg1 hs1=>?_;have hd1:DecM w1 base F { S with took:=S.took+n0 }:=h.d.put hb1 hg1 rfl rfl rfl rfl rfl rfl rfl rfl (h.d.tabs' hg1) h.d.m5 h.d.hl h.d.hs ⟨by show S.took+n0<=_;omega,h.d.ht.2⟩;have h1:=h.own hd1 rfl rfl rfl rfl rfl hg1;refine qsg h1.rdr ⟨by decide,?_⟩;rw [tmod8,qas];refine qaj h1.d.blk (by simp [qa5]) fun w2 hb2 hg2 hs2=>?_;have hd2:DecM w2 base F { S with took:=S.took+n0,skip:=at_%8 }:=h1.d.put hb2 hg2 rfl rfl rfl rfl rfl rfl rfl rfl (h1.d.tabs' hg2) h.d.m5 h.d.hl (by show at_%8<=8;omega) h1.d.ht;refine lSl (x:=F.wait) (hd2.blk.cells 3 _ rfl) ?_;refine hd2.wait.slK (l:=n0) (m:=S.wait.length) rfl (.inr rfl) (.inl ⟨rfl,rfl⟩) hn0l (le_refl _) fun hsub=>?_;rw [List.take_length] at hsub;refine qgp hsub (by simp;omega) fun q w3 hq hB3=>?_;have hd3:=hd2.ext hB3;have hs12:w.heap.size<=w2.heap.size:=by omega
  have hs3:=hB3.size;have qne:∀k,q.blk=some k->F.ring.blk≠some k/\F.out.blk≠some k/\k≠F.d:=fun k hk=>by
   have h0:=(hq.lt k hk).1;refine ⟨fun e=>?_,fun e=>?_,fun e=>?_⟩
   ·have:=(h.d.below k (.inr (.inl e))).2;omega
   ·have:=(h.d.below k (.inr (.inr e))).2;omega
   ·have:=(h.d.below k (.inl e)).2;omega
  rw [qas];refine qaj hd3.blk (by simp [qa5]) fun w4 hb4 hg4 hs4=>?_;have hd4:=hd3.putW (ws:=q) (xs:=S.wait.drop n0) (took:=S.took+n0) (skip:=at_%8) hb4 hg4 hq.rd qne (by simp;omega) (by omega) (by omega);have c4:Chg (fun k=>k=F.d) w w4:=(((Chg.gg hg1).trans (Chg.gg hg2) fun i _ hi=>hi).trans (Chg.of_ext (S:=fun k=>k=F.d) hB3) fun i _ hi=>hi).trans (Chg.gg hg4) fun i _ hi=>hi;have qlt:∀k,q.blk=some k->k<w4.heap.size:=fun k hk=>by have:=(hq.lt k hk).2;omega
  refine jpO fun J4 hJ4=>?_;have fin:∀(ws:Slc) (xs:List UInt8) w5,DecM w5 base { F with wait:=ws } { S with took:=S.took+n0,skip:=at_%8,wait:=xs }->xs=(if S.c.mode=5 then [] else S.wait.drop (at_/8))->(∀k,ws.blk=some k->k<w5.heap.size)->Chg (fun k=>k=F.d) w w5->J4 () w5:=fun ws xs w5 hd5 hxs hwl5 c5=>hJ4 _ _ (by
   clear hJ4;refine lSl (x:=F.out) (hd5.blk.cells 14 _ rfl) ?_;have hon:F.out.n=S.out.length:=h.d.out.rd.n;rw [qas];refine qaj hd5.blk (by simp [qa5]) fun w6 hb6 hg6 hs6=>?_;have ho6:Go.Vc.Own qae w6 base F.out S.out:=hd5.out.chg (Chg.gg hg6) fun k hk=>by
    obtain ⟨cs,hcs⟩:=hd5.out.blk_t hk;exact hcs.ne_t hd5.blk (by decide)
   have hd6:DecM w6 base { F with wait:=ws,out:=nilS } { S with took:=S.took+n0,skip:=at_%8,wait:=xs,out:=[] }:=by
    have hc:=Chg.gg hg6;have ap:∀{s:Slc} {xs:List UInt8},Go.Vc.Own qae w5 base s xs->∀k,s.blk=some k->k≠F.d:=fun ho k hk=>by
     obtain ⟨cs,hcs⟩:=ho.blk_t hk;exact hcs.ne_t hd5.blk (by decide)
    exact ⟨hb6,hd5.hd,hd5.ring.chg hc (ap hd5.ring),Go.Vc.Own.nil _ _ _,hd5.wait.chg hc fun a ha=>(hd5.wn _ (slk.2 ⟨a,ha,rfl⟩)).2.2,hd5.tabs' hg6,fun k _ e=>(by cases e),fun k hk=>⟨(hd5.wn k hk).1,fun e=>(by cases e),(hd5.wn k hk).2.2⟩,hd5.m5,hd5.mo,zero_le _,hd5.hm,hd5.hl,hd5.hw,hd5.hs,hd5.ht⟩
   have c6:Chg (fun k=>k=F.d) w w6:=c5.trans (Chg.gg hg6) fun i _ hi=>hi;refine jpO fun J5 hJ5=>?_;have good:(e=0\/e=2)->J5 () w6:=fun hee=>hJ5 _ _ (by
    refine lI (x:=((S.told:Nat):Int)) (hd6.blk.cells 10 _ rfl) ?_;have hhm:=h.d.hm;have hmo:=h.d.mo;have htold:=htold hee;rw [qas,hon,w64i (by omega)];have e2:((S.told:Nat):Int)+((S.out.length:Nat):Int)=((S.told+S.out.length:Nat):Int):=rfl;rw [e2];refine qaj hd6.blk (by simp [qa5]) fun w7 hb7 hg7 hs7=>?_;have hd7:DecM w7 base { F with wait:=ws,out:=nilS } { S with took:=S.took+n0,skip:=at_%8,wait:=xs,told:=S.told+S.out.length,out:=[] }:=hd6.put hb7 hg7 rfl rfl rfl rfl rfl rfl rfl rfl (hd6.tabs' hg7) hd6.m5 hd6.hl hd6.hs ⟨hd6.ht.1,hd6.ht.2.1,htold⟩;rw [<-hxs] at hK1;refine hK1 hee { F with wait:=ws,out:=nilS } w7 hd7 (ho6.chg (Chg.gg hg7) fun k hk=>?_) (fun k hk hs=>?_) rfl rfl rfl (fun k hk=>by have:=hwl5 k hk;omega) (c6.trans (Chg.gg hg7) fun i _ hi=>hi)
    ·obtain ⟨cs,hcs⟩:=ho6.blk_t hk;exact hcs.ne_t hd6.blk (by decide)
    ·rcases hs with hs | hs | hs
     ·obtain ⟨cs,hcs⟩:=ho6.blk_t hk;exact hcs.ne_t hd6.blk (by decide) hs
     ·exact h.d.ne k hs hk
     ·cases hs)
   refine jpO fun J6 hJ6=>?_;rcases he with rfl | rfl | rfl | rfl
   ·exact cF rfl (hJ6 _ _ (cF rfl (good (.inl rfl))))
   ·exact cT rfl (hJ6 _ _ (cF rfl (good (.inr rfl))))
   all_goals
    refine cT rfl (hJ6 _ _ (cT rfl ?_))
    try rw [qas]
    refine qaj hd6.blk (by simp [qa5]) fun w7 hb7 hg7 hs7=>?_
    try rw [qas]
    refine qaj hb7 (by simp [qa5,qlk]) fun w8 hb8 hg8 hs8=>?_
    try rw [qas]
    refine qaj hb8 (by simp [qa5,qlk]) fun w9 hb9 hg9 hs9=>?_;exact hK2 (by decide) { S with took:=S.took+n0,skip:=at_%8,wait:=xs,out:=[] } w9 ⟨F.sg,F.ds,hb9⟩ rfl (((c6.trans (Chg.gg hg7) fun i _ hi=>hi).trans (Chg.gg hg8) fun i _ hi=>hi).trans (Chg.gg hg9) fun i _ hi=>hi))
  refine lI (x:=((S.c.mode:Nat):Int)) (hd4.blk.cells 1 _ rfl) ?_;refine cO (fun hm=>?_) (fun hm=>?_)
  ·have hm:S.c.mode=5:=by have:=eq_of_beq hm;omega
   try rw [qas]
   refine qaj hd4.blk (by simp [qa5]) fun w5 hb5 hg5 hs5=>?_;have hd5:=hd4.putW (ws:=nilS) (xs:=[]) (took:=S.took+n0) (skip:=at_%8) hb5 hg5 (Rd.nil _ _) (fun k hk=>by cases hk) (zero_le _) (by omega) (by omega);exact fin nilS [] w5 hd5 (by rw [if_pos hm]) (fun k hk=>by cases hk) (c4.trans (Chg.gg hg5) fun i _ hi=>hi)
  ·have hm:S.c.mode≠5:=by have:=beq_eq_false_iff_ne.1 hm;omega
   rw [if_neg hm] at hn0;exact fin q (S.wait.drop n0) w4 hd4 (by rw [if_neg hm,hn0]) qlt c4)
 refine cO (fun hm=>?_) (fun hm=>?_)
 ·have hm:S.c.mode=5:=by have:=eq_of_beq hm;omega
  rw [if_pos hm] at hn0;refine qsg h.rdr ⟨by decide,?_⟩;have e1:((at_:Nat):Int)+7=((at_+7:Nat):Int):=rfl;rw [w64i (x:=((at_:Nat):Int)+7) (by omega),e1,tdiv8,hn0,w64i (by omega)];exact main
 ·have hm:S.c.mode≠5:=by have:=beq_eq_false_iff_ne.1 hm;omega
  rw [if_neg hm] at hn0;rw [tdiv8,hn0,w64i (by omega)];exact main
end
theorem Ch.shift {most:Nat} {B:List UInt8} {k:Nat} (hk:k<=B.length) {c c':Cfg} {a a':Nat} (h:Ch most (B.drop k) c a c' a'):Ch most B c (8*k+a) c' (8*k+a'):=by
 induction h with
 | refl c a=>exact .refl _ _
 | step h r ih =>
  refine .step ?_ ih;rw [qr8 hk,h];rfl
theorem Ch.le {most:Nat} {B:List UInt8} {c c':Cfg} {a a':Nat} (h:Ch most B c a c' a') (ha:a<=8*B.length):a'<=8*B.length/\a<=a'/\mu B c' a'<=mu B c a:=by
 induction h with
 | refl c a=>exact ⟨ha,le_refl _,le_refl _⟩
 | step h r ih =>
  obtain ⟨h1,h2,h3⟩:=qya h ha;obtain ⟨i1,i2,i3⟩:=ih h1;exact ⟨i1,by omega,by omega⟩
theorem zhd {most:Nat} {B:List UInt8} {c c':Cfg} {a a':Nat} (h:step1 most B a c=.next c' a') (hal:c.mode=2->a%8=0):c'.mode=2->a'%8=0:=by
 intro hm;unfold step1 at h;by_cases hm5:c.mode=5
 ·rw [if_pos hm5] at h;cases h
 rw [if_neg hm5] at h;unfold stepN at h;split at h
 ·unfold qi5 at h;dsimp only at h
  repeat' split at h
  all_goals first | (cases h;done) | (injection h with h1 h2;subst h1;cases hm)
 ·split at h
  ·unfold qf8 at h
   repeat' split at h
   all_goals first | (cases h;done) | (injection h with h1 h2;subst h2;unfold up8;omega)
  ·split at h
   ·next h2 =>
    have:=hal h2;unfold qhh at h
    repeat' split at h
    all_goals first | (cases h;done) | (injection h with h3 h4;omega)
   ·split at h
    ·unfold qo7 at h;dsimp only at h
     repeat' split at h
     all_goals first | (cases h;done) | (injection h with h1 h2;subst h1;cases hm)
    ·next h0 h1 h2 h3 =>
     exfalso;have key:c'.mode=c.mode\/c'.mode=0\/c'.mode=5:=by
      unfold ql2 at h;cases hr:readT c.sg B a with
      | short=>rw [hr] at h;cases h
      | form=>rw [hr] at h;cases h
      | sym y k =>
       rw [hr] at h;dsimp only at h;split at h
       ·injection h with h1 h2
        subst h1;unfold Cfg.behind;dsimp only;split
        ·exact .inr (.inr rfl)
        ·exact .inr (.inl rfl)
       ·split at h
        ·cases h
        ·split at h
         ·split at h
          ·cases h
          ·injection h with h1 h2;subst h1;exact .inl rfl
         ·obtain ⟨b,n,hbn⟩:∃b n,qfm y=(b,n):=⟨_,_,rfl⟩;simp only [hbn] at h;split at h
          ·cases h
          ·cases hr2:readT c.ds B (a+k+n) with
           | short=>rw [hr2] at h;cases h
           | form=>rw [hr2] at h;cases h
           | sym z j =>
            rw [hr2] at h;dsimp only at h;split at h
            ·cases h
            ·obtain ⟨b2,n2,hbn2⟩:∃b n,qdh z=(b,n):=⟨_,_,rfl⟩;simp only [hbn2] at h
             repeat' split at h
             all_goals first | (cases h;done) | (injection h with h1 h2;subst h1;exact .inl rfl)
     omega
theorem Ch.al {most:Nat} {B:List UInt8} {c c':Cfg} {a a':Nat} (h:Ch most B c a c' a') (hal:c.mode=2->a%8=0):c'.mode=2->a'%8=0:=by
 induction h with
 | refl c a=>exact hal
 | step h r ih=>exact ih (zhd h hal)
section
variable {w:World} {base:Nat} {F:DF} {S:DS}
structure Fed (F:DF) (S:DS) (B:List UInt8) (p:Nat):Prop where
 out:S.out=[]
 fo:F.out=nilS
 told:S.told=S.c.hist.length
 given:S.given=B.length
 pl:p<=8*B.length
 took:S.took=if S.c.mode=5 then (p+7)/8 else p/8
 skip:S.skip=p%8
 wait:S.wait=if S.c.mode=5 then [] else B.drop (p/8)
 al:S.c.mode=2->p%8=0
theorem zdo {b:Slc} {bs B:List UInt8} {p:Nat} {K:Slc->Int->World->Prop} (h:DecM w base F S) (f:Fed F S B p) (hm:S.c.mode<=4) (hb:Rd qae w b bs) (hbd:∀k,b.blk=some k->¬dS F k) (hbnd:B.length+bs.length<=1000000000) (hbase:base<=w.heap.size) (hwlt:∀k,F.wait.blk=some k->k<w.heap.size)
  (hK1:∀o x p' F' S' w',Ch S.most (B++bs) S.c p S'.c p'->(S'.c.mode=5\/S'.c.mode<=4/\step1 S.most (B++bs) p' S'.c=.short)->S'.c.hist=S.c.hist++x->Go.Vc.Own qae w' base o x->(∀k,o.blk=some k->¬dS F' k)->DecM w' base F' S'->Fed F' S' (B++bs) p'->S'.most=S.most->F.tw F' w.heap.size->(∀k,F'.wait.blk=some k->k<w'.heap.size)->Chg (dS F) w w'->K o 0 w')
  (hK2:∀(n:Nat) c' p' S' w',(n=3\/n=5)->Ch S.most (B++bs) S.c p c' p'->step1 S.most (B++bs) p' c'=.err n->FailM w' F.d S' n->S'.given=(B++bs).length->Chg (dS F) w w'->K nilS n w'):qc7 (some ⟨F.d,0,none⟩) b w K:=by
 refine qq4 _ _ ?_;unfold qjf;simp only [onPtr_some];have hp:=f.pl;have htook:=f.took;have hwait:=f.wait;rw [if_neg (by omega)] at htook hwait;have hBl:(B++bs).length=B.length+bs.length:=length_append;refine lI (x:=((S.given:Nat):Int)) (h.blk.cells 12 _ rfl) ?_;rw [qas,hb.n,f.given,w64i (by omega)];have e0:((B.length:Nat):Int)+((bs.length:Nat):Int)=(((B++bs).length:Nat):Int):=by rw [hBl];rfl
 rw [e0];refine qaj h.blk (by simp [qa5]) fun w1 hb1 hg1 hs1=>?_;have hd1:DecM w1 base F { S with given:=(B++bs).length }:=h.put hb1 hg1 rfl rfl rfl rfl rfl rfl rfl rfl (h.tabs' hg1) h.m5 h.hl h.hs ⟨h.ht.1,by show (B++bs).length<=_;omega,h.ht.2.2⟩;have hb1':=hb.chg (Chg.gg hg1) fun a ha e=>hbd _ (slk.2 ⟨a,ha,rfl⟩) (.inl e);refine lI (x:=0) (hd1.blk.cells 13 _ rfl) (cF rfl ?_);refine lI (x:=((S.c.mode:Nat):Int)) (hd1.blk.cells 1 _ rfl) (cF (by simp;omega) ?_);refine lSl (x:=F.wait) (hd1.blk.cells 3 _ rfl) ?_;have hwl:S.wait.length=B.length-p/8:=by rw [hwait,length_drop]
 rw [<-hb.n];refine q8k hd1.wait hb1' (by show S.wait.length+bs.length<=_;omega) fun q w3 hq hB3=>?_;have hd3:=hd1.ext hB3;have hW:S.wait++bs=(B++bs).drop (p/8):=by rw [hwait,List.drop_append_of_le_length (by omega)]
 have hs3:=hB3.size;have qne:∀k,q.blk=some k->F.ring.blk≠some k/\F.out.blk≠some k/\k≠F.d:=fun k hk=>by
  have h0:=(hq.lt k hk).1;refine ⟨fun e=>?_,fun e=>?_,fun e=>?_⟩
  ·have:=(h.below k (.inr (.inl e))).2;omega
  ·have:=(h.below k (.inr (.inr e))).2;omega
  ·have:=(h.below k (.inl e)).2;omega
 rw [qas];refine qaj hd3.blk (by simp [qa5]) fun w4 hb4 hg4 hs4=>?_;have hWl:(S.wait++bs).length=S.wait.length+bs.length:=length_append;have hd4:=hd3.putW (ws:=q) (xs:=S.wait++bs) (took:=S.took) (skip:=S.skip) hb4 hg4 hq.rd qne (by omega) h.hs h.ht.1;refine lSl (x:=q) (hd4.blk.cells 3 _ rfl) ?_;refine qv1 hd4.wait (by show (S.wait++bs).length<=_;omega) fun r rs w5 hr0 hrs0 hr5 hB5=>?_;have hd5:=hd4.ext hB5;have hs5:=hB5.size;have h5:DR w5 base { F with wait:=q } { S with given:=(B++bs).length,wait:=S.wait++bs } r rs 0:=by
  refine ⟨hd5,hr5,fun k hk hs=>?_,by omega,fun k hk e=>?_,fun k hk=>?_,fun k hk=>(hrs0 k hk).2⟩
  ·have h1:=(hrs0 k hk).1;have h2:=(h.below k hs).2;omega
  ·have h1:=(hq.lt k hk).2;omega
  ·have h1:=(hq.lt k hk).2;omega
 have c5:Chg (dS F) w w5:=((((Chg.gg hg1).mono fun i _ hi=>.inl hi:Chg (dS F) w w1).trans (Chg.of_ext (S:=dS F) hB3) fun i _ hi=>hi).trans (Chg.gg hg4) fun i _ hi=>.inl hi).trans (Chg.of_ext (S:=dS F) hB5) fun i _ hi=>hi;have hskip:=f.skip;refine lI (x:=((S.skip:Nat):Int)) (h5.d.blk.cells 4 _ rfl) ?_;refine rBits h5 (fun m w6 e hm32 hl6 h6 hc6=>?_) (fun w6 hn _ _=>?_)
 rotate_left
 ·exfalso;have hn:((S.skip:Nat):Int)<0\/((S.skip:Nat):Int)>32\/((0:Nat):Int)+((S.skip:Nat):Int)>8*((S.wait++bs).length:Nat):=hn;omega
 have:m=p%8:=by omega
 subst this;rw [Nat.zero_add] at h6;have sub:∀{F1:DF} {w1 w2:World},F.tw F1 w.heap.size->w.heap.size<=r->Chg (dS F) w w1->Chg (drS F1 r) w1 w2->Chg (dS F) w w2:=fun hto hr h1 h2=>h1.trans h2 fun i hi hs=>by
  rcases hs with hs | hs
  ·rcases hto.old i hs with e | e
   ·exact e
   ·omega
  ·omega
 have hrw:w.heap.size<=r:=by omega
 have c6:Chg (dS F) w w6:=sub (F1:={ F with wait:=q }) ⟨rfl,.inl rfl,.inl rfl⟩ hrw c5 hc6;have hmo:S.most<=1073741824:=h.mo;refine qg4 (fun n (s:Int×Unit) w7=>∃F1 S1 rs1 a1,DR w7 base F1 S1 r rs1 a1/\F.tw F1 w.heap.size/\Chg (dS F) w w7/\S1.most=S.most/\S1.given=(B++bs).length/\S1.told=S.told/\S1.took+S1.wait.length=(B++bs).length /\
   (
    (s.1=0\/s.1=2)/\S1.wait=(B++bs).drop S1.took/\Ch S.most (B++bs) S.c p S1.c (8*S1.took+a1)/\(∃x,S1.c.hist=S.c.hist++x/\S1.out=x)/\(s.1=0->n=1+mu (B++bs) S1.c (8*S1.took+a1))/\(s.1=2->S1.c.mode<=4/\step1 S.most (B++bs) (8*S1.took+a1) S1.c=.short)
    \/ ∃m:Nat,s.1=(m:Int)/\(m=3\/m=5)/\∃c' p',Ch S.most (B++bs) S.c p c' p'/\step1 S.most (B++bs) p' c'=.err m))
  (1+mu (B++bs) S.c p) ⟨{ F with wait:=q },_,rs,p%8,h6,⟨rfl,.inl rfl,.inl rfl⟩,c6,rfl,rfl,rfl,by show S.took+(S.wait++bs).length=_;omega,.inl ⟨.inl rfl,?_,?_,⟨[],by simp,by show S.out=[];exact f.out⟩,fun _=>?_,fun e=>by cases e⟩⟩ ?_
 ·show S.wait++bs=(B++bs).drop S.took;rw [hW,htook]
 ·show Ch S.most (B++bs) S.c p S.c (8*S.took+p%8);rw [htook,show 8*(p/8)+p%8=p by omega];exact .refl _ _
 ·show _=1+mu (B++bs) S.c (8*S.took+p%8);rw [htook,show 8*(p/8)+p%8=p by omega]
 rintro n ⟨e,_⟩ w7 ⟨F1,S1,rs1,a1,h7,hto7,c7,em,eg,et,etw,hcase⟩ I hI;dsimp only at *;have hs7:=c7.size;have hd7:F1.d=F.d:=hto7.d;have hwl7:=h7.d.hw;have ends:(e=0/\S1.c.mode=5\/e≠0)->_:=fun hcond=>zea (e:=e) (K:=K) h7
  (by
    rcases hcase with ⟨he,_⟩ | ⟨m,he,hm,_⟩
    ·rcases he with he | he
     ·exact .inl he
     ·exact .inr (.inl he)
    ·rcases hm with rfl | rfl
     ·exact .inr (.inr (.inl he))
     ·exact .inr (.inr (.inr he)))
  (fun hee=>by
    rcases hcase with ⟨_,_,_,⟨x,hx,hxo⟩,_⟩ | ⟨m,he,hm,_⟩
    ·rw [et,f.told,hxo,hx,length_append];exact le_refl _
    ·omega)
  (by omega)
  (fun hee F' w' hd' ho' hod ed' er' eo' hwl' c'=>by
    rcases hcase with ⟨he,hw1,hch,⟨x,hx,hxo⟩,_,h2⟩ | ⟨m,he,hm,_⟩
    rotate_left
    ·omega
    have hle:=h7.rdr.le;refine hK1 F1.out x (8*S1.took+a1) F' { S1 with told:=S1.told+S1.out.length,took:=S1.took+(if S1.c.mode=5 then (a1+7)/8 else a1/8),skip:=a1%8,wait:=if S1.c.mode=5 then [] else S1.wait.drop (a1/8),out:=[] } w' hch ?_ hx (by rw [<-hxo];exact ho') hod hd' ⟨rfl,eo',?_,eg,?_,?_,?_,?_,?_⟩ em ⟨ed'.trans hd7,?_,?_⟩ hwl' ?_
    ·rcases hcond with ⟨_,hm5⟩ | hne
     ·exact .inl hm5
     ·rcases he with he | he
      ·exact absurd he hne
      ·exact .inr (h2 he)
    ·show S1.told+S1.out.length=S1.c.hist.length;rw [et,f.told,hxo,hx,length_append]
    ·omega
    ·show S1.took+_=if S1.c.mode=5 then _ else _
     split<;>omega
    ·show a1%8=_;omega
    ·show (if S1.c.mode=5 then [] else S1.wait.drop (a1/8))=if S1.c.mode=5 then [] else _
     split
     ·rfl
     ·rw [hw1,List.drop_drop];congr 1;omega
    ·exact hch.al f.al
    ·rw [er'];exact hto7.ring
    ·rw [eo'];exact .inl (by rw [f.fo])
    ·exact c7.trans c' fun i hi e=>by subst e;exact .inl hd7)
  (fun hee S' w' hf eg' c'=>by
    rcases hcase with ⟨he,_⟩ | ⟨m,he,hm,c1,p1,hch,hst⟩
    ·omega
    ·subst he;rw [hd7] at hf;exact hK2 m c1 p1 S' w' hm hch hst hf (eg'.trans eg) (c7.trans c' fun i hi e=>by subst e;exact .inl hd7))
 refine jpO fun J2 hJ2=>?_;refine cO (fun he0=>?_) (fun he0=>?_)
 ·have he0:e=0:=eq_of_beq he0;rw [<-hd7];refine lI (x:=((S1.c.mode:Nat):Int)) (h7.d.blk.cells 1 _ rfl) ?_;refine cO (fun hm5=>?_) (fun hm5=>?_)
  ·have hm5:S1.c.mode≠5:=by have:=bne_iff_ne.1 hm5;omega
   have hm4:S1.c.mode<=4:=by have:=h7.d.m5;omega
   rcases hcase with ⟨he,hw1,hch,⟨x,hx,hxo⟩,hn,_⟩ | ⟨m,he,hm,_⟩
   rotate_left
   ·omega
   have hn:=hn he0;have htk:S1.took<=(B++bs).length:=by omega
   refine hJ2 _ _ ?_;refine qsg h7.rdr ?_;rw [<-hd7];have hal:=hch.al f.al;have hple:=hch.le (by omega);refine zf3 h7 hm4 (fun h2=>by have:=hal h2;omega) (by omega) (by omega) fun e' F2 S2 rs2 a2 w10 hres h10 hto10 c10=>?_;obtain ⟨em2,eg2,et2,hres⟩:=hres;have hto2:F.tw F2 w.heap.size:=hto7.trans hto10 hs7;have c010:Chg (dS F) w w10:=sub hto7 hrw c7 c10;rw [em] at hres;rw [hw1] at hres;rcases hres with ⟨rfl,⟨c1,b1,hs1,hch1⟩,⟨y,hy,hyo⟩,ew2,etk2,esk2⟩ | ⟨rfl,k,a,hch1,hsh,⟨y,hy,hyo⟩,ew2,hkl,etk2,ea,hm2⟩ | ⟨m,rfl,hm,⟨c1,b1,hch1,hst1⟩,etk2,ew2⟩
   ·refine cF rfl ?_;have hst:step1 S.most (B++bs) (8*S1.took+a1) S1.c=.next c1 (8*S1.took+b1):=by rw [qr8 htk,hs1];rfl
    have hch2:=(Ch.step hst (hch1.shift htk));have hmu:=qya hst hple.1;have hmu2:=(hch1.shift htk).le hmu.1;refine hI _ _ w10 ⟨F2,S2,rs2,a2,h10,hto2,c010,em2.trans em,eg2.trans eg,et2.trans et,by rw [etk2,ew2,<-hw1];exact etw,.inl ⟨.inl rfl,by rw [ew2,etk2],?_,⟨x++y,by rw [hy,hx,List.append_assoc],by rw [hyo,hxo]⟩,fun _=>rfl,fun e=>(by cases e)⟩⟩ ?_
    ·rw [etk2];exact hch.trans hch2
    ·rw [etk2];omega
   ·refine cT rfl ?_;refine zhj h10 fun w11 h11 c11=>?_;have c011:Chg (dS F) w w11:=sub hto2 hrw c010 c11;have hkl:k<=(B++bs).length-S1.took:=by rw [length_drop] at hkl;exact hkl
    have hch2:=hch1.shift htk;have hsh2:step1 S.most (B++bs) (8*S1.took+a) S2.c=.short:=by rw [qr8 htk,hsh];rfl
    have epos:8*S1.took+a=8*S2.took+min a1 a2:=by rw [etk2,ea];omega
    refine hI 0 _ w11 ⟨F2,S2,rs2,min a1 a2,h11,hto2,c011,em2.trans em,eg2.trans eg,et2.trans et,?_,.inl ⟨.inr rfl,?_,?_,⟨x++y,by rw [hy,hx,List.append_assoc],by rw [hyo,hxo]⟩,fun e=>(by cases e),fun _=>⟨hm2,?_⟩⟩⟩ (by omega)
    ·rw [etk2,ew2,length_drop,length_drop];omega
    ·rw [ew2,etk2,List.drop_drop]
    ·rw [<-epos];exact hch.trans hch2
    ·rw [<-epos];exact hsh2
   ·have hne:((m:Nat):Int)≠2:=by omega
    refine cF (by simpa using hne) ?_;have hst2:step1 S.most (B++bs) (8*S1.took+b1) c1=.err m:=by rw [qr8 htk,hst1];rfl
    refine hI 0 _ w10 ⟨F2,S2,rs2,a2,h10,hto2,c010,em2.trans em,eg2.trans eg,et2.trans et,by rw [etk2,ew2];rw [<-etw,hw1],.inr ⟨m,rfl,hm,c1,8*S1.took+b1,hch.trans (hch1.shift htk),hst2⟩⟩ (by omega)
  ·have hm5:S1.c.mode=5:=by have:=bne_eq_false_iff_eq.1 hm5;omega
   exact ends (.inl ⟨he0,hm5⟩)
 ·have he0:e≠0:=beq_eq_false_iff_ne.1 he0;rw [<-hd7];exact ends (.inr he0)
end
def cfg0:Cfg:=⟨0,false,0,[],[],[]⟩
section
variable {w:World} {base:Nat} {F:DF} {S:DS}
theorem za8 {most:Nat} {K:Option Addr->Int->World->Prop} (hm:most<=1073741824)
  (hK:∀F S w',w.heap.size=F.d->DecM w' F.d F S->Fed F S [] 0->S.c=cfg0->S.most=most->(∀k,dS F k->k=w.heap.size)->F.wait.blk=none->Below w.heap.size w w'->K (some ⟨F.d,0,none⟩) 0 w'):qqx most w K:=by
 refine q3e _ ?_;unfold qwb;refine jpO fun J hJ=>?_;refine cF (dFq (by omega)) (cF (dFq (by omega)) (hJ _ _ ?_));refine nwb fun w1 hb1 hB1 hs1=>?_;refine hK ⟨w.heap.size,nilS,nilS,nilS,none,none⟩ ⟨most,0,0,0,0,cfg0,[],[]⟩ w1 rfl ⟨hb1,le_refl _,Go.Vc.Own.nil _ _ _,Go.Vc.Own.nil _ _ _,Rd.nil _ _,?_,?_,?_,zero_le _,hm,zero_le _,zero_le _,zero_le _,zero_le _,zero_le _,⟨zero_le _,zero_le _,zero_le _⟩⟩ ⟨rfl,rfl,rfl,rfl,by decide,rfl,rfl,rfl,fun e=>by cases e⟩ rfl rfl ?_ rfl hB1
 ·intro e;cases e
 ·intro k e;cases e
 ·intro k e;cases e
 ·rintro k (e | e | e)
  ·exact e
  ·cases e
  ·cases e
end
section
variable {w w':World} {base g V n:Nat}
end
section
variable {w:World}
end
section
variable {w:World}
end
theorem cntF:(List.range 10).map (cntK qeu)=[0,0,0,0,0,0,0,24,152,112]:=by decide +kernel
section
variable {B:List UInt8} {a:Nat}
end
theorem qw8 {most:Nat} {B:List UInt8} {a:Nat} {c:Cfg} (h:c.mode=5):step1 most B a c=.short:=by rw [step1,if_pos h]
theorem Ch.same {most:Nat} {B:List UInt8} {c c1 c2:Cfg} {a a1 a2:Nat} (h1:Ch most B c a c1 a1) (h2:Ch most B c a c2 a2) (s1:∀c' a',step1 most B a1 c1≠.next c' a') (s2:∀c' a',step1 most B a2 c2≠.next c' a'):c1=c2/\a1=a2:=by
 induction h1 with
 | refl c a =>
  cases h2 with
  | refl=>exact ⟨rfl,rfl⟩
  | step h r=>exact absurd h (s1 _ _)
 | step h r ih =>
  cases h2 with
  | refl=>exact absurd h (s2 _ _)
  | step h' r' =>
   rw [h] at h';injection h' with e1 e2
   subst e1 e2;exact ih r' s1
theorem q7c {most far:Nat} {h':List UInt8}:∀(n:Nat) (h:List UInt8),copyN most far n h=some h'->h'.length=h.length+n
 | 0,h,e=>by injection e with e;subst e;rfl
 | n+1,h,e=>by
  rw [copyN] at e;split at e
  ·cases e
  ·have:=q7c n _ e;rw [this,length_append,List.length_cons,length_nil];omega
theorem q6d {big small far:Nat} {h':List UInt8}:∀(n:Nat) (h:List UInt8),copyN big far n h=some h'->h.length<=small->copyN small far n h=if h'.length<=small then some h' else none
 | 0,h,e,hs=>by injection e with e;subst e;rw [if_pos hs];rfl
 | n+1,h,e,hs=>by
  have hl:=q7c _ _ e;rw [copyN] at e ⊢;split at e
  ·cases e
  ·by_cases h1:small<=h.length
   ·rw [if_pos h1,if_neg (by omega)]
   ·rw [if_neg h1];exact q6d n _ e (by simp;omega)
theorem zfn {big small:Nat} {B:List UInt8} {a a1:Nat} {c c1:Cfg} (h:step1 big B a c=.next c1 a1) (hs:c.hist.length<=small):step1 small B a c=if c1.hist.length<=small then .next c1 a1 else .err 5:=by
 unfold step1 at h ⊢;by_cases hm5:c.mode=5
 ·rw [if_pos hm5] at h;cases h
 rw [if_neg hm5] at h ⊢;unfold stepN at h ⊢;by_cases m0:c.mode=0
 ·rw [if_pos m0] at h ⊢;rw [h];unfold qi5 at h;dsimp only at h
  repeat' split at h
  all_goals first | (cases h;done) | (injection h with h1 h2;subst h1;rw [if_pos hs])
 rw [if_neg m0] at h ⊢;by_cases m1:c.mode=1
 ·rw [if_pos m1] at h ⊢;rw [h];unfold qf8 at h
  repeat' split at h
  all_goals first | (cases h;done) | (injection h with h1 h2;subst h1;rw [if_pos hs])
 rw [if_neg m1] at h ⊢;by_cases m2:c.mode=2
 ·rw [if_pos m2] at h ⊢;unfold qhh at h ⊢;split at h
  ·next h0=>injection h with h1 h2;subst h1 h2;rw [if_pos h0];exact (if_pos hs).symm
  ·next h0 =>
   rw [if_neg h0];split at h
   ·cases h
   ·next h3 =>
    rw [if_neg h3];split at h
    ·cases h
    ·injection h with h1 h2
     subst h1 h2;show _=if (c.hist++[_]).length<=small then _ else _
     rw [length_append,List.length_cons,length_nil];by_cases h4:small<=c.hist.length
     ·rw [if_pos h4,if_neg (by omega)]
     ·rw [if_neg h4,if_pos (by omega)]
 rw [if_neg m2] at h ⊢;by_cases m3:c.mode=3
 ·rw [if_pos m3] at h ⊢;rw [h];unfold qo7 at h;dsimp only at h
  repeat' split at h
  all_goals first | (cases h;done) | (injection h with h1 h2;subst h1;rw [if_pos hs])
 rw [if_neg m3] at h ⊢;unfold ql2 at h ⊢;cases hr:readT c.sg B a with
 | short=>rw [hr] at h;cases h
 | form=>rw [hr] at h;cases h
 | sym y k =>
  rw [hr] at h;dsimp only at h ⊢;split at h
  ·next h0=>injection h with h1 h2;subst h1 h2;rw [if_pos h0];exact (if_pos hs).symm
  ·next h0 =>
   rw [if_neg h0];split at h
   ·cases h
   ·next h3 =>
    rw [if_neg h3];split at h
    ·next h5 =>
     rw [if_pos h5];split at h
     ·cases h
     ·injection h with h1 h2
      subst h1 h2;show _=if (c.hist++[_]).length<=small then _ else _
      rw [length_append,List.length_cons,length_nil];by_cases h4:small<=c.hist.length
      ·rw [if_pos h4,if_neg (by omega)]
      ·rw [if_neg h4,if_pos (by omega)]
    ·next h5 =>
     rw [if_neg h5];obtain ⟨b,n,hbn⟩:∃b n,qfm y=(b,n):=⟨_,_,rfl⟩;simp only [hbn] at h ⊢;split at h
     ·cases h
     ·next h6 =>
      rw [if_neg h6];cases hr2:readT c.ds B (a+k+n) with
      | short=>rw [hr2] at h;cases h
      | form=>rw [hr2] at h;cases h
      | sym z j =>
       rw [hr2] at h;dsimp only at h ⊢;split at h
       ·cases h
       ·next h7 =>
        rw [if_neg h7];obtain ⟨b2,n2,hbn2⟩:∃b n,qdh z=(b,n):=⟨_,_,rfl⟩;simp only [hbn2] at h ⊢;split at h
        ·cases h
        ·next h8 =>
         rw [if_neg h8];split at h
         ·cases h
         ·next h9 =>
          rw [if_neg h9];cases hc:copyN big (b2+peekN B (a+k+n+j) n2) (b+peekN B (a+k) n) c.hist with
          | none=>rw [hc] at h;cases h
          | some h' =>
           rw [hc] at h;injection h with h1 h2
           subst h1 h2;rw [q6d _ _ hc hs];show _=if h'.length<=small then _ else _
           by_cases hh:h'.length<=small
           ·rw [if_pos hh,if_pos hh]
           ·rw [if_neg hh,if_neg hh]
theorem Ch.most {most:Nat} {B:List UInt8} {c c':Cfg} {a a':Nat} (h:Ch most B c a c' a') (hs:c.hist.length<=most):c'.hist.length<=most:=by
 induction h with
 | refl c a=>exact hs
 | @step c a c1 a1 c2 a2 h r ih =>
  refine ih ?_;have h1:=zfn h hs;by_cases hl:c1.hist.length<=most
  ·exact hl
  ·rw [if_neg hl,h] at h1;cases h1
section
variable {w:World}
end
abbrev q1s:Nat:=303
abbrev qzg:Nat:=304
def qih (p:Nat×Nat) (b:UInt8):Nat×Nat:=((p.1+b.toNat)%65521,(p.2+(p.1+b.toNat)%65521)%65521)
def adl (bs:List UInt8):Nat×Nat:=bs.foldl qih (1,0)
def adlN (bs:List UInt8):Nat:=(adl bs).2*65536+(adl bs).1
theorem zfo (bs:List UInt8):∀p:Nat×Nat,p.1<65521->p.2<65521->(bs.foldl qih p).1<65521/\(bs.foldl qih p).2<65521:=by
 induction bs with
 | nil=>intro p h1 h2;exact ⟨h1,h2⟩
 | cons b r ih=>intro p _ _;exact ih _ (Nat.mod_lt _ (by decide)) (Nat.mod_lt _ (by decide))
theorem zfp (p:Nat×Nat) (bs:List UInt8) (b:UInt8):(bs++[b]).foldl qih p=qih (bs.foldl qih p) b:=by simp
def qdw (p:Nat×Nat):List Value:=[.int .u32 (p.1:Int),.int .u32 (p.2:Int)]
theorem Rd.blk_lt {T:Type} {E:El T} {w:World} {s:Slc} {xs:List T} (h:Rd E w s xs) (hne:xs≠[]):∀k,s.blk=some k->k<w.heap.size:=fun k hk=>by
 obtain ⟨a,ha,rfl⟩:=slk.1 hk;have hl:0<xs.length:=List.length_pos_iff.2 hne;have:=h.lt hl;simpa [Slc.at_,ha] using this
section
variable {w:World}
theorem zga {s:Nat} {p:Nat×Nat} {b:Slc} {bs:List UInt8} {K:Int->Value->World->Prop} (hs:Blk w s qb6 (qdw p)) (hp:p.1<65521/\p.2<65521) (hb:Rd qae w b bs) (hne:bs≠[]->∀k,b.blk=some k->k≠s) (hl:bs.length<=1000000000000)
  (hK:∀w',Blk w' s qb6 (qdw (bs.foldl qih p))->Chg (fun k=>k=s) w w'->K ((bs.length:Nat):Int) .nilIface w'):qjl (some ⟨s,0,none⟩) b w K:=by
 refine qwz _ _ ?_;unfold qoo;simp only [onPtr_some];rw [hb.n];refine lpR (fun (t:Int×Unit) w1=>∃i:Nat,t.1=i/\i<=bs.length/\Blk w1 s qb6 (qdw ((bs.take i).foldl qih p))/\Chg (fun k=>k=s) w w1) (fun t=>bs.length-t.1.toNat) ⟨0,rfl,by omega,hs,Chg.refl _ _⟩ ?_;rintro ⟨i,_⟩ w1 ⟨i,rfl,hi,h1,hc⟩ I hI;dsimp only at *;refine cO (fun hlt=>?_) (fun hge=>?_)
 ·have hlt:=oTq hlt;have hil:i<bs.length:=by omega
  obtain ⟨x,hx,hxs⟩:=qcw (xs:=bs) (k:=i) hil;have hbn:bs≠[]:=fun e=>by rw [e] at hil;exact absurd hil (Nat.not_lt_zero _)
  have hb1:Rd qae w1 b bs:=hb.chg hc fun a ha e=>hne hbn _ (slk.2 ⟨a,ha,rfl⟩) e;refine hb1.ix (i:=(i:Int)) rfl (by omega) (by omega) fun hcx=>?_;rw [hxs] at hcx;refine ldB8 (b:=x) hcx ?_;obtain ⟨q,hq⟩:∃q,q=(bs.take i).foldl qih p:=⟨_,rfl⟩;rw [<-hq] at h1;have hql:=zfo (bs.take i) p hp.1 hp.2;rw [<-hq] at hql;have h8:=x.toNat_lt;refine lI (x:=(q.1:Int)) (h1.cells 0 _ rfl) ⟨by decide,?_⟩;rw [qax .u32 (x:=x.toNat) (by show _<2^32;omega),show (q.1:Int)+(x.toNat:Int)=((q.1+x.toNat:Nat):Int) from rfl,qax .u32 (x:=q.1+x.toNat) (by show _<2^32;omega),
   show (65521:Int)=((65521:Nat):Int) from rfl,<-Int.ofNat_tmod]
  rw [qas];refine qaj h1 (by simp [qdw]) fun w2 hb2 hg2 hs2=>?_;have hb2:Blk w2 s qb6 (qdw ((q.1+x.toNat)%65521,q.2)):=hb2;have hb2d:Blk w2.drew s qb6 (qdw ((q.1+x.toNat)%65521,q.2)):=hb2;refine lI (x:=(q.2:Int)) (hb2d.cells 1 _ rfl) ?_;refine lI (x:=(((q.1+x.toNat)%65521:Nat):Int)) (hb2d.cells 0 _ rfl) ⟨by decide,?_⟩;rw [show (q.2:Int)+(((q.1+x.toNat)%65521:Nat):Int)=((q.2+(q.1+x.toNat)%65521:Nat):Int) from rfl,qax .u32 (x:=q.2+(q.1+x.toNat)%65521) (by show _<2^32;omega),<-Int.ofNat_tmod];rw [qas];refine qaj hb2d (by simp [qdw]) fun w3 hb3 hg3 hs3=>?_;have hb3:Blk w3 s qb6 (qdw (qih q x)):=hb3;rw [w64i (by omega)];refine hI _ _ ⟨i+1,rfl,by omega,?_,?_⟩ (by simp;omega)
  ·have e:bs.take (i+1)=bs.take i++[x]:=by rw [List.take_add_one,hx];rfl
   rw [e,zfp,<-hq];exact hb3
  ·have hBd:Below w2.heap.size w2 w2.drew:=(Below.refl _ w2).drew;exact ((hc.trans (Chg.gg hg2) fun i _ hi=>hi).trans (Chg.of_ext (S:=fun k=>k=s) hBd) fun i _ hi=>hi).trans (Chg.gg hg3) fun i _ hi=>hi
 ·have hge:=oFq hge;have:i=bs.length:=by omega
  subst this;rw [List.take_length] at h1;exact hK w1 h1 hc
theorem zgy {s:Nat} {p:Nat×Nat} {K:Int->World->Prop} (hs:Blk w s qb6 (qdw p)) (hp:p.1<65521/\p.2<65521) (hK:K ((p.2*65536+p.1:Nat):Int) w.drew):ql6 (some ⟨s,0,none⟩) w K:=by
 refine qzi _ ?_;unfold qrq;simp only [onPtr_some];have hsd:Blk w.drew s qb6 (qdw p):=hs;refine lI (x:=(p.2:Int)) (hsd.cells 1 _ rfl) ⟨by decide,?_⟩;refine lI (x:=(p.1:Int)) (hsd.cells 0 _ rfl) ?_;rw [show min ((16:Int)).toNat u32.bits=16 by decide,qbk,qax .u32 (x:=p.2*2^16) (by show _<2^32;omega),qd3 .u32 (by show _<2^32;omega) (by show _<2^32;omega)];have e:p.2*2^16 ||| p.1=p.2*65536+p.1:=by
  rw [Nat.or_comm,Nat.mul_comm,qg8 (by omega)];omega
 rw [e];exact hK
theorem zhl (s : Option Addr) (w : World) : (method (PG.types.size + Made.depth) qe1 (.pointer s) "Write").run PG w = .ok (qzg, .pointer s) w := qlv _ (by kernel_rfl) w
theorem zhx (s : Option Addr) (w : World) : (method (PG.types.size + Made.depth) qe1 (.pointer s) "Sum").run PG w = .ok (q1s, .pointer s) w := qlv _ (by kernel_rfl) w
theorem callW {s : Option Addr} {b : Slc} {K : Int -> Value -> World -> Prop} (h : qjl s b w K) : callI C (.iface qe1 (.pointer s)) "Write" [.slice b.a b.n b.c] [(Kind.int .i64), Kind.raw] w K :=
 ⟨_,_,_,_,rfl,zhl s w,by kernel_rfl,h⟩
theorem callS {s : Option Addr} {K : Int -> World -> Prop} (h : ql6 s w K) : callI C (.iface qe1 (.pointer s)) "Sum" [] [(Kind.int .u32)] w K :=
 ⟨_,_,_,_,rfl,zhx s w,by kernel_rfl,h⟩
def bigN (bs:List UInt8):Nat:=bs.foldl (fun n b=>n*256+b.toNat) 0
theorem big4 (a b c d:UInt8):bigN [a,b,c,d]=((a.toNat*256+b.toNat)*256+c.toNat)*256+d.toNat:=by simp [bigN]
theorem zib {b:Slc} {x0 x1 x2 x3:UInt8} {K:Int->World->Prop} (hb:Rd qae w b [x0,x1,x2,x3]) (hK:K ((bigN [x0,x1,x2,x3]:Nat):Int) w.drew):qcp b w K:=by
 refine qyr _ ?_;unfold qux;rw [hb.n];have hd:Rd qae w.drew b [x0,x1,x2,x3]:=hb.drew;have a0:=x0.toNat_lt;have a1:=x1.toNat_lt;have a2:=x2.toNat_lt;have a3:=x3.toNat_lt;refine cF rfl ?_;refine hd.ix (i:=0) rfl (by omega) (by show (0:Int)<((4:Nat):Int);omega) fun h0=>ldB8 (b:=x0) h0 ⟨by decide,?_⟩;refine hd.ix (i:=1) rfl (by omega) (by show (1:Int)<((4:Nat):Int);omega) fun h1=>ldB8 (b:=x1) h1 ⟨by decide,?_⟩;refine hd.ix (i:=2) rfl (by omega) (by show (2:Int)<((4:Nat):Int);omega) fun h2=>ldB8 (b:=x2) h2 ⟨by decide,?_⟩;refine hd.ix (i:=3) rfl (by omega) (by show (3:Int)<((4:Nat):Int);omega) fun h3=>ldB8 (b:=x3) h3 ?_;rw [show min ((24:Int)).toNat u32.bits=24 by decide,show min ((16:Int)).toNat u32.bits=16 by decide,show min ((8:Int)).toNat u32.bits=8 by decide];rw [qax .u32 (x:=x0.toNat) (by show _<2^32;omega),qax .u32 (x:=x1.toNat) (by show _<2^32;omega),qax .u32 (x:=x2.toNat) (by show _<2^32;omega),qax .u32 (x:=x3.toNat) (by show _<2^32;omega),
  qbk,qbk,qbk,qax .u32 (x:=x0.toNat*2^24) (by show _<2^32;omega),qax .u32 (x:=x1.toNat*2^16) (by show _<2^32;omega),qax .u32 (x:=x2.toNat*2^8) (by show _<2^32;omega)]
 have e1:x0.toNat*2^24 ||| x1.toNat*2^16=x0.toNat*2^24+x1.toNat*2^16:=by
  rw [Nat.or_comm,Nat.mul_comm x0.toNat,qg8 (by omega)];omega
 have e2:(x0.toNat*2^24+x1.toNat*2^16) ||| x2.toNat*2^8=x0.toNat*2^24+x1.toNat*2^16+x2.toNat*2^8:=by
  rw [show x0.toNat*2^24+x1.toNat*2^16=2^16*(x0.toNat*2^8+x1.toNat) by omega,Nat.or_comm,qg8 (by omega)];omega
 have e3:(x0.toNat*2^24+x1.toNat*2^16+x2.toNat*2^8) ||| x3.toNat=x0.toNat*2^24+x1.toNat*2^16+x2.toNat*2^8+x3.toNat:=by
  rw [show x0.toNat*2^24+x1.toNat*2^16+x2.toNat*2^8=2^8*(x0.toNat*2^16+x1.toNat*2^8+x2.toNat) by omega,Nat.or_comm,qg8 (by omega)];omega
 rw [qd3 .u32 (by show _<2^32;omega) (by show _<2^32;omega),e1,qd3 .u32 (by show _<2^32;omega) (by show _<2^32;omega),e2,qd3 .u32 (by show _<2^32;omega) (by show _<2^32;omega),e3];rw [big4] at hK;rw [show x0.toNat*2^24+x1.toNat*2^16+x2.toNat*2^8+x3.toNat=((x0.toNat*256+x1.toNat)*256+x2.toNat)*256+x3.toNat by omega];exact hK
end
end Go.Proofs.YtedcpbkcamckoaaGreatDoor
namespace Go.Vc

end Go.Vc
namespace Go.Proofs.YtedcpbkcamckoaaGreatDoor
open Go.Vc Go.RowKit
set_option maxRecDepth 400000
open IntKind (i64)
open _root_.List (length_drop length_take)
theorem qij {w:World} {T:Type} {E:El T} {b g:Nat} {s:Slc} {xs:List T} {t:TypeId} {vs:List Value} (h:Go.Vc.Own E w b s xs) (h':Blk w g t vs) (hne:E.t≠t):∀k,s.blk=some k->k≠g:=fun k hk=>by
 obtain ⟨cs,hcs⟩:=h.blk_t hk;exact hcs.ne_t h' hne
def zh1 (c:UInt8):Bool:=c.toNat%16==8 && decide (c.toNat/16<=7)
def zh2 (a c:UInt8):Bool:=(a.toNat*256+c.toNat)%31==0 && c.toNat &&& 32==0
def qe6 (d:Nat) (head tail:Slc) (s:Nat) (failed:Int):List Value:=[.pointer (some ⟨d,0,none⟩),.slice head.a head.n head.c,.slice tail.a tail.n tail.c,.iface qe1 (.pointer (some ⟨s,0,none⟩)),.int .i64 0,.int .i64 failed]
section
variable {w:World} {base:Nat} {F:DF} {S:DS}
theorem qxu {z d s:Nat} {head tail:Slc} {f0 e:Int} {K:Int->World->Prop} (hz:Blk w z qbr (qe6 d head tail s f0)) (hK:∀w',Chg (fun k=>k=z) w w'->K e w'):qbp (some ⟨z,0,none⟩) e w K:=by
 refine qu5 _ _ ?_;unfold qnt;simp only [onPtr_some];rw [qas];exact qaj hz (by simp [qe6]) fun w1 hb1 hg1 hs1=>hK w1 (Chg.gg hg1)
theorem q9h {K:Bool->World->Prop} (h:Blk w F.d qbh (qa5 F S 0)) (hK:K (S.c.mode==5) w):qck (some ⟨F.d,0,none⟩) w K:=by
 refine qr0 _ ?_;unfold qkk;simp only [onPtr_some];refine lI (x:=((S.c.mode:Nat):Int)) (h.cells 1 _ rfl) ?_;refine cO (fun e=>?_) (fun e=>?_)
 ·have e:S.c.mode=5:=by have:=eq_of_beq e;omega
  rw [e] at hK;exact lI (x:=0) (h.cells 13 _ rfl) hK
 ·have e:S.c.mode≠5:=by have:=beq_eq_false_iff_ne.1 e;omega
  rw [show (S.c.mode==5)=false from beq_eq_false_iff_ne.2 e] at hK;exact hK
theorem q90 {K:Int->World->Prop} (h:Blk w F.d qbh (qa5 F S 0)) (h5:S.c.mode=5) (hK:K ((S.took:Nat):Int) w):qcl (some ⟨F.d,0,none⟩) w K:=by
 refine qsd _ ?_;unfold qkm;simp only [onPtr_some];refine q9h h ?_;exact cT (by rw [h5];rfl) (lI (x:=((S.took:Nat):Int)) (h.cells 11 _ rfl) hK)
def tailL (c:Cfg) (p:Nat) (rs:List UInt8):List UInt8:=if c.mode=5 then (rs.drop ((p+7)/8)).take 4 else []
theorem zrest {z s:Nat} {head r:Slc} {rs:List UInt8} {most:Nat} {c1:Cfg} {a1:Nat} {r0:SR} {K:Slc->Int->World->Prop}
  (hz:Blk w z qbr (qe6 F.d head nilS s 0)) (hs:Blk w s qb6 (qdw (1,0))) (hzb:base<=z) (hsb:base<=s) (h:DecM w base F S) (f:Fed F S [] 0) (ec:S.c=cfg0) (em:S.most=most)
  (hdz:∀k,dS F k->k≠z/\k≠s) (hw0:F.wait.blk=none) (hr:Rd qae w r rs) (hrb:∀k,r.blk=some k->¬dS F k/\k≠z/\k≠s) (hl:rs.length<=1000000000) (hbase:base<=w.heap.size) (hrh:∀k,r.blk=some k->k<w.heap.size)
  (hch:Ch most rs cfg0 0 c1 a1) (hst:step1 most rs a1 c1=r0) (hr0:∀c a,r0≠.next c a)
  (hE:∀n:Nat,r0=.err n->(n=3\/n=5)->∀w',Below base w w'->K nilS n w')
  (hS:(tailL c1 a1 rs).length=4->bigN (tailL c1 a1 rs)≠adlN c1.hist->∀w',Below base w w'->K nilS 4 w')
  (hO:(∀n,r0≠.err n)->((tailL c1 a1 rs).length=4->bigN (tailL c1 a1 rs)=adlN c1.hist)->∀o tail F' S' w',Go.Vc.Own qae w' base o c1.hist->Blk w' z qbr (qe6 F'.d head tail s 0)->Blk w' F'.d qbh (qa5 F' S' 0)->S'.c=c1->(c1.mode=5->S'.took=(a1+7)/8)->tail.n=(tailL c1 a1 rs).length->Below base w w'->K o 0 w') :
  onPtr (some ⟨z,0,none⟩) fun t40 =>
       ldP (t40.add 0) w fun t42 =>
       qec t42 w fun t43 w5 =>
       onPtr (some ⟨z,0,none⟩) fun t46 =>
       ldP (t46.add 0) w5 fun t48 =>
       qc7 t48 r w5 fun t50 t50_1 w6 =>
       cond (t50_1 !=(0:Int))
        (
        qbp (some ⟨z,0,none⟩) t50_1 w6 fun t57 w7 =>
        K (⟨none,0,0⟩:Slc) t57 w7)
        (
        onPtr (some ⟨z,0,none⟩) fun t59 =>
        ldR (t59.add 3) w6 fun t61 =>
        callI C t61 "Write" [(.slice t50.a t50.n t50.c)] [(Kind.int .i64), Kind.raw] w6 fun (t63 : Int) (t63_1 : Value) w8 =>
        onPtr (some ⟨z,0,none⟩) fun t65 =>
        ldP (t65.add 0) w8 fun t67 =>
        qck t67 w8 fun t68 w9 =>
        cond (!t68)
         (K t50 0 w9)
         (
          onPtr (some ⟨z,0,none⟩) fun t73 =>
          ldP (t73.add 0) w9 fun t75 =>
          qcl t75 w9 fun t76 w10 =>
          slK r (some (if ((r.n:Nat):Int)<(if (0:Int)>(i64.wrap (t76-t43)) then (0:Int) else (i64.wrap (t76-t43))) then ((r.n:Nat):Int) else (if (0:Int)>(i64.wrap (t76-t43)) then (0:Int) else (i64.wrap (t76-t43))))) none 1 fun t83 =>
          onPtr (some ⟨z,0,none⟩) fun t86 =>
          ldSl (t86.add 2) w10.drew fun t88 =>
          onPtr (some ⟨z,0,none⟩) fun t93 =>
          ldSl (t93.add 2) w10.drew fun t95 =>
          slK t83 none (some (if (i64.wrap ((4:Int)-((t95.n:Nat):Int)))<((t83.n:Nat):Int) then (i64.wrap ((4:Int)-((t95.n:Nat):Int))) else ((t83.n:Nat):Int))) 1 fun t99 =>
          nw qab [(.slice t88.a t88.n t88.c),(.slice t99.a t99.n t99.c)] w10.drew fun t100 w11 =>
          qbi (⟨(some t100),2,2⟩:Slc) w11 fun t101 w12 =>
          onPtr (some ⟨z,0,none⟩) fun t102 =>
          stK (t102.add 2) [(.slice t101.a t101.n t101.c)] w12 fun w13 =>
          joinP (σ:=Bool×Unit) (fun s_2 w14 =>
           cond s_2.1
            (
            qbp (some ⟨z,0,none⟩) 4 w14 fun t124 w15 =>
            K (⟨none,0,0⟩:Slc) t124 w15)
            (K t50 0 w14)) fun J3 =>
          onPtr (some ⟨z,0,none⟩) fun t105 =>
          ldSl (t105.add 2) w13.drew fun t107 =>
          cond (((t107.n:Nat):Int)==(4:Int))
           (
           onPtr (some ⟨z,0,none⟩) fun t112 =>
           ldSl (t112.add 2) w13.drew fun t114 =>
           onPtr (some ⟨z,0,none⟩) fun t117 =>
           ldR (t117.add 3) w13.drew fun t119 =>
           qcp t114 w13.drew fun t115 w16 =>
           World.cell? w16 (t117.add 3)=some t119 /\
           callI C t119 "Sum" [] [(Kind.int .u32)] w16 fun (t120 : Int) w17 =>
           J3 ((t115 !=t120),()) w17)
           (J3 (false,()) w13.drew))):=by
 simp only [onPtr_some];refine qa8 (x:=some ⟨F.d,0,none⟩) (hz.cells 0 _ rfl) ?_;refine qq5 _ ?_;unfold qji;simp only [onPtr_some];have hg0:S.given=0:=f.given;refine lI (x:=((S.given:Nat):Int)) (h.blk.cells 12 _ rfl) ?_;rw [hg0];refine qa8 (x:=some ⟨F.d,0,none⟩) (hz.cells 0 _ rfl) ?_;have below:∀{w2},Chg (dS F) w w2->Below base w w2:=fun hc=>hc.below hbase fun i hi hs=>by have:=(h.below i hs).1;omega
 refine zdo (bs:=rs) h f (by rw [ec];decide) hr (fun k hk=>(hrb k hk).1) (by simpa using hl) hbase (fun k hk=>by rw [hw0] at hk;cases hk) ?_ ?_
 ·intro o x p' F' S' w2 hch2 hcase hx ho hod h2 f2 em2 hto hwl hc;rw [em,ec] at hch2;rw [em] at hcase;rw [ec] at hx;have hx:S'.c.hist=x:=hx;rw [List.nil_append] at hch2 hcase f2;obtain ⟨rfl,rfl⟩:=hch.same hch2 (by rw [hst];exact hr0) (by
   rcases hcase with e5 | ⟨_,e⟩
   ·rw [qw8 e5];intro _ _ e;cases e
   ·rw [e];intro _ _ e;cases e)
  have hnoerr:∀n,r0≠.err n:=fun n e=>by
   rw [e] at hst;rcases hcase with e5 | ⟨_,e'⟩
   ·rw [qw8 e5] at hst;cases hst
   ·rw [e'] at hst;cases hst
  refine cF rfl ?_;have hz2:=hz.chg hc fun e=>(hdz _ e).1 rfl;have hs2:=hs.chg hc fun e=>(hdz _ e).2 rfl;refine ⟨_,hz2.cells 3 _ rfl,?_⟩;subst hx;have hhl:S'.c.hist.length<=1073741824:=by have:=h2.hm;have:=h2.mo;omega
  refine callW (zga hs2 (by decide) ho.rd (fun _ k hk=>qij ho hs2 (by decide) k hk) (by omega) fun w3 hs3 hc3=>?_);have hs3:Blk w3 s qb6 (qdw (adl S'.c.hist)):=hs3;have hz3:=hz2.chg hc3 fun e=>hz2.ne_t hs2 (by decide) e;have hd3:=h2.blk.chg hc3 fun e=>h2.blk.ne_t hs2 (by decide) e;have ho3:=ho.chg hc3 fun k hk e=>qij ho hs2 (by decide) k hk e;have hB3:Below base w w3:=(below hc).trans (hc3.below (by have:=hc.size;omega) fun i hi e=>by omega);have hz3:Blk w3 z qbr (qe6 F'.d head nilS s 0):=by rw [hto.d];exact hz3
  refine qa8 (x:=some ⟨F'.d,0,none⟩) (hz3.cells 0 _ rfl) ?_;refine q9h hd3 ?_;have htl:S'.c.mode≠5->tailL S'.c a1 rs=[]:=fun e=>if_neg e;by_cases e5:S'.c.mode=5
  ·refine cF (by rw [e5];rfl) ?_;refine qa8 (x:=some ⟨F'.d,0,none⟩) (hz3.cells 0 _ rfl) ?_;have htook:=f2.took;rw [if_pos e5] at htook;refine q90 hd3 e5 ?_;have hpl:=f2.pl;rw [htook];obtain ⟨u,hu⟩:∃u,u=(a1+7)/8:=⟨_,rfl⟩;have hul:u<=rs.length:=by omega
   rw [<-hu,show ((u:Nat):Int)-((0:Nat):Int)=(u:Int) by omega,w64i (x:=(u:Int)) (by omega),hr.n];have ecl:(if ((rs.length:Nat):Int)<(if (0:Int)>(u:Int) then (0:Int) else (u:Int)) then ((rs.length:Nat):Int) else (if (0:Int)>(u:Int) then (0:Int) else (u:Int)))=(u:Int):=by
    rw [if_neg (show ¬(0:Int)>(u:Int) by omega),if_neg (by omega)]
   rw [ecl];have hr2:Rd qae w2 r rs:=hr.chg hc fun a ha e=>(hrb _ (slk.2 ⟨a,ha,rfl⟩)).1 e;have hr3:Rd qae w3 r rs:=hr2.chg hc3 fun a ha e=>(hrb _ (slk.2 ⟨a,ha,rfl⟩)).2.2 e;refine hr3.slK (l:=u) (m:=rs.length) rfl (.inr rfl) (.inl ⟨rfl,rfl⟩) hul (Nat.le_refl _) fun hp=>?_;rw [List.take_length] at hp;obtain ⟨q,hq⟩:∃q:Slc,q=⟨cut r.a u r.c qae.k,rs.length-u,r.c-u⟩:=⟨_,rfl⟩;rw [<-hq] at hp ⊢;have hzd:Blk w3.drew z qbr (qe6 F'.d head nilS s 0):=hz3;refine lSl (x:=nilS) (hzd.cells 2 _ rfl) ?_;refine lSl (x:=nilS) (hzd.cells 2 _ rfl) ?_;rw [hp.n,length_drop,show i64.wrap ((4:Int)-((nilS.n:Nat):Int))=4 from rfl];obtain ⟨m,hm⟩:∃m,m=min 4 (rs.length-u):=⟨_,rfl⟩;have em4:(if (4:Int)<((rs.length-u:Nat):Int) then (4:Int) else ((rs.length-u:Nat):Int))=(m:Int):=by split<;>omega
   rw [em4];refine hp.drew.slK (l:=0) (m:=m) rfl (.inl ⟨rfl,rfl⟩) (.inr rfl) (by omega) (by rw [length_drop];omega) fun hp2=>?_;rw [List.drop_zero] at hp2;have etl:(rs.drop u).take m=tailL S'.c a1 rs:=by
    rw [tailL,if_pos e5,<-hu,hm];rcases Nat.le_total 4 (rs.length-u) with hle | hle
    ·rw [Nat.min_eq_left hle]
    ·rw [Nat.min_eq_right hle,List.take_of_length_le (by rw [length_drop];omega),List.take_of_length_le (by rw [length_drop];omega)]
   rw [etl] at hp2;have htl4:(tailL S'.c a1 rs).length<=4:=by rw [tailL,if_pos e5,length_take];omega
   have hBd:Below w3.heap.size w3 w3.drew:=(Below.refl _ w3).drew;refine q8k (Rd.nil qae w3.drew) hp2 (by simp;omega) fun t w4 ht hB4=>?_;rw [List.nil_append] at ht;have hsd:w3.drew.heap.size=w3.heap.size:=rfl;have hB34:Below w3.heap.size w3 w4:=hBd.trans hB4;have hz4:=hz3.ext hB34;rw [qas];refine qaj hz4 (by simp [qe6]) fun w5 hz5 hg5 hs5'=>?_;have hz5:Blk w5 z qbr (qe6 F'.d head t s 0):=hz5;have hc5:=Chg.gg hg5;have ht5:=ht.chg hc5 fun k hk e=>qij ht hz4 (by decide) k hk e;have hs5:=(hs3.ext hB34).chg hc5 fun e=>(hs3.ext hB34).ne_t hz4 (by decide) e;have hd5:=(hd3.ext hB34).chg hc5 fun e=>(hd3.ext hB34).ne_t hz4 (by decide) e;have ho5:=(ho3.ext hB34).chg hc5 fun k hk e=>qij (ho3.ext hB34) hz4 (by decide) k hk e;have hb3:=hB3.size;have hB5:Below base w w5:=(hB3.trans (hB34.mono (by omega))).trans (hc5.below (by have:=hB34.size;omega) fun i hi e=>by omega);have htn:t.n=(tailL S'.c a1 rs).length:=ht5.rd.n;have hBd5:Below w5.heap.size w5 w5.drew:=(Below.refl _ w5).drew;have hb5:=hB5.size;have hB5d:Below base w w5.drew:=hB5.trans (hBd5.mono (by omega));rw [show ∀(K:Slc->Int->World->Prop),(fun (s_2:Bool×Unit) w14=>cond s_2.1 (qbp (some ⟨z,0,none⟩) 4 w14 fun t124 w15=>K ⟨none,0,0⟩ t124 w15) (K o 0 w14))=(fun (s_2:Bool×Unit) w14=>cond s_2.1 (qbp (some ⟨z,0,none⟩) 4 w14 fun t124 w15=>K ⟨none,0,0⟩ t124 w15) (K o 0 w14)) from fun _=>rfl];refine jpO fun J hJ=>?_;refine lSl (x:=t) ((hz5.ext hBd5).cells 2 _ rfl) ?_;rw [htn];refine cO (fun h4=>?_) (fun h4=>?_)
   ·have h4:(tailL S'.c a1 rs).length=4:=by have:=eq_of_beq h4;omega
    refine lSl (x:=t) ((hz5.ext hBd5).cells 2 _ rfl) ?_;refine ⟨_,(hz5.ext hBd5).cells 3 _ rfl,?_⟩;obtain ⟨x0,x1,x2,x3,ex⟩:∃x0 x1 x2 x3,tailL S'.c a1 rs=[x0,x1,x2,x3]:=by
     match ht:tailL S'.c a1 rs,h4 with
     | [a,b,c,d],_=>exact ⟨a,b,c,d,rfl⟩
    have ht5d:Rd qae w5.drew t [x0,x1,x2,x3]:=by rw [<-ex];exact (ht5.ext hBd5).rd
    refine zib ht5d ?_;have hBdd:Below w5.drew.heap.size w5.drew w5.drew.drew:=(Below.refl _ _).drew;have hz7:=(hz5.ext hBd5).ext hBdd;have hs7:=(hs5.ext hBd5).ext hBdd;refine ⟨hz7.cells 3 _ rfl,?_⟩;have hl2:=zfo S'.c.hist (1,0) (by decide) (by decide);refine callS (zgy hs7 hl2 ?_);have hB8d:Below w5.heap.size w5 w5.drew.drew.drew:=hBd5.trans (hBdd.trans (Below.refl _ _).drew);refine hJ _ _ ?_;dsimp only;have esum:(((adl S'.c.hist).2*65536+(adl S'.c.hist).1:Nat):Int)=((adlN S'.c.hist:Nat):Int):=rfl;rw [esum,<-ex];refine cO (fun hne=>?_) (fun heq=>?_)
    ·have hne:bigN (tailL S'.c a1 rs)≠adlN S'.c.hist:=fun e=>by rw [e] at hne;simp at hne
     refine qxu (hz5.ext hB8d) fun w9 hc9=>?_;exact hS h4 hne w9 ((hB5.trans (hB8d.mono (by omega))).trans (hc9.below (by have:=hB8d.size;omega) fun i hi e=>by omega))
    ·have heq:bigN (tailL S'.c a1 rs)=adlN S'.c.hist:=by
      have:((bigN (tailL S'.c a1 rs):Nat):Int)=((adlN S'.c.hist:Nat):Int):=by simpa using heq
      omega
     exact hO hnoerr (fun _=>heq) o t F' S' _ (ho5.ext hB8d) (hz5.ext hB8d) (hd5.ext hB8d) rfl (fun _=>htook) htn (hB5.trans (hB8d.mono (by omega)))
   ·have h4:(tailL S'.c a1 rs).length≠4:=by have:=beq_eq_false_iff_ne.1 h4;omega
    refine hJ _ _ ?_;dsimp only;exact cF rfl (hO hnoerr (fun h=>absurd h h4) o t F' S' _ (ho5.ext hBd5) (hz5.ext hBd5) (hd5.ext hBd5) rfl (fun _=>htook) htn hB5d)
  ·have:(S'.c.mode==5)=false:=beq_eq_false_iff_ne.2 e5;rw [this];refine cT rfl ?_;have et:=htl e5;refine hO hnoerr (fun h=>by rw [et] at h;cases h) o nilS F' S' w3 ho3 hz3 hd3 rfl (fun h=>absurd h e5) (by rw [et];rfl) hB3
 ·intro n c' p' S' w2 hn hch2 hst2 hf _ hc;rw [em,ec] at hch2;rw [em] at hst2;rw [List.nil_append] at hch2 hst2;obtain ⟨rfl,rfl⟩:=hch.same hch2 (by rw [hst];exact hr0) (by rw [hst2];intro _ _ e;cases e);refine cT (by
           have:((n:Nat):Int)≠0:=by omega
           simpa using this) ?_
  have hz2:=hz.chg hc fun e=>(hdz _ e).1 rfl;have hb2:=(below hc).size;refine qxu hz2 fun w3 hc3=>hE n (by rw [<-hst,hst2]) hn w3 ((below hc).trans (hc3.below (by have:=hc.size;omega) fun i hi e=>by omega))
end
def zhN (hs:List UInt8) (c:UInt8):Bool:=match hs with | []=>zh1 c | a::_=>zh2 a c
section
variable {w:World} {base:Nat} {F:DF} {S:DS}
theorem zac {z d s:Nat} {head:Slc} {hs:List UInt8} {c:UInt8} {K:Bool->World->Prop} (hz:Blk w z qbr (qe6 d head nilS s 0)) (hh:Go.Vc.Own qae w base head hs) (hbase:base<=w.heap.size) (hl:hs.length<=1)
  (hK:∀head' w',Go.Vc.Own qae w' base head' (hs++[c])->Blk w' z qbr (qe6 d head' nilS s 0)->Chg (fun k=>k=z\/head.blk=some k) w w'->(head'.blk=head.blk\/∃k,head'.blk=some k/\w.heap.size<=k)->K (zhN hs c) w'):qhk (some ⟨z,0,none⟩) (c.toNat:Int) w K:=by
 refine qt2 _ _ ?_;unfold qmk;simp only [onPtr_some];refine lSl (x:=head) (hz.cells 1 _ rfl) ?_;refine apB1 (c:=c) rfl hh hbase (by omega) fun r w2 ho2 hc2 hq=>?_;have hz2:=hz.chg hc2 fun e=>qij hh hz (by decide) z e rfl;rw [qas];refine qaj hz2 (by simp [qe6]) fun w3 hz3 hg3 hs3=>?_;have hz3:Blk w3 z qbr (qe6 d r nilS s 0):=hz3;have ho3:=ho2.chg (Chg.gg hg3) (qij ho2 hz2 (by decide));have hc3:Chg (fun k=>k=z\/head.blk=some k) w w3:=(hc2.mono fun i _ hi=>.inr hi).trans (Chg.gg hg3) fun i _ hi=>.inl hi;have hK:=hK r w3 ho3 hz3 hc3 hq;refine lSl (x:=r) (hz3.cells 1 _ rfl) ?_;have hrn:=ho3.rd.n;rw [hrn];have c8:=c.toNat_lt
 match hs,hl with
 | [],_ =>
  refine cT rfl ?_;rw [show (15:Int)=((15:Nat):Int) from rfl,qgr .u8 (by show _<2^8;omega) (by decide),Nat.and_two_pow_sub_one_eq_mod c.toNat 4];have hK:K (zh1 c) w3:=hK;unfold zh1 at hK;cases h:(c.toNat%16==8) with
  | true =>
   have h':=eq_of_beq h;refine cT (by rw [show (2:Nat)^4=16 from rfl,h'];rfl) ⟨by decide,?_⟩;rw [show min ((4:Int)).toNat IntKind.u8.bits=4 by decide,qft,show (2:Nat)^4=16 from rfl];rw [h,Bool.true_and] at hK;have e:decide (((c.toNat/16:Nat):Int)<=7)=decide (c.toNat/16<=7):=by
    by_cases hh:c.toNat/16<=7
    ·rw [dTq hh,dTq (by omega)]
    ·rw [dFq hh,dFq (by omega)]
   rw [e];exact hK
  | false =>
   have h':=beq_eq_false_iff_ne.1 h;rw [h,Bool.false_and] at hK;exact cF (beq_eq_false_iff_ne.2 (by rw [show (2:Nat)^4=16 from rfl];omega)) hK
 | [a],_ =>
  have a8:=a.toNat_lt;refine cF rfl ?_;refine lSl (x:=r) (hz3.cells 1 _ rfl) ?_;refine ho3.rd.ix (i:=0) rfl (by omega) (by show (0:Int)<((2:Nat):Int);omega) fun h0=>?_;refine ldB8 (b:=a) h0 ⟨by decide,by decide,?_⟩;rw [show min ((8:Int)).toNat i64.bits=8 by decide,qax .i64 (x:=a.toNat) (by show _<2^63;omega),qax .i64 (x:=c.toNat) (by show _<2^63;omega),qbk,qax .i64 (x:=a.toNat*2^8) (by show _<2^63;omega),qd3 .i64 (by show _<2^63;omega) (by show _<2^63;omega)];have e:a.toNat*2^8 ||| c.toNat=a.toNat*256+c.toNat:=by
   rw [Nat.or_comm,Nat.mul_comm,qg8 (by omega)];omega
  rw [e,show (31:Int)=((31:Nat):Int) from rfl,<-Int.ofNat_tmod];have hK:K (zh2 a c) w3:=hK;unfold zh2 at hK;cases h:((a.toNat*256+c.toNat)%31==0) with
  | true =>
   have h':=eq_of_beq h;refine cT (by rw [h'];rfl) ?_;rw [show (32:Int)=((32:Nat):Int) from rfl,qgr .u8 (by show _<2^8;omega) (by decide)];rw [h,Bool.true_and] at hK;have e2:((((c.toNat &&& 32:Nat):Int))==(0:Int))=(c.toNat &&& 32==0):=by
    cases hh:(c.toNat &&& 32==0) with
    | true=>rw [eq_of_beq hh];rfl
    | false=>exact beq_eq_false_iff_ne.2 (by have:=beq_eq_false_iff_ne.1 hh;omega)
   rw [e2];exact hK
  | false =>
   have h':=beq_eq_false_iff_ne.1 h;rw [h,Bool.false_and] at hK;exact cF (beq_eq_false_iff_ne.2 (by omega)) hK
 | _::_::_,hl=>exact absurd hl (by simp)
def qfp:List UInt8->Bool
 | []=>true
 | [a]=>zh1 a
 | a::b::_=>zh1 a && zh2 a b
theorem q2q (bs:List UInt8):qfp (bs.take 2)=qfp bs:=by
 match bs with
 | []=>rfl
 | [a]=>rfl
 | a::b::r=>rfl
theorem zbg {bs:List UInt8} {j:Nat} {x:UInt8} (hj:j<=1) (hx:bs[j]?=some x) (h:qfp (bs.take j)=true):qfp (bs.take (j+1))=zhN (bs.take j) x:=by
 match j,hj,bs,hx with
 | 0,_,b::r,hx=>simp at hx;subst hx;rfl
 | 1,_,a::b::r,hx =>
  simp at hx;subst hx;have h:zh1 a=true:=h;show (zh1 a && zh2 a b)=_;rw [h,Bool.true_and];rfl
theorem zc1 {bs:List UInt8} {j:Nat} (hj:j<=2) (h:qfp (bs.take j)=false):qfp bs=false:=by
 match j,hj,bs with
 | 0,_,_=>cases h
 | 1,_,[]=>cases h
 | 1,_,[a]=>exact h
 | 1,_,a::b::r =>
  have h:zh1 a=false:=h;show (zh1 a && zh2 a b)=false;rw [h,Bool.false_and]
 | 2,_,bs=>rw [<-q2q];exact h
theorem q9k {z s:Nat} {b:Slc} {bs:List UInt8} {most:Nat} {c1:Cfg} {a1:Nat} {r0:SR} {K:Slc->Int->World->Prop}
  (hz:Blk w z qbr (qe6 F.d nilS nilS s 0)) (hs:Blk w s qb6 (qdw (1,0))) (hzb:base<=z) (hsb:base<=s) (h:DecM w base F S) (f:Fed F S [] 0) (ec:S.c=cfg0) (em:S.most=most)
  (hdz:∀k,dS F k->k≠z/\k≠s) (hw0:F.wait.blk=none) (hr:Rd qae w b bs) (hrb:∀k,b.blk=some k->¬dS F k/\k≠z/\k≠s) (hl:bs.length<=1000000000) (hbase:base<=w.heap.size) (hrh:∀k,b.blk=some k->k<w.heap.size)
  (hch:Ch most (bs.drop 2) cfg0 0 c1 a1) (hst:step1 most (bs.drop 2) a1 c1=r0) (hr0:∀c a,r0≠.next c a)
  (hH:qfp bs=false->∀w',Below base w w'->K nilS 3 w')
  (hE:qfp bs=true->∀n:Nat,r0=.err n->(n=3\/n=5)->∀w',Below base w w'->K nilS n w')
  (hS:qfp bs=true->(tailL c1 a1 (bs.drop 2)).length=4->bigN (tailL c1 a1 (bs.drop 2))≠adlN c1.hist->∀w',Below base w w'->K nilS 4 w')
  (hO:qfp bs=true->(∀n,r0≠.err n)->((tailL c1 a1 (bs.drop 2)).length=4->bigN (tailL c1 a1 (bs.drop 2))=adlN c1.hist)->∀o head tail F' S' w',Go.Vc.Own qae w' base o c1.hist->Blk w' z qbr (qe6 F'.d head tail s 0)->Blk w' F'.d qbh (qa5 F' S' 0)->S'.c=c1->(c1.mode=5->S'.took=(a1+7)/8)->tail.n=(tailL c1 a1 (bs.drop 2)).length->head.n=min 2 bs.length->Below base w w'->K o 0 w') :
  qhl (some ⟨z,0,none⟩) b w K:=by
 refine qtw _ _ ?_;unfold qmz;rw [onPtr_some];refine lI (x:=0) (hz.cells 5 _ rfl) (cF rfl ?_);refine qg4 (fun m (t:Slc×Unit) w1=>∃(j:Nat) (head:Slc),m=bs.length-j/\j<=2/\j<=bs.length/\Go.Vc.Own qae w1 base head (bs.take j)/\(∀k,head.blk=some k->w.heap.size<=k)/\Blk w1 z qbr (qe6 F.d head nilS s 0)/\Rd qae w t.1 (bs.drop j)/\(∀k,t.1.blk=some k->b.blk=some k)/\qfp (bs.take j)=true/\Chg (fun k=>k=z) w w1) bs.length
  ⟨0,nilS,rfl,by omega,by omega,Go.Vc.Own.nil _ _ _,fun k hk=>(by cases hk),hz,hr,fun k hk=>hk,rfl,Chg.refl _ _⟩ ?_
 rintro m ⟨t,_⟩ w1 ⟨j,head,rfl,hj,hjl,hh1,hhb,hz1,ht,htb,hok,hc1⟩ I hI;dsimp only at *;have hs1:=hc1.size;have hdl:(bs.drop j).length=bs.length-j:=length_drop;have htn:=ht.n;have hB1:Below base w w1:=hc1.below hbase fun i hi e=>by omega
 have rest:=fun (ed:bs.drop j=bs.drop 2) (hokb:qfp bs=true) (hhn:head.n=min 2 bs.length) =>
  zrest (w:=w1) (base:=base) (F:=F) (S:=S) (z:=z) (s:=s) (head:=head) (r:=t) (rs:=bs.drop 2) (most:=most) (c1:=c1) (a1:=a1) (r0:=r0) (K:=K)
   hz1 (hs.chg hc1 fun e=>hs.ne_t hz (by decide) e) hzb hsb
   (h.chg hc1 (fun k hk e=>by
    rcases hk with hk | hk
    ·exact (hdz k hk).1 e
    ·rw [hw0] at hk;cases hk) (fun k hk _=>by subst hk;exact ⟨_,_,hz,by decide,by decide⟩)) f ec em hdz hw0
   (by rw [<-ed];exact ht.chg hc1 fun a ha e=>(hrb _ (htb _ (slk.2 ⟨a,ha,rfl⟩))).2.1 e) (fun k hk=>hrb k (htb k hk)) (by rw [<-ed];omega) (by omega) (fun k hk=>by have:=hrh k (htb k hk);omega) hch hst hr0
   (fun n hn h35 w' hB=>hE hokb n hn h35 w' (hB1.trans hB)) (fun h4 hne w' hB=>hS hokb h4 hne w' (hB1.trans hB))
   (fun he ht4 o tail F' S' w' ho hzz hdd hcc htk htn' hB=>hO hokb he ht4 o head tail F' S' w' ho hzz hdd hcc htk htn' hhn (hB1.trans hB))
 have ends:(j=2\/j=bs.length)->bs.drop j=bs.drop 2/\qfp bs=true/\head.n=min 2 bs.length:=fun hend=>by
  refine ⟨?_,?_,?_⟩
  ·rcases hend with rfl | rfl
   ·rfl
   ·rw [List.drop_length,List.drop_eq_nil_of_le (by omega)]
  ·rcases hend with rfl | rfl
   ·rw [<-q2q];exact hok
   ·rwa [List.take_length] at hok
  ·rw [hh1.rd.n,length_take];omega
 refine jpO fun J hJ=>?_;rw [onPtr_some];refine lSl (x:=head) (hz1.cells 1 _ rfl) ?_;have hhl:=hh1.rd.n;rw [length_take,Nat.min_eq_left hjl] at hhl;rw [hhl];refine cO (fun h2=>?_) (fun h2=>?_)
 ·have h2:j<=1:=by have:=oTq h2;omega
  refine cO (fun hp=>hJ _ _ ?_) (fun hp=>?_)
  ·have hp:=oTq hp;have hjl':j<bs.length:=by omega
   have hx:bs[j]?=some bs[j]:=List.getElem?_eq_getElem hjl';have ht1:Rd qae w1 t (bs.drop j):=ht.chg hc1 fun a ha e=>(hrb _ (htb _ (slk.2 ⟨a,ha,rfl⟩))).2.1 e;refine ht1.ix (i:=0) rfl (by omega) (by omega) fun hc=>?_;have e0:∀h,(bs.drop j)[((0:Int)).toNat]'h=bs[j]:=fun hh=>by
    have:((0:Int)).toNat=0:=rfl;simp only [this,List.getElem_drop,Nat.add_zero]
   rw [e0] at hc;refine ldB8 (b:=bs[j]) hc ?_;refine zac hz1 hh1 (by omega) (by rw [length_take];omega) fun head' w2 hh2 hz2 hc2 hq=>?_;have hc12:Chg (fun k=>k=z) w w2:=hc1.trans hc2 fun i hi hi2=>by
    rcases hi2 with e | e
    ·exact e
    ·have:=hhb i e;omega
   have et:bs.take (j+1)=bs.take j++[bs[j]]:=by rw [List.take_add_one,hx];rfl
   rw [<-zbg h2 hx hok];cases hb:qfp (bs.take (j+1)) with
   | false =>
    refine cT rfl ?_;refine qxu hz2 fun w3 hc3=>hH (zc1 (by omega) hb) w3 ?_;exact (hc12.below hbase fun i hi e=>by omega).trans (hc3.below (by have:=hc12.size;omega) fun i hi e=>by omega)
   | true =>
    refine cF rfl ?_;refine ht.slK (l:=1) (m:=(bs.drop j).length) rfl (.inr rfl) (.inl ⟨rfl,rfl⟩) (by omega) (Nat.le_refl _) fun hp2=>?_;rw [List.take_length,List.drop_drop] at hp2;refine hI (bs.length-(j+1)) _ w2 ⟨j+1,head',rfl,by omega,by omega,by rw [et];exact hh2,fun k hk=>?_,hz2,hp2,fun k hk=>?_,hb,hc12⟩ (by omega)
    ·rcases hq with e | ⟨k',e,hk'⟩
     ·exact hhb k (by rw [<-e];exact hk)
     ·rw [e] at hk;cases hk;omega
    ·obtain ⟨a,ha,e⟩:=slk.1 hk;obtain ⟨a',ha',e'⟩:=qgd ha;exact htb k (slk.2 ⟨a',ha',by rw [<-e',e]⟩)
  ·have hp:=oFq hp;obtain ⟨e1,e2,e3⟩:=ends (.inr (by omega));exact rest e1 e2 e3
 ·have h2:=oFq h2;obtain ⟨e1,e2,e3⟩:=ends (.inl (by omega));exact rest e1 e2 e3
def zend (bs:List UInt8) (c1:Cfg) (a1:Nat):Nat:=if (tailL c1 a1 (bs.drop 2)).length=4 then (if bigN (tailL c1 a1 (bs.drop 2))=adlN c1.hist then 0 else 4) else 2
def zerr (bs:List UInt8) (c1:Cfg) (a1:Nat) (r0:SR):Nat :=
 if qfp bs=false then 3
 else match r0 with
  | .err n=>n
  | .short=>zend bs c1 a1
  | .next _ _=>zend bs c1 a1
theorem q16 {b:Slc} {bs:List UInt8} {most:Nat} {c1:Cfg} {a1:Nat} {r0:SR} {K:Slc->Int->Int->World->Prop} (hm:most<=1073741824) (hr:Rd qae w b bs) (hrh:∀k,b.blk=some k->k<w.heap.size) (hl:bs.length<=1000000000)
  (hch:Ch most (bs.drop 2) cfg0 0 c1 a1) (hst:step1 most (bs.drop 2) a1 c1=r0) (hr0:∀c a,r0≠.next c a)
  (hK1:zerr bs c1 a1 r0=0->∀o w',Go.Vc.Own qae w' w.heap.size o c1.hist->Below w.heap.size w w'->K o ((6+(a1+7)/8:Nat):Int) 0 w')
  (hK2:∀n,zerr bs c1 a1 r0=n->n≠0->∀w',Below w.heap.size w w'->K nilS 0 n w'):qly b most w K:=by
 refine q22 _ _ ?_;unfold qw0;refine q7w _ ?_;unfold q2l;refine za8 hm fun F S w1 hd h f ec em hS hw0 hB1=>cF rfl ?_;have hs1:=hB1.size;have hdl:=h.blk.lt;refine qzy ?_;unfold qs5;refine nwb fun w2 hs2 hB2 hz2=>?_;obtain ⟨s,hs⟩:∃s,s=w1.heap.size:=⟨_,rfl⟩;rw [<-hs] at hs2 ⊢;refine nwb fun w3 hz3 hB3 hz3'=>?_;obtain ⟨z,hz⟩:∃z,z=w2.heap.size:=⟨_,rfl⟩;rw [<-hz] at hz3 ⊢;refine cF rfl ?_;have hs2:Blk w2 s qb6 (qdw (1,0)):=hs2;have hz3:Blk w3 z qbr (qe6 F.d nilS nilS s 0):=hz3;have hB03:Below w.heap.size w w3:=hB1.trans ((hB2.mono hs1).trans (hB3.mono (by omega)));have hs03:=hB03.size;have hb3:∀{w'},Below w.heap.size w3 w'->Below w.heap.size w w':=fun hB=>hB03.trans hB;have err:∀n:Nat,n≠0->zerr bs c1 a1 r0=n->∀w',Below w.heap.size w3 w'->(cond ((n:Int) !=(0:Int)) (K (⟨none,0,0⟩:Slc) 0 n w') (qiy (some ⟨z,0,none⟩) w' fun t30 w3=>cond (!t30) (K (⟨none,0,0⟩:Slc) 0 2 w3) (qio (some ⟨z,0,none⟩) w3 fun t34 w4=>K nilS t34 0 w4))):=fun n hn he w' hB=>by
  refine cT (by
           have:((n:Nat):Int)≠0:=by omega
           simpa using this) (hK2 n he hn w' (hb3 hB))
 refine q9k (base:=w.heap.size) (bs:=bs) (most:=most) (c1:=c1) (a1:=a1) (r0:=r0) hz3 (hs2.ext hB3) (by omega) (by omega) ?_ f ec em (fun k hk=>by have:=hS k hk;omega) hw0 (hr.ext hB03) (fun k hk=>?_) hl hs03 (fun k hk=>by have:=hrh k hk;omega) hch hst hr0 ?_ ?_ ?_ ?_
 ·have h2:=(h.ext hB2).ext hB3;exact ⟨h2.blk,by omega,h2.ring.base (by omega),h2.out.base (by omega),h2.wait,(fun e=>by rw [ec] at e;cases e),h2.ne,h2.wn,h2.m5,h2.mo,h2.ho,h2.hm,h2.hl,h2.hw,h2.hs,h2.ht⟩
 ·have:=hrh k hk;exact ⟨fun hk2=>by have:=hS k hk2;omega,by omega,by omega⟩
 ·intro hb w' hB;exact err 3 (by decide) (by rw [zerr.eq_def,if_pos hb]) w' hB
 ·intro hb n hn h35 w' hB;exact err n (by omega) (by rw [zerr.eq_def,if_neg (by rw [hb];decide),hn]) w' hB
 ·intro hb h4 hne w' hB;have hnr:∀n,r0≠.err n:=fun n e=>by
   have h5:c1.mode=5:=by
    by_cases h5:c1.mode=5
    ·exact h5
    ·rw [tailL,if_neg h5] at h4;cases h4
   rw [qw8 h5] at hst;rw [e] at hst;cases hst
  refine err 4 (by decide) ?_ w' hB;rw [zerr.eq_def,if_neg (by rw [hb];decide)];cases r0 with
  | next c a=>exact absurd rfl (hr0 c a)
  | err n=>exact absurd rfl (hnr n)
  | short=>show zend bs c1 a1=_;rw [zend,if_pos h4,if_neg hne]
 ·intro hb hnr hsum o head tail F' S' w' ho hzz hdd hcc htk htn hhn hB;have ez:zerr bs c1 a1 r0=if (tailL c1 a1 (bs.drop 2)).length=4 then 0 else 2:=by
   rw [zerr.eq_def,if_neg (by rw [hb];decide)];cases r0 with
   | next c a=>exact absurd rfl (hr0 c a)
   | err n=>exact absurd rfl (hnr n)
   | short =>
    show zend bs c1 a1=_;rw [zend];split
    ·next h4=>rw [if_pos (hsum h4)]
    ·rfl
  refine cF rfl ?_;refine qu2 _ ?_;unfold qnz;simp only [onPtr_some];refine lI (x:=0) (hzz.cells 5 _ rfl) (cT rfl ?_);refine lSl (x:=tail) (hzz.cells 2 _ rfl) ?_;rw [htn];by_cases h4:(tailL c1 a1 (bs.drop 2)).length=4
  ·rw [if_pos h4] at ez;have h5:c1.mode=5:=by
    by_cases h5:c1.mode=5
    ·exact h5
    ·rw [tailL,if_neg h5] at h4;cases h4
   refine cF (by rw [h4];rfl) ?_;refine qvc _ ?_;unfold qnk;simp only [onPtr_some];have hBd:Below w'.heap.size w' w'.drew:=(Below.refl _ w').drew;refine lSl (x:=head) ((hzz.ext hBd).cells 1 _ rfl) ?_;refine qa8 (x:=some ⟨F'.d,0,none⟩) ((hzz.ext hBd).cells 0 _ rfl) ?_;refine lSl (x:=tail) ((hzz.ext hBd).cells 2 _ rfl) ?_;refine q90 (hdd.ext hBd) (by rw [hcc];exact h5) ⟨(hzz.ext hBd).cells 2 _ rfl,(hzz.ext hBd).cells 1 _ rfl,?_⟩;have hal:a1<=8*(bs.drop 2).length:=(hch.le (Nat.zero_le _)).1;rw [length_drop] at hal;have hb2:2<=bs.length:=by
    rcases Nat.lt_or_ge bs.length 2 with hlt | hge
    ·exfalso;rw [tailL,if_pos h5,length_take,length_drop,length_drop] at h4;omega
    ·exact hge
   rw [htk h5,htn,h4,hhn,Nat.min_eq_left hb2,w64i (x:=((2:Nat):Int)+(((a1+7)/8:Nat):Int)) (by omega),w64i (by omega)];have e:((2:Nat):Int)+(((a1+7)/8:Nat):Int)+((4:Nat):Int)=((6+(a1+7)/8:Nat):Int):=by omega
   rw [e];have hs':=hB.size;exact hK1 ez o _ (ho.ext hBd) (hb3 (hB.trans (hBd.mono (by omega))))
  ·rw [if_neg h4] at ez;refine cT (by rw [show ((((tailL c1 a1 (bs.drop 2)).length:Nat):Int)==4)=false from beq_eq_false_iff_ne.2 (by omega)];rfl) ?_;exact hK2 2 ez (by decide) w' (hb3 hB)
theorem qtq (n:Nat):IntKind.u8.wrap (n:Int)=(((UInt8.ofNat n).toNat:Nat):Int):=by
 rw [zh5];show (((UInt8.ofNat ((n:Int)%256).toNat).toNat:Nat):Int)=_;rw [UInt8.toNat_ofNat',UInt8.toNat_ofNat'];omega
end
end Go.Proofs.YtedcpbkcamckoaaGreatDoor
namespace Go.Proofs.YtedcpbkcamckoaaGreatDoor
open Go.Vc
structure ChL where
 kind:List UInt8
 data:List UInt8
def signL:List UInt8:=[137,80,78,71,13,10,26,10]
def ihdrL:List UInt8:=[73,72,68,82]
def plteL:List UInt8:=[80,76,84,69]
def trnsL:List UInt8:=[116,82,78,83]
def idatL:List UInt8:=[73,68,65,84]
def iendL:List UInt8:=[73,69,78,68]
def qe0 (c:UInt8):Bool:=decide (65<=c.toNat/\c.toNat<=90\/97<=c.toNat/\c.toNat<=122)
inductive ChR where
 | err (n:Nat)
 | ok (c:ChL) (n:Nat)
def qeq (b:List UInt8):ChR :=
 if b.length<4 then .err 2
 else if bigN (b.take 4)>2147483647 then .err 3
 else if b.length<8 then .err 2
 else if ((b.take 8).drop 4).all qe0=false then .err 3
 else if bigN (b.take 4)+12>b.length then .err 2
 else if crcN ((b.take (8+bigN (b.take 4))).drop 4)≠bigN ((b.drop (8+bigN (b.take 4))).take 4) then .err 4
 else .ok ⟨(b.take 8).drop 4,(b.take (8+bigN (b.take 4))).drop 8⟩ (12+bigN (b.take 4))
def signP (b:List UInt8):Nat:=if b.take 8≠signL.take b.length then 3 else if b.length<8 then 2 else 0
def qca (one:Bool):Nat->List UInt8->Nat×List ChL
 | 0,_=>(2,[])
 | f+1,b=>match qeq b with
  | .err n=>(n,[])
  | .ok c n=>if one || decide (c.kind=iendL) then (0,[c]) else ((qca one f (b.drop n)).1,c::(qca one f (b.drop n)).2)
def qcm (one:Bool) (b:List UInt8):Nat×List ChL :=
 if signP b≠0 then (signP b,[]) else if (qca one b.length (b.drop 8)).1≠0 then ((qca one b.length (b.drop 8)).1,[]) else (0,(qca one b.length (b.drop 8)).2)
def qak (color:Int):Nat:=if color=0\/color=3 then 1 else if color=2 then 3 else if color=4 then 2 else if color=6 then 4 else 0
def qmv (h:qag):Bool:=decide (h.Depth=8\/h.Depth=16/\h.Color≠3\/(h.Color=0\/h.Color=3)/\(h.Depth=1\/h.Depth=2\/h.Depth=4))
def qgw (h:qag):Nat :=
 if h.W<1\/h.W>16384\/h.H<1\/h.H>16384 then 1
 else if qak h.Color=0\/qmv h=false\/h.Lace<0\/h.Lace>1 then 8 else 0
def headZ:qag:=⟨0,0,0,0,0⟩
def qgy (d:List UInt8):qag:=⟨(bigN (d.take 4):Nat),(bigN ((d.drop 4).take 4):Nat),((d[8]?.getD 0).toNat:Nat),((d[9]?.getD 0).toNat:Nat),((d[12]?.getD 0).toNat:Nat)⟩
def headP (c:ChL):Nat×qag :=
 if c.kind≠ihdrL\/c.data.length≠13\/c.data[10]?.getD 0≠0\/c.data[11]?.getD 0≠0 then (3,headZ)
 else if qgw (qgy c.data)≠0 then (qgw (qgy c.data),headZ) else (0,qgy c.data)
def infoP (b:List UInt8):Nat×qag :=
 match qcm true b with
 | (0,c::_)=>headP c
 | (e,_)=>(e,headZ)
structure FilL where
 h:qag
 pal:List UInt8
 hasP:Bool
 tr:List UInt8
 hasT:Bool
 data:List UInt8
 hasD:Bool
 wasD:Bool
def fil0 (h:qag):FilL:=⟨h,[],false,[],false,[],false,false⟩
def qqf (f:FilL) (d:List UInt8):Bool :=
 !(f.hasP || f.hasD || decide (f.h.Color=0) || decide (f.h.Color=4) || decide (d.length%3≠0) || decide (d.length/3<1) || decide (d.length/3>256) || (decide (f.h.Color=3) && decide (d.length/3>2^f.h.Depth.toNat)))
def qp1 (f:FilL) (d:List UInt8):Bool :=
 !f.hasT && !f.hasD && (if f.h.Color=0 then decide (d.length=2) else if f.h.Color=2 then decide (d.length=6) else if f.h.Color=3 then f.hasP && decide (d.length<=f.pal.length/3) else false)
def takeP (f:FilL) (c:ChL):Nat×FilL :=
 if c.kind=ihdrL then (3,f)
 else if c.kind=plteL then (if qqf f c.data then (0,{ f with wasD:=false,pal:=c.data,hasP:=true }) else (3,f))
 else if c.kind=trnsL then (if qp1 f c.data then (0,{ f with wasD:=false,tr:=c.data,hasT:=true }) else (3,f))
 else if c.kind=idatL then (if !f.hasD || f.wasD then (0,{ f with wasD:=true,hasD:=true,data:=f.data++c.data }) else (3,f))
 else if c.kind=iendL then (if c.data=[] then (0,{ f with wasD:=false }) else (3,f))
 else if (c.kind[0]?.getD 0).toNat<=90 then (8,f) else (0,{ f with wasD:=false })
def qcq (f:FilL):List ChL->Nat×FilL
 | []=>(0,f)
 | c::l=>if (takeP f c).1≠0 then ((takeP f c).1,f) else qcq (takeP f c).2 l
def qwu (c:ChL) (l:List ChL) (pixels:Int):Nat×FilL :=
 if (headP c).1≠0 then ((headP c).1,fil0 headZ)
 else if (headP c).2.W*(headP c).2.H>pixels\/(headP c).2.W*(headP c).2.H>67108864 then (5,fil0 headZ)
 else if (qcq (fil0 (headP c).2) l).1≠0 then ((qcq (fil0 (headP c).2) l).1,fil0 headZ)
 else if (qcq (fil0 (headP c).2) l).2.hasD=false\/(headP c).2.Color=3/\(qcq (fil0 (headP c).2) l).2.hasP=false then (3,fil0 headZ)
 else (0,(qcq (fil0 (headP c).2) l).2)
def qek (b:List UInt8) (pixels:Int):Nat×FilL :=
 match qcm false b with
 | (0,c::l)=>qwu c l pixels
 | (e,_)=>(e,fil0 headZ)
def qfn (lace:Int):List PassP:=if lace=1 then zbh else zbq
def qcb (W H:Nat) (p:PassP):List (PassP×Nat×Nat):=(List.range (sizeP p W H).2).map fun y=>(p,y,(sizeP p W H).1)
def rowsL (h:qag):List (PassP×Nat×Nat):=(qfn h.Lace).flatMap (qcb h.W.toNat h.H.toNat)
def rowB (h:qag) (w:Nat):Nat:=rowP w (qak h.Color) h.Depth
def needP (h:qag):Nat:=((rowsL h).map fun r=>1+rowB h r.2.2).sum
def q8b (v n b:Nat):Nat:=if n<1\/v>n then 0 else (v*b+n/2)/n
def qg2 (d:Int) (v:Nat):UInt8:=if d=8 then UInt8.ofNat v else if d=16 then UInt8.ofNat (v/256) else UInt8.ofNat (q8b v (2^d.toNat-1) 255)
def qj2 (f:FilL) (s:List Nat) (n:Nat):Bool:=(List.range n).all fun i=>decide (s[i]?.getD 0=((f.tr[2*i]?.getD 0).toNat*256+(f.tr[2*i+1]?.getD 0).toNat)%2^f.h.Depth.toNat)
def qic (f:FilL) (s:List Nat):Option (List UInt8) :=
 let e:=fun i=>qg2 f.h.Depth (s[i]?.getD 0)
 if f.h.Color=3 then
  (
   if 3*s[0]?.getD 0>=f.pal.length then none
   else some [f.pal[3*s[0]?.getD 0]?.getD 0,f.pal[3*s[0]?.getD 0+1]?.getD 0,f.pal[3*s[0]?.getD 0+2]?.getD 0,if s[0]?.getD 0<f.tr.length then f.tr[s[0]?.getD 0]?.getD 0 else 255])
 else
  let a:UInt8:=if f.hasT && qj2 f s s.length then 0 else if f.h.Color=4\/f.h.Color=6 then e (s.length-1) else 255
  some (if f.h.Color=0\/f.h.Color=4 then [e 0,e 0,e 0,a] else [e 0,e 1,e 2,a])
def set4 (m:List UInt8) (k:Nat) (c:List UInt8):List UInt8:=m.take k++c++m.drop (k+4)
def pixAt (W:Nat) (p:PassP) (y x:Nat):Nat:=4*((p.y+y*p.dy)*W+p.x+x*p.dx)
def qoa (f:FilL) (p:PassP) (y:Nat) (s:List Nat):Nat->List UInt8->Option (List UInt8)
 | 0,m=>some m
 | x+1,m=>match qoa f p y s x m with
  | none=>none
  | some m=>(qic f ((s.drop (qak f.h.Color*x)).take (qak f.h.Color))).map (set4 m (pixAt f.h.W.toNat p y x))
structure PxS where
 b:List UInt8
 ahead:List UInt8
 m:List UInt8
def qj1 (h:qag):Nat:=(qak h.Color*h.Depth.toNat+7)/8
def qik (y:Nat) (a:List UInt8):List UInt8:=if y=0 then [] else a
def qfo (f:FilL) (r:PassP×Nat×Nat) (s:PxS):Option PxS :=
 match s.b with
 | []=>none
 | k::b =>
  if k.toNat>4 then none
  else
   let row:=undoP k.toNat (b.take (rowB f.h r.2.2)) (qik r.2.1 s.ahead) (qj1 f.h)
   (qoa f r.1 r.2.1 (qfu row f.h.Depth.toNat (qak f.h.Color*r.2.2)) r.2.2 s.m).map fun m=>⟨b.drop (rowB f.h r.2.2),row,m⟩
def qci (f:FilL):List (PassP×Nat×Nat)->PxS->Option PxS
 | [],s=>some s
 | r::l,s=>match qfo f r s with
  | none=>none
  | some s'=>qci f l s'
def qsl (f:FilL) (x:List UInt8):Option (List UInt8) :=
 (qci f (rowsL f.h) ⟨x,[],List.replicate (4*f.h.W.toNat*f.h.H.toNat) 0⟩).map (·.m)
end Go.Proofs.YtedcpbkcamckoaaGreatDoor
namespace Go.Proofs.YtedcpbkcamckoaaGreatDoor
open Go.Vc Go.RowKit
set_option maxRecDepth 400000
open IntKind (i64 u32)
open _root_.List (length_cons length_drop length_take mem_cons take_length take_of_length_le)
open _root_.Nat (le_refl)
abbrev q4p:Nat:=305
abbrev q14:Nat:=306
def qel (v:Nat):List Value:=[.int .u32 (v:Int)]
def qjj:List Value:=halfT.map fun (v:Nat)=>Value.int .u32 (v:Int)
theorem zig:∀i:Nat,i<16->halfT[i]?.getD 0<2^32:=by decide +kernel
theorem zex (v:Nat) (bs:List UInt8) (b:UInt8):crcS v (bs++[b])=byteC (crcS v bs) b:=by unfold crcS;rw [List.foldl_append];rfl
theorem and15 (v:Nat):v &&& 15=v%16:=by
 have:=Nat.and_two_pow_sub_one_eq_mod v 4;simpa using this
section
variable {w:World}
theorem zgo {s:Nat} {v:Nat} {b:Slc} {bs:List UInt8} {K:Int->Value->World->Prop} (hs:Blk w s qcz (qel v)) (hv:v<2^32) (hb:Rd qae w b bs) (hne:bs≠[]->∀k,b.blk=some k->k≠s) (hl:bs.length<=1000000000000)
  (hK:∀w',Blk w' s qcz (qel (crcS v bs))->Chg (fun k=>k=s) w w'->K ((bs.length:Nat):Int) .nilIface w'):ql4 (some ⟨s,0,none⟩) b w K:=by
 refine qzf _ _ ?_;unfold qrm;simp only [onPtr_some];rw [hb.n];refine nwb fun w1 hf1 hB1 hs1=>?_;refine qaj hf1 (by simp) fun w2 hf2 hg2 hs2=>?_;have hsl:=hs.lt;obtain ⟨hn,hhn⟩:∃hn,hn=w.heap.size:=⟨_,rfl⟩;rw [<-hhn] at hf2 hg2 ⊢;have hf2:Blk w2 hn qg7 qjj:=hf2;have hsn:s≠hn:=by omega
 have hB2:Below w.heap.size w w2:=hB1.grown hg2 (by omega) fun k hk=>by cases hk;omega
 have hs2:Blk w2 s qcz (qel v):=hs.ext hB2;have hb2:Rd qae w2 b bs:=hb.ext hB2;clear hf1 hB1;refine lpR (fun (t:Int×Unit) w3=>∃i:Nat,t.1=i/\i<=bs.length/\Blk w3 s qcz (qel (crcS v (bs.take i)))/\Blk w3 hn qg7 qjj/\Chg (fun k=>k=s) w2 w3) (fun t=>bs.length-t.1.toNat) ⟨0,rfl,by omega,hs2,hf2,Chg.refl _ _⟩ ?_;rintro ⟨i,_⟩ w3 ⟨i,rfl,hi,h3,hf3,hc⟩ I hI;dsimp only at *;refine cO (fun hlt=>?_) (fun hge=>?_)
 ·have hlt:=oTq hlt;have hil:i<bs.length:=by omega
  obtain ⟨x,hx,hxs⟩:=qcw (xs:=bs) (k:=i) hil;have hbn:bs≠[]:=fun e=>by rw [e] at hil;exact absurd hil (Nat.not_lt_zero _)
  have hb3:Rd qae w3 b bs:=hb2.chg hc fun a ha e=>hne hbn _ (slk.2 ⟨a,ha,rfl⟩) e;refine hb3.ix (i:=(i:Int)) rfl (by omega) (by omega) fun hcx=>?_;rw [hxs] at hcx;refine ldB8 (b:=x) hcx ?_;obtain ⟨q,hq⟩:∃q,q=crcS v (bs.take i):=⟨_,rfl⟩;rw [<-hq] at h3;have hql:q<2^32:=hq ▸ q5k _ hv;have h8:=x.toNat_lt;have hxl:=zbs hql x;refine lI (x:=(q:Int)) (h3.cells 0 _ rfl) ?_;rw [qax .u32 (x:=x.toNat) (by show _<2^32;omega),qxn .u32 hql (by show _<2^32;omega),add_zero];have nib:∀{u:Nat} {wa:World} {J:World->Prop},u<2^32->Blk wa s qcz (qel u)->Blk wa hn qg7 qjj->(∀w',Blk w' s qcz (qel (nibC u))->Blk w' hn qg7 qjj->Chg (fun k=>k=s) wa w'->J w') ->
    ldI .u32 (⟨s,0,none⟩:Addr) wa.drew fun t29=>0<=(4:Int)/\ldI .u32 (⟨s,0,none⟩:Addr) wa.drew fun t34=>ixA (⟨hn,0,none⟩:Addr) 16 (bitsR .and .u32 t34 (15:Int)) 1 fun t36=>ldI .u32 t36 wa.drew fun t37 =>
     stK (⟨s,0,none⟩:Addr) [(.int .u32 (bitsR .xor .u32 (t29.fdiv (2^(min (4:Int).toNat u32.bits))) t37))] wa.drew J:=by
   intro u wa J hu ha hfa hJ;have had:Blk wa.drew s qcz (qel u):=ha;have hfd:Blk wa.drew hn qg7 qjj:=hfa;refine lI (x:=(u:Int)) (had.cell 0 rfl) ⟨by decide,lI (x:=(u:Int)) (had.cell 0 rfl) ?_⟩;rw [show (15:Int)=((15:Nat):Int) from rfl,qgr .u32 hu (by decide),and15];have h16:u%16<16:=Nat.mod_lt _ (by decide);refine ⟨⟨by omega,by show ((u%16:Nat):Int)<((16:Nat):Int);omega⟩,?_⟩;rw [Int.toNat_natCast,Nat.mul_one];have hcell:qjj[u%16]?=some (.int .u32 ((halfT[u%16]?.getD 0:Nat):Int)):=by
    unfold qjj;rw [List.getElem?_map,List.getElem?_eq_getElem (show u%16<halfT.length from h16)];rfl
   refine lI (x:=((halfT[u%16]?.getD 0:Nat):Int)) (hfd.cells _ _ hcell) ?_;rw [show min ((4:Int)).toNat u32.bits=4 by decide,qft,qxn .u32 (by show _<2^32;omega) (zig _ h16)];refine qaj had (by simp [qel]) fun w' hb' hg' hs'=>hJ w' hb' (hfd.grown hg' (fun e=>by have:=Option.some.inj e;omega)) ?_;have hBd:Below wa.heap.size wa wa.drew:=(Below.refl _ wa).drew;exact (Chg.of_ext (S:=fun k=>k=s) hBd).trans (Chg.gg hg') fun i _ hi=>hi
  refine qaj h3 (by simp [qel]) fun w4 hb4 hg4 hs4=>?_;have hb4:Blk w4 s qcz (qel (q ^^^ x.toNat)):=hb4;have hf4:=hf3.grown hg4 (fun e=>by have:=Option.some.inj e;omega);refine nib hxl hb4 hf4 fun w5 hb5 hf5 hc5=>?_;refine nib (q5q hxl) hb5 hf5 fun w6 hb6 hf6 hc6=>?_;rw [w64i (by omega)];refine hI _ _ ⟨i+1,rfl,by omega,?_,hf6,((hc.trans (Chg.gg hg4) fun i _ hi=>hi).trans hc5 fun i _ hi=>hi).trans hc6 fun i _ hi=>hi⟩ (by simp;omega);have e:bs.take (i+1)=bs.take i++[x]:=by rw [List.take_add_one,hx];rfl
  rw [e,zex,<-hq];exact hb6
 ·have hge:=oFq hge;have:i=bs.length:=by omega
  subst this;rw [take_length] at h3;exact hK w3 h3 ((Chg.of_ext hB2).trans hc fun i _ hi=>hi)
theorem zem {s:Nat} {v:Nat} {K:Int->World->Prop} (hs:Blk w s qcz (qel v)) (hv:v<2^32) (hK:K ((v ^^^ 4294967295:Nat):Int) w):qo5 (some ⟨s,0,none⟩) w K:=by
 refine q1w _ ?_;unfold quk;simp only [onPtr_some];refine lI (x:=(v:Int)) (hs.cells 0 _ rfl) ?_;rw [show (4294967295:Int)=((4294967295:Nat):Int) from rfl,qxn .u32 (by decide) hv,Nat.xor_comm];exact hK
theorem zh4 (s : Option Addr) (w : World) : (method (PG.types.size + Made.depth) qf5 (.pointer s) "Write").run PG w = .ok (q14, .pointer s) w := qlv _ (by kernel_rfl) w
theorem zhp (s : Option Addr) (w : World) : (method (PG.types.size + Made.depth) qf5 (.pointer s) "Sum").run PG w = .ok (q4p, .pointer s) w := qlv _ (by kernel_rfl) w
theorem zkm {s : Option Addr} {b : Slc} {K : Int -> Value -> World -> Prop} (h : ql4 s b w K) : callI C (.iface qf5 (.pointer s)) "Write" [.slice b.a b.n b.c] [(Kind.int .i64), Kind.raw] w K :=
 ⟨_,_,_,_,rfl,zh4 s w,by kernel_rfl,h⟩
theorem zkk {s : Option Addr} {K : Int -> World -> Prop} (h : qo5 s w K) : callI C (.iface qf5 (.pointer s)) "Sum" [] [(Kind.int .u32)] w K :=
 ⟨_,_,_,_,rfl,zhp s w,by kernel_rfl,h⟩
theorem q9b {s g:Nat} {b:Slc} {bs:List UInt8} {K:Int->World->Prop} (hs:Blk w s qcz (qel 4294967295)) (hg:Blk w g qab [.slice b.a b.n b.c]) (hb:Rd qae w b bs) (hne:bs≠[]->∀k,b.blk=some k->k≠s) (hl:bs.length<=1000000000000)
  (hK:∀w',Chg (fun k=>k=s) w w'->K ((crcN bs:Nat):Int) w'):qdm (some ⟨s,0,none⟩) ⟨some ⟨g,0,none⟩,1,1⟩ w K:=by
 refine qwn _ _ ?_;unfold qow;refine lpR (fun (t:Int×Unit) w1=>(t.1=0/\w1=w)\/(t.1=1/\Blk w1 s qcz (qel (crcS 4294967295 bs))/\Chg (fun k=>k=s) w w1)) (fun t=>1-t.1.toNat) (.inl ⟨rfl,rfl⟩) ?_;rintro ⟨i,_⟩ w1 h I hI;dsimp only at *;rcases h with ⟨rfl,rfl⟩ | ⟨rfl,h1,hc⟩
 ·refine cT rfl ?_;refine q3x rfl (by omega) (by show (0:Int)<((1:Nat):Int);omega) ?_;refine lSl (x:=b) ?_ ?_
  ·have:=hg.cells 0 _ rfl;simpa [Slc.at_] using this
  ·refine zkm (zgo hs (by decide) hb hne hl fun w2 hb2 hc2=>?_);exact hI _ _ (.inr ⟨rfl,hb2,hc2⟩) (by decide)
 ·refine cF rfl ?_;exact zkk (zem h1 (q5k _ (by decide)) (hK _ hc))
theorem CrcOf {b:Slc} {bs:List UInt8} {K:Int->World->Prop} (hb:Rd qae w b bs) (hl:bs.length<=1000000000000) (hK:∀w',Below w.heap.size w w'->K ((crcN bs:Nat):Int) w') :
  qh9 w fun t38 w9=>nw qab [(.slice b.a b.n b.c)] w9 fun t42 w10=>qdm t38 (⟨(some t42),1,1⟩:Slc) w10 K:=by
 refine qst ?_;unfold qpg;refine nwb fun w1 h1 hB1 hs1=>nwb fun w2 h2 hB2 hs2=>?_;have hB12:=hB1.trans (hB2.mono (by omega));refine q9b (h1.ext hB2) h2 (hb.ext hB12) (fun hne k hk e=>?_) hl fun w3 hc3=>hK w3 (hB12.trans (hc3.below (by omega) fun i hi e=>by omega));have:=Rd.blk_lt hb hne k hk;omega
theorem zka {b:Slc} {bs:List UInt8} {K:Int->World->Prop} (hb:Rd qae w b bs) (hl:bs.length<=1000000000000) (hK:∀w',Below w.heap.size w w'->K ((crcN bs:Nat):Int) w') :
  nw qab [(.slice b.a b.n b.c)] w fun t42 w9=>qh9 w9 fun t38 w10=>qdm t38 (⟨(some t42),1,1⟩:Slc) w10 K:=by
 refine nwb fun w1 h1 hB1 hs1=>?_;refine qst ?_;unfold qpg;refine nwb fun w2 h2 hB2 hs2=>?_;have hB12:=hB1.trans (hB2.mono (by omega));refine q9b h2 (h1.ext hB2) (hb.ext hB12) (fun hne k hk e=>?_) hl fun w3 hc3=>hK w3 (hB12.trans (hc3.below (by omega) fun i hi e=>by omega));have:=Rd.blk_lt hb hne k hk;omega
theorem zko {x0 x1 x2 x3:Nat} (a0:x0<256) (a1:x1<256) (a2:x2<256) (a3:x3<256) :
  bitsR .or .u32 (bitsR .or .u32 (bitsR .or .u32 (u32.wrap ((u32.wrap (x0:Int))*2^(min (24:Int).toNat u32.bits))) (u32.wrap ((u32.wrap (x1:Int))*2^(min (16:Int).toNat u32.bits)))) (u32.wrap ((u32.wrap (x2:Int))*2^(min (8:Int).toNat u32.bits)))) (u32.wrap (x3:Int))=(((x0*256+x1)*256+x2)*256+x3:Nat):=by
 rw [show min ((24:Int)).toNat u32.bits=24 by decide,show min ((16:Int)).toNat u32.bits=16 by decide,show min ((8:Int)).toNat u32.bits=8 by decide];rw [qax .u32 (x:=x0) (by show _<2^32;omega),qax .u32 (x:=x1) (by show _<2^32;omega),qax .u32 (x:=x2) (by show _<2^32;omega),qax .u32 (x:=x3) (by show _<2^32;omega),
  qbk,qbk,qbk,qax .u32 (x:=x0*2^24) (by show _<2^32;omega),qax .u32 (x:=x1*2^16) (by show _<2^32;omega),qax .u32 (x:=x2*2^8) (by show _<2^32;omega)]
 have e1:x0*2^24 ||| x1*2^16=x0*2^24+x1*2^16:=by
  rw [Nat.or_comm,Nat.mul_comm x0,qg8 (by omega)];omega
 have e2:(x0*2^24+x1*2^16) ||| x2*2^8=x0*2^24+x1*2^16+x2*2^8:=by
  rw [show x0*2^24+x1*2^16=2^16*(x0*2^8+x1) by omega,Nat.or_comm,qg8 (by omega)];omega
 have e3:(x0*2^24+x1*2^16+x2*2^8) ||| x3=x0*2^24+x1*2^16+x2*2^8+x3:=by
  rw [show x0*2^24+x1*2^16+x2*2^8=2^8*(x0*2^16+x1*2^8+x2) by omega,Nat.or_comm,qg8 (by omega)];omega
 rw [qd3 .u32 (by show _<2^32;omega) (by show _<2^32;omega),e1,qd3 .u32 (by show _<2^32;omega) (by show _<2^32;omega),e2,qd3 .u32 (by show _<2^32;omega) (by show _<2^32;omega),e3];congr 1;omega
theorem zj2 {bs:List UInt8} (h:4<=bs.length):∃x0 x1 x2 x3 r,bs=x0::x1::x2::x3::r:=by
 match bs,h with
 | x0::x1::x2::x3::r,_=>exact ⟨x0,x1,x2,x3,r,rfl⟩
theorem BigG {b:Slc} {bs:List UInt8} {K:Int->World->Prop} (hb:Rd qae w b bs) (h4:4<=bs.length) (hK:K ((bigN (bs.take 4):Nat):Int) w.drew):qcp b w K:=by
 obtain ⟨x0,x1,x2,x3,r,rfl⟩:=zj2 h4;refine qyr _ ?_;unfold qux;rw [hb.n];have hd:Rd qae w.drew b _:=hb.drew;simp only [length_cons] at h4 ⊢;refine cF (dFq (by omega)) ?_;refine hd.ix (i:=0) rfl (by omega) (by simp only [length_cons];omega) fun h0=>ldB8 (b:=x0) h0 ⟨by decide,?_⟩;refine hd.ix (i:=1) rfl (by omega) (by simp only [length_cons];omega) fun h1=>ldB8 (b:=x1) h1 ⟨by decide,?_⟩;refine hd.ix (i:=2) rfl (by omega) (by simp only [length_cons];omega) fun h2=>ldB8 (b:=x2) h2 ⟨by decide,?_⟩;refine hd.ix (i:=3) rfl (by omega) (by simp only [length_cons];omega) fun h3=>ldB8 (b:=x3) h3 ?_;rw [zko x0.toNat_lt x1.toNat_lt x2.toNat_lt x3.toNat_lt,<-big4];exact hK
theorem zbk {bs:List UInt8} (h:bs.length<=4):bigN bs<2^32:=by
 have key:∀(l:List UInt8) (n:Nat),(l.foldl (fun n b=>n*256+b.toNat) n)<(n+1)*256^l.length:=by
  intro l
  induction l with
  | nil=>intro n;simp
  | cons x r ih =>
   intro n;have h1:=ih (n*256+x.toNat);have hx:=x.toNat_lt;rw [List.foldl_cons,length_cons,Nat.pow_succ];refine Nat.lt_of_lt_of_le h1 ?_;rw [Nat.mul_comm (256^r.length) 256,<-Nat.mul_assoc];exact Nat.mul_le_mul_right _ (by omega)
 have:=key bs 0;have h2:256^bs.length<=256^4:=Nat.pow_le_pow_right (by decide) h;unfold bigN;omega
end
theorem zid {zs vs:List Value} (hl:vs.length=zs.length):putL zs 0 vs=vs:=by
 refine List.ext_getElem? fun m=>?_;rw [qmc vs zs 0 m (by omega)];by_cases hm:m<vs.length
 ·rw [if_pos (by omega)];rfl
 ·rw [if_neg (by omega),List.getElem?_eq_none (by omega),List.getElem?_eq_none (by omega)]
theorem qbx {g:Nat} {t:TypeId} {vs us:List Value} {w:World} {K:World->Prop} (h:Blk w g t vs) (hl:us.length=vs.length) (hK:∀w',Blk w' g t us->Chg (fun k=>k=g) w w'->w'.heap.size=w.heap.size->K w'):stK ⟨g,0,none⟩ us w K :=
 qaj h (by omega) fun w' hb hg hs=>hK w' (by rw [zid hl] at hb;exact hb) (Chg.gg hg) hs
theorem qbm {r:Rep} {g:Nat} {t:TypeId} {vs us:List Value} {x:r.T} {w:World} {K:r.T->World->Prop} (h:Blk w g t vs) (hus:r.cells x=us) (hl:us.length=vs.length) (hK:∀w',Chg (fun k=>k=g) w w'->w'.heap.size=w.heap.size->K x w') :
  stK ⟨g,0,none⟩ us w fun w'=>ldS r ⟨g,0,none⟩ w' fun y=>K y w' :=
 qbx h hl fun w' hb hc hs=>qal (x:=x) (by rw [hus];exact hb.cells) (hK w' hc hs)
theorem bdw (w:World):Below w.heap.size w w.drew:=(Below.refl _ w).drew
theorem b1o {w w1 w2:World} {g:Nat} (h:Below w.heap.size w w1) (hc:Chg (fun k=>k=g) w1 w2) (hg:w.heap.size<=g):Below w.heap.size w w2 :=
 h.trans (hc.below h.size fun i hi e=>by omega)
theorem bT {w w1 w2:World} (h:Below w.heap.size w w1) (h2:Below w1.heap.size w1 w2):Below w.heap.size w w2:=h.trans (h2.mono h.size)
structure ChA (w:World) (x:qam) (c:ChL):Prop where
 kind:x.Kind=strB c.kind
 data:Rd qae w x.Data c.data
theorem ChA.ext {w w':World} {x:qam} {c:ChL} (h:ChA w x c) (hB:Below w.heap.size w w'):ChA w' x c:=⟨h.kind,h.data.ext hB⟩
structure ChO (w:World) (b:Nat) (x:qam) (c:ChL):Prop where
 kind:x.Kind=strB c.kind
 data:Go.Vc.Own qae w b x.Data c.data
theorem ChO.a {w:World} {b:Nat} {x:qam} {c:ChL} (h:ChO w b x c):ChA w x c:=⟨h.kind,h.data.rd⟩
theorem ChO.ext {w w':World} {b:Nat} {x:qam} {c:ChL} (h:ChO w b x c) (hB:Below w.heap.size w w'):ChO w' b x c:=⟨h.kind,h.data.ext hB⟩
theorem ChO.base {w:World} {b b':Nat} {x:qam} {c:ChL} (h:ChO w b x c) (hb:b'<=b):ChO w b' x c:=⟨h.kind,h.data.base hb⟩
theorem ChO.chg {S:Nat->Prop} {w w':World} {b:Nat} {x:qam} {c:ChL} (h:ChO w b x c) (hc:Chg S w w') (hs:∀k,x.Data.blk=some k->¬S k):ChO w' b x c:=⟨h.kind,h.data.chg hc hs⟩
theorem zet:∀x:Nat,x<256->((x ||| 32)<97\/(x ||| 32)>122↔¬(65<=x/\x<=90\/97<=x/\x<=122)):=by decide +kernel
section
variable {w:World}
theorem q7z {x:UInt8} {K:Bool->World->Prop} (hK:K (!qe0 x) w):qum (x.toNat:Int) w K:=by
 refine q0u _ ?_;unfold qs0;have h8:=x.toNat_lt;rw [show (32:Int)=((32:Nat):Int) from rfl,qd3 .u8 (by show _<2^8;omega) (by decide)];have h:=zet x.toNat h8;refine cO (fun h1=>?_) fun h1=>?_
 ·have h1:=oTq h1;have:qe0 x=false:=dFq (h.1 (.inl (by omega)));rw [this] at hK;exact hK
 ·have h1:=oFq h1;by_cases h2:(x.toNat ||| 32)>122
  ·have:qe0 x=false:=dFq (h.1 (.inr h2));rw [this] at hK;rw [dTq (by omega)];exact hK
  ·have:qe0 x=true:=dTq (Classical.not_not.1 fun e=>by have:=h.2 e;omega);rw [this] at hK;rw [dFq (by omega)];exact hK
theorem q9i {s:Slc} {bs:List UInt8} {K:Bool->World->Prop} (hs:Rd qae w s bs) (hl:bs.length<=1000000) (hK:K (bs.all qe0) w):qq7 s w K:=by
 refine q27 _ ?_;unfold qwj;refine qkz _ _ ?_;unfold qfw;refine qm2 _ _ ?_;unfold qgv;rw [hs.n];refine lpR (fun (st:Int×Unit) w1=>w1=w/\∃i:Nat,st.1=i/\i<=bs.length/\(bs.take i).all qe0=true) (fun st=>bs.length-st.1.toNat) ⟨rfl,0,rfl,by omega,rfl⟩ ?_;rintro ⟨i,u⟩ w1 ⟨rfl,m,hi,hm,hno⟩ I hI;dsimp only at hi ⊢;subst hi;by_cases hlt:m<bs.length
 ·refine cT (dTq (by omega)) ?_;obtain ⟨x,hx,hxs⟩:=qcw (xs:=bs) (k:=m) hlt;refine hs.ix (i:=(m:Int)) (k:=1) rfl (by omega) (by omega) fun hcell=>?_;rw [hxs] at hcell;refine ldB8 (b:=x) hcell (qgq (by kernel_rfl) ?_);refine Calls.mono (q7z (x:=x) (K:=fun t16 w2=>cond t16 (K (!(decide ((m:Int)>=(0:Int)))) w2) (I ((i64.wrap ((m:Int)+(1:Int))),()) w2)) ?_) ?_
  ·cases hxl:qe0 x with
   | false =>
    have:bs.all qe0=false:=by
     rw [List.all_eq_false];exact ⟨x,List.mem_of_getElem? hx,by rw [hxl];simp⟩
    rw [this] at hK;refine cT rfl ?_;rw [dTq (by omega)];exact hK
   | true =>
    refine cF rfl ?_;rw [w64i (by omega)];refine hI _ _ ⟨rfl,m+1,rfl,by omega,?_⟩ (by simp;omega);rw [List.take_add_one,hx,List.all_append,hno];simp [hxl]
  ·rintro e w' ⟨r,rfl,hk⟩;exact ⟨r,rfl,hk⟩
 ·refine cF (dFq (by omega)) ?_;obtain rfl:m=bs.length:=by omega
  rw [take_length] at hno;rw [hno] at hK;exact hK
theorem zdu {b:Slc} {bs:List UInt8} {K:qam->Int->Int->World->Prop} (hb:Rd qae w b bs) (hl:bs.length<=1000000000)
  (hE:∀n x w',qeq bs=.err n->n≠0->Below w.heap.size w w'->K x 0 n w')
  (hO:∀c n x w',qeq bs=.ok c n->ChO w' w.heap.size x c->Below w.heap.size w w'->12<=n->n<=bs.length->K x n 0 w'):qvp b w K:=by
 refine q5y _ ?_;unfold qz2;rw [hb.n];refine nwb fun w1 h1 hB1 hs1=>?_;have hend:∀(n:Nat) w2,qeq bs=.err n->n≠0->Below w.heap.size w w2->Below w1.heap.size w1 w2->stK ⟨w.heap.size,0,none⟩ [(.string (⟨#[]⟩:ByteArray)),(.slice none 0 0)] w2 fun w3=>ldS qam.rep ⟨w.heap.size,0,none⟩ w3 fun r=>K r 0 n w3:=by
  intro n w2 hc hn hB hB';exact qbm (r:=qam.rep) (x:=⟨⟨#[]⟩,⟨none,0,0⟩⟩) (h1.ext hB') rfl rfl fun w3 hc3 hs3=>hE n _ w3 hc hn (b1o hB hc3 (le_refl _))
 refine cO (fun h4=>?_) fun h4=>?_
 ·have h4:=oTq h4;exact hend 2 w1 (by unfold qeq;rw [if_pos (by omega)]) (by decide) hB1 (Below.refl _ _)
 have h4:=oFq h4;have h4':¬bs.length<4:=by omega
 have hb1:=hb.ext hB1;refine BigG hb1 (by omega) ?_;have hB3:Below w.heap.size w w1.drew:=bT hB1 (bdw _);have hB3':Below w1.heap.size w1 w1.drew:=bdw _;obtain ⟨w3,hw3⟩:∃w3,w3=w1.drew:=⟨_,rfl⟩;rw [<-hw3] at hB3 hB3' ⊢;have hnl:=zbk (bs:=bs.take 4) (by rw [length_take];omega);obtain ⟨n,hn⟩:∃n,n=bigN (bs.take 4):=⟨_,rfl⟩;rw [<-hn] at hnl ⊢;rw [w64i (x:=(n:Int)) (by omega)];refine cO (fun h5=>?_) fun h5=>?_
 ·have h5:=oTq h5;exact hend 3 w3 (by unfold qeq;rw [if_neg h4',<-hn,if_pos (by omega)]) (by decide) hB3 hB3'
 have h5:=oFq h5;have h5':¬n>2147483647:=by omega
 refine cO (fun h6=>?_) fun h6=>?_
 ·have h6:=oTq h6;exact hend 2 w3 (by unfold qeq;rw [if_neg h4',<-hn,if_neg h5',if_pos (by omega)]) (by decide) hB3 hB3'
 have h6:=oFq h6;have h6':¬bs.length<8:=by omega
 have hb3:=hb.ext hB3;refine hb3.slK (l:=4) (m:=8) rfl (.inr rfl) (.inr rfl) (by omega) (by omega) fun hp=>?_;refine q9i hp (by rw [length_drop,length_take];omega) ?_;refine cO (fun h7=>?_) fun h7=>?_
 ·have h7:((bs.take 8).drop 4).all qe0=false:=by simpa using h7
  exact hend 3 w3 (by unfold qeq;rw [if_neg h4',<-hn,if_neg h5',if_neg h6',if_pos h7]) (by decide) hB3 hB3'
 have h7:((bs.take 8).drop 4).all qe0=true:=by simpa using h7
 have h7':¬((bs.take 8).drop 4).all qe0=false:=by rw [h7];simp
 rw [w64i (x:=((bs.length:Nat):Int)-12) (by omega)];refine cO (fun h8=>?_) fun h8=>?_
 ·have h8:=oTq h8;exact hend 2 w3 (by unfold qeq;rw [if_neg h4',<-hn,if_neg h5',if_neg h6',if_neg h7',if_pos (by omega)]) (by decide) hB3 hB3'
 have h8:=oFq h8;have h8':¬n+12>bs.length:=by omega
 have e8:i64.wrap ((8:Int)+(n:Int))=((8+n:Nat):Int):=by rw [w64i (by omega)];simp
 have e12:i64.wrap ((((8+n:Nat):Nat):Int)+(4:Int))=((12+n:Nat):Int):=by rw [w64i (by omega)];omega
 rw [e8,e12];refine hb3.slK (l:=4) (m:=8+n) rfl (.inr rfl) (.inr rfl) (by omega) (by omega) fun hp1=>?_;refine hb3.slK (l:=8+n) (m:=bs.length) rfl (.inr rfl) (.inl ⟨rfl,rfl⟩) (by omega) (by omega) fun hp2=>?_;rw [take_length] at hp2;have htail:∀w12 (t43 t47:Int),t43=((crcN ((bs.take (8+n)).drop 4):Nat):Int)->t47=((bigN ((bs.drop (8+n)).take 4):Nat):Int)->Below w.heap.size w w12->Below w1.heap.size w1 w12 ->
   cond (t43 !=t47) (stK ⟨w.heap.size,0,none⟩ [(.string (⟨#[]⟩:ByteArray)),(.slice none 0 0)] w12 fun w13=>ldS qam.rep ⟨w.heap.size,0,none⟩ w13 fun r_5=>K r_5 0 4 w13)
    (
    slK b (some 4) (some 8) 1 fun t51=>slK b (some 8) (some ((8+n:Nat):Int)) 1 fun t55 =>
    (runK1 PG (convert qab qa1 (.slice t51.a t51.n t51.c)) Kind.string w12.drew fun (t52:ByteArray) w14 =>
     qaz t55 w14 fun t56 w15=>stK ⟨w.heap.size,0,none⟩ [(.string t52),(.slice t56.a t56.n t56.c)] w15 fun w16=>ldS qam.rep ⟨w.heap.size,0,none⟩ w16 fun r_6=>K r_6 ((12+n:Nat):Int) 0 w16) /\
    qaz t55 w12.drew fun t56_1 w17=>runK1 PG (convert qab qa1 (.slice t51.a t51.n t51.c)) Kind.string w17 fun (t52_1:ByteArray) w18 =>
     stK ⟨w.heap.size,0,none⟩ [(.string t52_1),(.slice t56_1.a t56_1.n t56_1.c)] w18 fun w19=>ldS qam.rep ⟨w.heap.size,0,none⟩ w19 fun r_7=>K r_7 ((12+n:Nat):Int) 0 w19):=by
  intro w12 t43 t47 e43 e47 hB hB';subst e43 e47;refine cO (fun h9=>?_) fun h9=>?_
  ·have h9:crcN ((bs.take (8+n)).drop 4)≠bigN ((bs.drop (8+n)).take 4):=fun e=>by rw [e] at h9;simp at h9
   exact hend 4 w12 (by unfold qeq;rw [if_neg h4',<-hn,if_neg h5',if_neg h6',if_neg h7',if_neg h8',if_pos h9]) (by decide) hB hB'
  ·have h9:¬crcN ((bs.take (8+n)).drop 4)≠bigN ((bs.drop (8+n)).take 4):=fun e=>by
    refine e ?_;have:((crcN ((bs.take (8+n)).drop 4):Nat):Int)=((bigN ((bs.drop (8+n)).take 4):Nat):Int):=by simpa using h9
    exact Int.ofNat.inj this
   have hok:qeq bs=.ok ⟨(bs.take 8).drop 4,(bs.take (8+n)).drop 8⟩ (12+n):=by unfold qeq;rw [if_neg h4',<-hn,if_neg h5',if_neg h6',if_neg h7',if_neg h8',if_neg h9]
   have hBd:=bT hB (bdw w12);have hBd':=bT hB' (bdw w12);have hbd:=hb.ext hBd;have hb12:=hb.ext hB;refine hb12.slK (l:=4) (m:=8) rfl (.inr rfl) (.inr rfl) (by omega) (by omega) fun hq1=>?_;refine hb12.slK (l:=8) (m:=8+n) rfl (.inr rfl) (.inr rfl) (by omega) (by omega) fun hq2=>?_;have hq1d:=hq1.ext (bdw w12);have hq2d:=hq2.ext (bdw w12);have hsz:=hBd.size;have fin:∀(t:Slc) w15,Go.Vc.Own qae w15 w12.drew.heap.size t ((bs.take (8+n)).drop 8)->Below w12.drew.heap.size w12.drew w15 ->
     stK ⟨w.heap.size,0,none⟩ [(.string (strB ((bs.take 8).drop 4))),(.slice t.a t.n t.c)] w15 fun w16=>ldS qam.rep ⟨w.heap.size,0,none⟩ w16 fun r_6=>K r_6 ((12+n:Nat):Int) 0 w16:=by
    intro t w15 ht hB15;refine qbm (r:=qam.rep) (x:=⟨strB ((bs.take 8).drop 4),t⟩) (h1.ext (bT hBd' hB15)) rfl rfl fun w16 hc16 hs16=>?_;refine hO _ (12+n) _ w16 hok ⟨rfl,?_⟩ (b1o (bT hBd hB15) hc16 (le_refl _)) (by omega) (by omega);refine (ht.chg hc16 fun g hg e=>?_).base (by omega);have:=(ht.lt g hg).1;have:=hBd'.size;omega
   refine ⟨⟨_,_,qkc hq1d,?_⟩,?_⟩
   ·exact qgp hq2d (by rw [length_drop,length_take];omega) fun r w15 hr hB15=>fin r w15 hr hB15
   ·refine qgp hq2d (by rw [length_drop,length_take];omega) fun r w15 hr hB15=>?_;exact ⟨_,_,qkc (hq1d.ext hB15),fin r w15 hr hB15⟩
 have hBd:=bT hB3 (bdw w3);have hBd':=bT hB3' (bdw w3);have hp1d:=hp1.ext (bdw w3);have hp2d:=hp2.ext (bdw w3);refine ⟨?_,?_⟩
 ·refine CrcOf hp1d (by rw [length_drop,length_take];omega) fun w11 hB11=>?_;refine BigG (hp2d.ext hB11) (by rw [length_drop];omega) ?_;exact htail _ _ _ rfl rfl (bT (bT hBd hB11) (bdw _)) (bT (bT hBd' hB11) (bdw _))
 ·refine zka hp1d (by rw [length_drop,length_take];omega) fun w11 hB11=>?_;refine BigG (hp2d.ext hB11) (by rw [length_drop];omega) ?_;exact htail _ _ _ rfl rfl (bT (bT hBd hB11) (bdw _)) (bT (bT hBd' hB11) (bdw _))
end
def eachR (one:Bool) (bs:List UInt8):Nat×List ChL:=if signP bs≠0 then (signP bs,[]) else qca one bs.length (bs.drop 8)
theorem zd7 (one:Bool) (bs:List UInt8):qcm one bs=((eachR one bs).1,if (eachR one bs).1≠0 then [] else (eachR one bs).2):=by
 unfold qcm eachR;by_cases h:signP bs≠0
 ·rw [if_pos h,if_pos h,if_pos h]
 ·rw [if_neg h,if_neg h];by_cases h2:(qca one bs.length (bs.drop 8)).1≠0
  ·rw [if_pos h2,if_pos h2]
  ·rw [if_neg h2,if_neg h2];have:(qca one bs.length (bs.drop 8)).1=0:=by omega
   rw [this]
def goP (one:Bool) (c:ChL):Bool:=!(one || decide (c.kind=iendL))
theorem zef {bs:List UInt8} {n:Nat} (h:qeq bs=.err n):n≠0:=by
 unfold qeq at h
 repeat' (split at h)
 all_goals (cases h;try decide)
section
variable {w:World}
theorem zc0 {K:Slc->World->Prop} (hK:∀t w',Go.Vc.Own qae w' w.heap.size ⟨some t,8,8⟩ signL->Below w.heap.size w w'->K ⟨some t,8,8⟩ w'):qr6 w K:=by
 refine q7t ?_;unfold q2u;exact nwb fun w1 h1 hB1 hs1=>hK _ w1 (zic (E:=qae) (ys:=signL) (le_refl _) h1 (by decide) rfl) hB1
theorem zgu {K:Slc->World->Prop} (hK:∀t w',Rd qae w' ⟨some t,8,8⟩ signL->Below w.heap.size w w'->K ⟨some t,8,8⟩ w'):qr6 w K:=zc0 fun t w' h hB=>hK t w' h.rd hB
theorem q8p {a b:Slc} {xs ys:List UInt8} {K:Bool->World->Prop} (ha:Rd qae w a xs) (hb:Rd qae w b ys) (hK:K (decide (xs=ys)) w):qf6 a b w K:=by
 refine q3d _ _ ?_;unfold qv2;refine ⟨_,_,qkc ha,⟨_,_,qkc hb,?_⟩⟩;dsimp only;rw [qdr,qdr];have:(xs==ys)=decide (xs=ys):=by rw [Bool.eq_iff_iff];simp
 rw [this];exact hK
theorem zeu {b:Slc} {bs:List UInt8} {f:Value} {one:Bool} {S:Nat->Prop} (Inv:List ChL->World->Prop) {K:Int->World->Prop} (hb:Rd qae w b bs) (hl:bs.length<=1000000000) (hbS:∀a,b.a=some a->¬S a.block)
  (h0:Inv [] w) (hI:∀L w1 w2,Inv L w1->Below w1.heap.size w1 w2->Inv L w2) (hS:∀L w1,Inv L w1->Chg S w w1)
  (step:∀L w1 x c,Inv L w1->L.length<=bs.length->ChO w1 w.heap.size x c->∀J:Bool->World->Prop,(∀w2,Inv (L++[c]) w2->J (goP one c) w2)->callR C f [(.agg #[(.string x.Kind),(.slice x.Data.a x.Data.n x.Data.c)])] [Kind.bool] w1 J)
  (hK:∀w1,Inv (eachR one bs).2 w1->K (eachR one bs).1 w1):qxq b f w K:=by
 refine q7s _ _ ?_;unfold q2v;refine zgu fun t w1 hs hB1=>?_;rw [hb.n];have hb1:=hb.ext hB1;obtain ⟨m,hm⟩:∃m,m=min bs.length 8:=⟨_,rfl⟩;have em:(if ((8:Nat):Int)<((bs.length:Nat):Int) then ((8:Nat):Int) else ((bs.length:Nat):Int))=(m:Int):=by
  by_cases h:((8:Nat):Int)<((bs.length:Nat):Int)
  ·rw [if_pos h];omega
  ·rw [if_neg h];omega
 dsimp only;rw [em];have hm1:m<=bs.length:=by omega
 have hm8:m<=signL.length:=by show m<=8;omega
 refine hb1.slK (l:=0) (m:=m) rfl (.inl ⟨rfl,rfl⟩) (.inr rfl) (by omega) hm1 fun hp=>?_;refine hs.slK (l:=0) (m:=m) rfl (.inl ⟨rfl,rfl⟩) (.inr rfl) (by omega) hm8 fun hq=>?_;rw [List.drop_zero] at hp hq;have hBd:=bdw w1;refine q8p (hp.ext hBd) (hq.ext hBd) ?_;have e1:bs.take m=bs.take 8:=by
  rcases Nat.le_total bs.length 8 with h | h
  ·rw [take_of_length_le (show bs.length<=8 from h),take_of_length_le (by omega)]
  ·rw [show m=8 by omega]
 have e2:signL.take m=signL.take bs.length:=by
  rcases Nat.le_total bs.length 8 with h | h
  ·rw [show m=bs.length by omega]
  ·rw [take_of_length_le (show signL.length<=bs.length from h),take_of_length_le (show signL.length<=m by show 8<=m;omega)]
 rw [e1,e2];have hB2:=bT hB1 hBd;obtain ⟨w2,hw2⟩:∃w2,w2=w1.drew:=⟨_,rfl⟩;rw [<-hw2] at hB2 ⊢;have hI2:Inv [] w2:=hI _ _ _ h0 hB2;refine cO (fun hne=>?_) fun heq=>?_
 ·have hne:bs.take 8≠signL.take bs.length:=by simpa using hne
  have hs3:signP bs=3:=by unfold signP;rw [if_pos hne]
  have he:eachR one bs=(3,[]):=by unfold eachR;rw [hs3,if_pos (by decide)]
  rw [he] at hK;exact hK _ hI2
 have heq:bs.take 8=signL.take bs.length:=by simpa using heq
 have heq':¬bs.take 8≠signL.take bs.length:=fun h=>h heq;refine cO (fun hlt=>?_) fun hge=>?_
 ·have hlt:=oTq hlt;have hs2:signP bs=2:=by unfold signP;rw [if_neg heq',if_pos (by omega)]
  have he:eachR one bs=(2,[]):=by unfold eachR;rw [hs2,if_pos (by decide)]
  rw [he] at hK;exact hK _ hI2
 have hge:=oFq hge;have hs0:signP bs=0:=by unfold signP;rw [if_neg heq',if_neg (by omega)]
 have he:eachR one bs=qca one bs.length (bs.drop 8):=by unfold eachR;rw [hs0,if_neg (by decide)]
 have hb2:=hb.ext hB2;refine hb2.slK (l:=8) (m:=bs.length) rfl (.inr rfl) (.inl ⟨rfl,rfl⟩) (by omega) (by omega) fun hr=>?_;have hr0:=hb.part (l:=8) (m:=bs.length) (by omega) (by omega);rw [take_length] at hr hr0;have hrS:∀a,(⟨cut b.a 8 b.c qae.k,bs.length-8,b.c-8⟩:Slc).a=some a->¬S a.block:=fun a ha=>by
  obtain ⟨a',ha',e⟩:=qgd ha;rw [e];exact hbS a' ha'
 refine lpR (fun (s:Slc×Unit) w3=>∃(L:List ChL) (rest:List UInt8) (fu:Nat),Inv L w3/\Rd qae w s.1 rest/\(∀a,s.1.a=some a->¬S a.block)/\rest.length<fu/\L.length+rest.length<=bs.length/\qca one bs.length (bs.drop 8)=((qca one fu rest).1,L++(qca one fu rest).2)) (fun s=>s.1.n)
  ⟨[],bs.drop 8,bs.length,hI2,hr0,hrS,by rw [length_drop];omega,by rw [length_drop];simp,by simp⟩ ?_
 rintro ⟨s,u⟩ w3 ⟨L,rest,fu,hL,hrd,hsS,hfu,hlen,hch⟩ I hIl;dsimp only at hrd hsS ⊢;obtain ⟨fu,rfl⟩:∃k,fu=k+1:=⟨fu-1,by omega⟩;have hC:=hS _ _ hL;have hrd3:Rd qae w3 s rest:=hrd.chg hC fun a ha=>hsS a ha;refine zdu hrd3 (by omega) (fun n x w4 hcp hn hB4=>?_) (fun c n x w4 hcp hx hB4 hn12 hnle=>?_)
 ·refine nwb fun w5 h5 hB5 hs5=>?_;refine qbx h5 rfl fun w6 h6 hc6 hs6=>?_;have hn':((n:Int) !=0)=true:=by simp;exact hn
  refine cT hn' ?_;have:eachR one bs=(n,L):=by rw [he,hch,qca,hcp];simp
  rw [this] at hK;refine hK _ (hI _ _ _ hL (b1o (bT hB4 hB5) hc6 hB4.size))
 ·refine nwb fun w5 h5 hB5 hs5=>?_;refine qbx h5 rfl fun w6 h6 hc6 hs6=>?_;refine cF rfl ?_;refine qal (r:=qam.rep) (x:=x) h6.cells ?_;have hB6:=b1o (bT hB4 hB5) hc6 hB4.size;have hL6:=hI _ _ _ hL hB6;have hx6:ChO w6 w.heap.size x c:=((hx.ext hB5).chg hc6 fun k hk e=>by have:=(hx.data.lt k hk).2;omega).base hC.size;refine step L w6 x c hL6 (by omega) hx6 _ fun w7 hL7=>?_;cases hg:goP one c with
  | false =>
   refine cT rfl ?_;have hg':(one || decide (c.kind=iendL))=true:=by unfold goP at hg;revert hg;cases (one || decide (c.kind=iendL))<;>simp
   have:eachR one bs=(0,L++[c]):=by rw [he,hch,qca,hcp];simp only [hg'];rfl
   rw [this] at hK;exact hK _ hL7
  | true =>
   refine cF rfl ?_;have hg':(one || decide (c.kind=iendL))=false:=by unfold goP at hg;revert hg;cases (one || decide (c.kind=iendL))<;>simp
   have hC7:=hS _ _ hL7;have hrd7:Rd qae w7 s rest:=hrd.chg hC7 fun a ha=>hsS a ha;refine hrd7.slK (l:=n) (m:=rest.length) rfl (.inr rfl) (.inl ⟨rfl,rfl⟩) hnle (le_refl _) fun hrn=>?_;have hrn0:=hrd.part (l:=n) (m:=rest.length) hnle (le_refl _);rw [take_length] at hrn0;refine hIl _ _ ⟨L++[c],rest.drop n,fu,hL7,hrn0,fun a ha=>?_,by rw [length_drop];omega,by rw [List.length_append,length_drop,List.length_singleton];omega,?_⟩ ?_
   ·obtain ⟨a',ha',e⟩:=qgd ha;rw [e];exact hsS a' ha'
   ·rw [hch,qca,hcp];simp only [hg'];simp
   ·have:=hrd.n;show rest.length-n<s.n;omega
structure ChsO (w:World) (b:Nat) (s:Slc) (L:List ChL):Prop where
 ex:∃xs,Go.Vc.Own qpq w b s xs/\xs.length=L.length/\∀(i:Nat) x c,xs[i]?=some x->L[i]?=some c->ChO w b x c
theorem ChsO.ext {w w':World} {b:Nat} {s:Slc} {L:List ChL} (h:ChsO w b s L) (hB:Below w.heap.size w w'):ChsO w' b s L:=by
 obtain ⟨xs,h1,h2,h3⟩:=h;exact ⟨xs,h1.ext hB,h2,fun i x c hx hc=>(h3 i x c hx hc).ext hB⟩
theorem zaz {b:Slc} {bs:List UInt8} {K:Slc->Int->World->Prop} (hb:Rd qae w b bs) (hbl:∀k,b.blk=some k->k<w.heap.size) (hl:bs.length<=1000000)
  (hK:∀s w',ChsO w' w.heap.size s (qcm false bs).2->Below w.heap.size w w'->K s (qcm false bs).1 w'):qsu b w K:=by
 refine q44 _ ?_;unfold qy6;refine nwb fun w1 h1 hB1 hs1=>?_;have hb1:=hb.ext hB1;refine zeu (one:=false) (S:=fun k=>k=w.heap.size) (fun L w2=>Chg (fun k=>k=w.heap.size) w1 w2/\∃s:Slc,Blk w2 w.heap.size qdv [.slice s.a s.n s.c]/\ChsO w2 (w.heap.size+1) s L) hb1 (by omega)
  (fun a ha e=>by have:=hbl a.block (slk.2 ⟨a,ha,rfl⟩);omega)
  ⟨Chg.refl _ _,⟨none,0,0⟩,h1,[],Go.Vc.Own.nil _ _ _,rfl,fun i x c hx=>by simp at hx⟩ ?_ (fun L w2 h=>h.1) ?_ ?_
 ·rintro L w2 w3 ⟨hc,s,hs,hL⟩ hB;exact ⟨hc.trans (Chg.of_ext (S:=fun k=>k=w.heap.size) hB) fun i _ hi=>hi,s,hs.ext hB,hL.ext hB⟩
 ·rintro L w2 x c ⟨hc,s,hs,xs,h2,h3,h4⟩ hLl hx J hJ;refine qgq (by kernel_rfl) ?_;have hcall:qv7 x ⟨w.heap.size,0,none⟩ w2 J:=by
   refine q1z _ _ ?_;unfold qt9;refine nwb fun w3 hb3 hB3 hs3=>?_;refine lSl (x:=s) ((hs.ext hB3).cell 0 rfl) ?_;refine qal (r:=qam.rep) (x:=x) hb3.cells ?_;have hsz:=hc.size;have hx3:=hx.ext hB3;refine qht (E:=qpq) (y:=x) quc (h2.ext hB3) rfl (by omega) (by rw [q43];omega) (by unfold maxLen;omega) fun r w5 hr5 hch hrb=>?_;have hne:∀k,s.blk=some k->k≠w.heap.size:=qa0 h2 hs (by decide);have hs5:Blk w5 w.heap.size qdv [.slice s.a s.n s.c]:=(hs.ext hB3).chg hch fun e=>hne _ e rfl;refine qbx hs5 rfl fun w6 h6 hc6 hs6=>?_;have hb5:Blk w5 w2.heap.size qct (qam.rep.cells x):=hb3.chg hch fun e=>by have:=(h2.lt _ e).2;omega
   have hb6:=hb5.chg hc6 (by omega);refine ql0 (x:=x.Kind) (hb6.cells 0 _ rfl) ?_;have hke:(!(x.Kind.toList==(⟨#[73,69,78,68]⟩:ByteArray).toList))=goP false c:=by
    rw [hx.kind,qdr,show (⟨#[73,69,78,68]⟩:ByteArray)=strB iendL from rfl,qdr];unfold goP;rw [Bool.false_or];congr 1;rw [Bool.eq_iff_iff];simp
   rw [hke];have hC3:Chg (fun k=>k=w.heap.size) w1 w3:=hc.trans (Chg.of_ext (S:=fun k=>k=w.heap.size) hB3) fun i _ hi=>hi;have hlo:=h2.lt;have hC5:Chg (fun k=>k=w.heap.size) w1 w5:=hC3.trans hch fun i hi e=>by have:=(hlo i e).1;omega
   refine hJ w6 ⟨hC5.trans hc6 fun i _ hi=>hi,r,h6,xs++[x],?_,by simp [h3],fun i y d hy hd=>?_⟩
   ·refine hr5.chg hc6 fun g hg e=>?_;have:=(hr5.lt g hg).1;omega
   ·have key:∀{y d},ChO w3 (w.heap.size+1) y d->ChO w6 (w.heap.size+1) y d:=fun {y d} h=>by
     refine (h.chg hch fun k hk e=>?_).chg hc6 fun k hk e=>?_
     ·exact qx4 h.data (h2.ext hB3) (by decide) k hk e
     ·have:=(h.data.lt k hk).1;omega
    rcases Nat.lt_or_ge i xs.length with hi | hi
    ·rw [List.getElem?_append_left hi] at hy;rw [List.getElem?_append_left (by omega)] at hd;exact key ((h4 i y d hy hd).ext hB3)
    ·rw [List.getElem?_append_right hi] at hy;rw [List.getElem?_append_right (by omega)] at hd;rw [h3] at hy;generalize i-L.length=j at hy hd
     match j,hy,hd with
     | 0,hy,hd =>
      simp at hy hd;subst hy hd;exact key (hx3.base (by omega))
     | j+1,hy,hd=>simp at hy
  refine Calls.mono hcall ?_;rintro e w' ⟨r,rfl,hk⟩;exact ⟨r,rfl,hk⟩
 ·rintro w2 ⟨hc,s,hs,hL⟩;rw [zd7] at hK;have hB2:Below w.heap.size w w2:=b1o hB1 hc (le_refl _);by_cases h:(eachR false bs).1≠0
  ·have hn':(((eachR false bs).1:Int) !=0)=true:=by simp;exact h
   refine cT hn' ?_;rw [if_pos h] at hK;exact hK _ w2 ⟨[],Go.Vc.Own.nil _ _ _,rfl,fun i x c hx=>by simp at hx⟩ hB2
  ·have h0:(eachR false bs).1=0:=by omega
   rw [h0] at hK ⊢;refine cF rfl ?_;refine lSl (x:=s) (hs.cell 0 rfl) ?_;rw [if_neg (by decide)] at hK;obtain ⟨xs,h1,h2,h3⟩:=hL;exact hK s w2 ⟨xs,h1.base (by omega),h2,fun i x c hx hc=>(h3 i x c hx hc).base (by omega)⟩ hB2
end
theorem qdo {w:World} {s:Slc} {xs:List UInt8} (h:Rd qae w s xs) {i:Nat} {x:UInt8} (hx:xs[i]?=some x):w.cell? (s.at_ 1 i)=some (.int .u8 (x.toNat:Int)):=by
 have:=h.at_ i x hx 0 _ rfl;have h2:w.cell? (s.at_ qae.k i)=some (.int .u8 (x.toNat:Int)):=by simpa using this
 exact h2
theorem zfk {a b:Int} (h:a=b):(a==b)=true:=by rw [h];exact beq_self_eq_true b
theorem qtd {a b:Int} (h:a≠b):(a==b)=false:=by simpa using h
theorem qf7 {a b:Int} (h:a≠b):(a !=b)=true:=by simpa using h
section
variable {w:World}
theorem qtm {color:Int} {K:Int->World->Prop} (hK:K ((qak color:Nat):Int) w):qe5 color w K:=by
 refine q3i _ ?_;unfold qwp;refine jpO fun J hJ=>?_;unfold qak at hK;have h2:∀b:Bool,(b=true↔color=0\/color=3)->J (b,()) w:=fun b hb=>hJ _ _ (by
  refine cO (fun h=>?_) fun h=>?_
  ·rw [if_pos (hb.1 h)] at hK;exact hK
  ·rw [if_neg (fun e=>by rw [hb.2 e] at h;cases h)] at hK;refine cO (fun h=>?_) fun h=>?_
   ·rw [if_pos (by simpa using h)] at hK;exact hK
   ·rw [if_neg (by simpa using h)] at hK;refine cO (fun h=>?_) fun h=>?_
    ·rw [if_pos (by simpa using h)] at hK;exact hK
    ·rw [if_neg (by simpa using h)] at hK;refine cO (fun h=>?_) fun h=>?_
     ·rw [if_pos (by simpa using h)] at hK;exact hK
     ·rw [if_neg (by simpa using h)] at hK;exact hK)
 refine cO (fun h=>h2 _ ?_) fun h=>h2 _ ?_
 ·have h:color=0:=by simpa using h
  simp [h]
 ·have h:color≠0:=by simpa using h
  simp [h]
theorem q5h {s:Slc} {zs:List Int} {v:Int} {K:Bool->World->Prop} (hs:Rd E_int w s zs) (hl:zs.length<=1000000) (hK:K (decide (v∈zs)) w):qfc s v w K:=by
 refine qo1 _ _ ?_;unfold qie;refine qsc _ _ ?_;unfold qkx;rw [hs.n];refine lpR (fun (st:Int×Unit) w1=>w1=w/\∃i:Nat,st.1=i/\i<=zs.length/\v ∉ zs.take i) (fun st=>zs.length-st.1.toNat) ⟨rfl,0,rfl,by omega,by simp⟩ ?_;rintro ⟨i,u⟩ w1 ⟨rfl,m,hi,hm,hno⟩ I hI;dsimp only at hi ⊢;subst hi;by_cases hlt:m<zs.length
 ·refine cT (dTq (by omega)) ?_;obtain ⟨z,hz⟩:∃z,zs[m]?=some z:=⟨_,List.getElem?_eq_getElem hlt⟩;refine hs.ix (i:=(m:Int)) (k:=1) rfl (by omega) (by omega) fun hcell=>?_;refine lI (x:=z) (hs.at_ m z hz 0 _ rfl) ?_;refine cO (fun h=>?_) fun h=>?_
  ·have h:v=z:=by simpa using h
   have:decide (v∈zs)=true:=dTq (h ▸ List.mem_of_getElem? hz);rw [this] at hK;rw [dTq (by omega)];exact hK
  ·have h:v≠z:=by simpa using h
   rw [w64i (by omega)];refine hI _ _ ⟨rfl,m+1,rfl,by omega,?_⟩ (by simp;omega);rw [List.take_add_one,hz];simp [hno,h]
 ·refine cF (dFq (by omega)) ?_;obtain rfl:m=zs.length:=by omega
  rw [take_length] at hno;rw [dFq hno] at hK;exact hK
def qgo (color:Int):List Int:=if color=0 then [1,2,4,8,16] else if color=3 then [1,2,4,8] else [8,16]
theorem zfu (h:qag):decide (h.Depth∈qgo h.Color)=qmv h:=by
 unfold qgo qmv;by_cases h0:h.Color=0
 ·rw [if_pos h0,decide_eq_decide];simp only [mem_cons,List.mem_nil_iff,or_false];omega
 ·rw [if_neg h0];by_cases h3:h.Color=3
  ·rw [if_pos h3,decide_eq_decide];simp only [mem_cons,List.mem_nil_iff,or_false];omega
  ·rw [if_neg h3,decide_eq_decide];simp only [mem_cons,List.mem_nil_iff,or_false];omega
theorem zcr {h:qag} {K:Int->World->Prop} (hK:∀w',Below w.heap.size w w'->K ((qgw h:Nat):Int) w'):qif h w K:=by
 refine q52 _ ?_;unfold qzu;refine nwb fun w1 h1 hB1 hs1=>?_;refine jpO fun J1 hJ1=>?_;unfold qgw at hK;refine lI (x:=h.W) (h1.cells 0 _ rfl) ?_;refine cO (fun c1=>?_) fun c1=>?_
 ·have c1:=oTq c1;rw [if_pos (by omega)] at hK;exact hK w1 hB1
 have c1:=oFq c1;refine lI (x:=h.W) (h1.cells 0 _ rfl) ?_;refine cO (fun c2=>?_) fun c2=>?_
 ·have c2:=oTq c2;rw [if_pos (by omega)] at hK;exact hK w1 hB1
 have c2:=oFq c2;refine lI (x:=h.H) (h1.cells 1 _ rfl) ?_;refine cO (fun c3=>?_) fun c3=>?_
 ·have c3:=oTq c3;rw [if_pos (by omega)] at hK;exact hK w1 hB1
 have c3:=oFq c3;refine lI (x:=h.H) (h1.cells 1 _ rfl) ?_;refine cO (fun c4=>?_) fun c4=>?_
 ·have c4:=oTq c4;rw [if_pos (by omega)] at hK;exact hK w1 hB1
 have c4:=oFq c4;rw [if_neg (by omega)] at hK;refine hJ1 _ _ ?_;refine nwb fun w3 h3 hB3 hs3=>?_;have hB13:=bT hB1 hB3;have h13:=h1.ext hB3;refine jpO fun J2 hJ2=>?_;have key:∀(s:Slc) w4,Rd E_int w4 s (qgo h.Color)->Below w.heap.size w w4->Below w1.heap.size w1 w4->J2 (s,()) w4:=by
  intro s w4 hs hB hB';refine hJ2 _ _ ?_;have h4:=h1.ext hB';refine lI (x:=h.Color) (h4.cells 3 _ rfl) (qtm ?_);refine cO (fun e=>?_) fun e=>?_
  ·have e:qak h.Color=0:=by
    have:((qak h.Color:Nat):Int)=0:=by simpa using e
    omega
   rw [if_pos (.inl e)] at hK;exact hK w4 hB
  have e:qak h.Color≠0:=by
   have:((qak h.Color:Nat):Int)≠0:=by simpa using e
   omega
  refine lI (x:=h.Depth) (h4.cells 2 _ rfl) (q5h hs (by unfold qgo;split<;>(try split)<;>decide) ?_);rw [zfu];refine cO (fun e2=>?_) fun e2=>?_
  ·have e2:qmv h=false:=by simpa using e2
   rw [if_pos (.inr (.inl e2))] at hK;exact hK w4 hB
  have e2:qmv h=true:=by simpa using e2
  refine lI (x:=h.Lace) (h4.cells 4 _ rfl) ?_;refine cO (fun e3=>?_) fun e3=>?_
  ·have e3:=oTq e3;rw [if_pos (.inr (.inr (.inl e3)))] at hK;exact hK w4 hB
  have e3:=oFq e3;refine lI (x:=h.Lace) (h4.cells 4 _ rfl) ?_;refine cO (fun e4=>?_) fun e4=>?_
  ·have e4:=oTq e4;rw [if_pos (.inr (.inr (.inr e4)))] at hK;exact hK w4 hB
  have e4:=oFq e4;rw [if_neg (by rw [e2];simp;omega)] at hK;exact hK w4 hB
 refine lI (x:=h.Color) (h13.cells 3 _ rfl) ?_;refine cO (fun e=>?_) fun e=>?_
 ·have e:h.Color=0:=by simpa using e
  refine nwb fun w7 h7 hB7 hs7=>key _ w7 ?_ (bT hB13 hB7) (bT hB3 hB7);have:qgo h.Color=[1,2,4,8,16]:=by unfold qgo;rw [if_pos e]
  rw [this];exact qsi (E:=E_int) (ys:=[1,2,4,8,16]) h7 (by decide) rfl
 have e:h.Color≠0:=by simpa using e
 refine cO (fun e3=>?_) fun e3=>?_
 ·have e3:h.Color=3:=by simpa using e3
  refine nwb fun w7 h7 hB7 hs7=>key _ w7 ?_ (bT hB13 hB7) (bT hB3 hB7);have:qgo h.Color=[1,2,4,8]:=by unfold qgo;rw [if_neg e,if_pos e3]
  rw [this];exact qsi (E:=E_int) (ys:=[1,2,4,8]) h7 (by decide) rfl
 ·have e3:h.Color≠3:=by simpa using e3
  refine key _ w3 ?_ hB13 hB3;have:qgo h.Color=[8,16]:=by unfold qgo;rw [if_neg e,if_neg e3]
  rw [this];exact qsi (E:=E_int) (ys:=[8,16]) h3 (by decide) rfl
theorem zdy {x:qam} {c:ChL} {K:qag->Int->World->Prop} (hx:ChA w x c) (hK:∀w',Below w.heap.size w w'->K (headP c).2 ((headP c).1:Nat) w'):qx2 x w K:=by
 refine q7r _ ?_;unfold q2b;refine nwb fun w1 h1 hB1 hs1=>nwb fun w2 h2 hB2 hs2=>?_;have hB12:=bT hB1 hB2;have h12:=h1.ext hB2;have hx2:=hx.ext hB12;refine lSl (x:=x.Data) (h12.cells 1 _ rfl) ?_;refine jpO fun J1 hJ1=>jpO fun J2 hJ2=>?_;have hbad:∀w',Below w2.heap.size w2 w'->∀(n:Nat),headP c=(n,headZ)->stK ⟨w1.heap.size,0,none⟩ [(.int .i64 0),(.int .i64 0),(.int .i64 0),(.int .i64 0),(.int .i64 0)] w' fun w25=>ldS qag.rep ⟨w1.heap.size,0,none⟩ w25 fun r_6=>K r_6 n w25:=by
  intro w' hB n hn;rw [hn] at hK;exact qbm (r:=qag.rep) (x:=headZ) (h2.ext hB) rfl rfl fun w3 hc hs=>hK w3 (b1o (bT hB12 hB) hc (by omega))
 have hJ2f:(c.kind≠ihdrL\/c.data.length≠13\/c.data[10]?.getD 0≠0\/c.data[11]?.getD 0≠0)->J2 (true,()) w2:=fun h=>hJ2 _ _ (cT rfl (hbad w2 (Below.refl _ _) 3 (by unfold headP;rw [if_pos h])));refine ql0 (x:=x.Kind) (h12.cells 0 _ rfl) ?_;rw [hx.kind,qdr,show (⟨#[73,72,68,82]⟩:ByteArray)=strB ihdrL from rfl,qdr,hx.data.n];refine cO (fun e=>?_) fun e=>?_
 ·exact hJ2f (.inl (by simpa using e))
 have e1:c.kind=ihdrL:=by simpa using e
 refine cO (fun e=>?_) fun e=>?_
 ·refine hJ2f (.inr (.inl fun h=>?_));rw [h] at e;cases e
 have e2:c.data.length=13:=by
  have:((c.data.length:Nat):Int)=13:=by simpa using e
  omega
 have gt:∀i,i<13->∃y,c.data[i]?=some y:=fun i hi=>⟨_,List.getElem?_eq_getElem (by omega)⟩;have rd:∀{i:Nat} {y:UInt8} {w':World} {K:Addr->Prop},Below w.heap.size w w'->i<13->c.data[i]?=some y->K (x.Data.at_ 1 i)->ixK x.Data (i:Int) 1 K:=fun {i y w' K} hB hi hy hk=>by
  refine (hx.data.ext hB).ix (i:=(i:Int)) rfl (by omega) (by omega) fun _=>?_;exact hk
 obtain ⟨y10,hy10⟩:=gt 10 (by omega);obtain ⟨y11,hy11⟩:=gt 11 (by omega);refine rd (i:=10) hB12 (by omega) hy10 (lI (qdo hx2.data hy10) ?_);refine cO (fun e=>?_) fun e=>?_
 ·refine hJ2f (.inr (.inr (.inl ?_)));rw [hy10];intro h;rw [show y10=0 from h] at e;simp at e
 have e3:y10=0:=by
  have:((y10.toNat:Nat):Int)=0:=by simpa using e
  exact UInt8.toNat_inj.1 (by simpa using this)
 refine rd (i:=11) hB12 (by omega) hy11 (lI (qdo hx2.data hy11) ?_);by_cases e4:y11≠0
 ·have:(((y11.toNat:Nat):Int) !=0)=true:=by
   refine qf7 fun h=>e4 (UInt8.toNat_inj.1 ?_);have:y11.toNat=0:=by omega
   simpa using this
  rw [this];exact hJ2f (.inr (.inr (.inr (by rw [hy11];exact e4))))
 have e4:y11=0:=Classical.not_not.1 e4;have:(((y11.toNat:Nat):Int) !=0)=false:=by rw [e4];rfl
 rw [this];have hg:¬(c.kind≠ihdrL\/c.data.length≠13\/c.data[10]?.getD 0≠0\/c.data[11]?.getD 0≠0):=by
  rw [hy10,hy11,e3,e4];simp [e1,e2]
 refine hJ2 _ _ (cF rfl (hJ1 _ _ ?_));clear hJ2 hJ1 hJ2f;obtain ⟨y8,hy8⟩:=gt 8 (by omega);obtain ⟨y9,hy9⟩:=gt 9 (by omega);obtain ⟨y12,hy12⟩:=gt 12 (by omega);have dd:∀{w'},Below w.heap.size w w'->Rd qae w' x.Data c.data:=fun hB=>hx.data.ext hB;have hBd:=bT hB12 (bdw w2);have hBd2:Below w2.heap.size w2 w2.drew:=bdw w2;refine hx2.data.slK (l:=4) (m:=13) rfl (.inr rfl) (.inl ⟨rfl,e2.symm⟩) (by omega) (by omega) fun hp=>?_;rw [take_of_length_le (by omega)] at hp;refine rd (i:=8) hB12 (by omega) hy8 (lI (qdo (dd hBd) hy8) ?_);refine rd (i:=9) hB12 (by omega) hy9 (lI (qdo (dd hBd) hy9) ?_);refine rd (i:=12) hB12 (by omega) hy12 (lI (qdo (dd hBd) hy12) ?_);have hw8:∀y:UInt8,i64.wrap ((y.toNat:Nat):Int)=((y.toNat:Nat):Int):=fun y=>w64i (by have:=y.toNat_lt;omega);have hwb:∀l:List UInt8,i64.wrap ((bigN (l.take 4):Nat):Int)=((bigN (l.take 4):Nat):Int):=fun l=>w64i (by have:=zbk (bs:=l.take 4) (by rw [length_take];omega);omega);have hH:qgy c.data=⟨(bigN (c.data.take 4):Nat),(bigN ((c.data.drop 4).take 4):Nat),(y8.toNat:Nat),(y9.toNat:Nat),(y12.toNat:Nat)⟩:=by
  unfold qgy;rw [hy8,hy9,hy12];rfl
 rw [hw8,hw8,hw8];have tail:∀(g:Nat) (vs:List Value) w6,vs.length=5->w2.heap.size<=g->Below w2.heap.size w2 w6->Blk w6 g qbo vs ->
   stK ⟨g,0,none⟩ [(.int .i64 ((bigN (c.data.take 4):Nat):Int)),(.int .i64 ((bigN ((c.data.drop 4).take 4):Nat):Int)),(.int .i64 ((y8.toNat:Nat):Int)),(.int .i64 ((y9.toNat:Nat):Int)),(.int .i64 ((y12.toNat:Nat):Int))] w6 fun w7 =>
     ldS qag.rep ⟨g,0,none⟩ w7 fun t50 =>
     qif t50 w7 fun t51 w8 =>
     cond (t51 !=(0:Int))
      (stK ⟨w1.heap.size,0,none⟩ [(.int .i64 0),(.int .i64 0),(.int .i64 0),(.int .i64 0),(.int .i64 0)] w8 fun w9=>ldS qag.rep ⟨w1.heap.size,0,none⟩ w9 fun r=>K r t51 w9)
      (ldS qag.rep ⟨g,0,none⟩ w8 fun t56=>stK ⟨w1.heap.size,0,none⟩ (qag.rep.cells t56) w8 fun w10=>ldS qag.rep ⟨w1.heap.size,0,none⟩ w10 fun r_1=>K r_1 0 w10):=by
  intro g vs w6 hvs hg6 hB6 hb6;refine qbx hb6 hvs.symm fun w7 hb7 hc7 hs7=>?_;have hb7:Blk w7 g qbo (qag.rep.cells (qgy c.data)):=by rw [hH];exact hb7
  have hB7:Below w2.heap.size w2 w7:=b1o hB6 hc7 hg6;refine qal (r:=qag.rep) (x:=qgy c.data) hb7.cells ?_;refine zcr fun w8 hB8=>?_;have hB28:=bT hB7 hB8;by_cases hz:qgw (qgy c.data)≠0
  ·refine cT (qf7 (by omega)) ?_;exact hbad w8 hB28 _ (by unfold headP;rw [if_neg hg,if_pos hz])
  ·have hz:qgw (qgy c.data)=0:=by omega
   rw [hz];refine cF rfl ?_;refine qal (r:=qag.rep) (x:=qgy c.data) (hb7.ext hB8).cells ?_;have hh:headP c=(0,qgy c.data):=by unfold headP;rw [if_neg hg,hz,if_neg (by decide)]
   rw [hh] at hK;exact qbm (r:=qag.rep) (x:=qgy c.data) (h2.ext hB28) rfl rfl fun w3 hc hs=>hK w3 (b1o (bT hB12 hB28) hc (by omega))
 have hp':∀{w'},Below w2.heap.size w2 w'->Rd qae w' _ _:=fun hB=>hp.ext hB;have c8:∀{w'},Below w2.heap.size w2 w'->w'.cell? (x.Data.at_ 1 8)=some (.int .u8 (y8.toNat:Int)):=fun hB=>qdo (hx2.data.ext hB) hy8;have c9:∀{w'},Below w2.heap.size w2 w'->w'.cell? (x.Data.at_ 1 9)=some (.int .u8 (y9.toNat:Int)):=fun hB=>qdo (hx2.data.ext hB) hy9;have c12:∀{w'},Below w2.heap.size w2 w'->w'.cell? (x.Data.at_ 1 12)=some (.int .u8 (y12.toNat:Int)):=fun hB=>qdo (hx2.data.ext hB) hy12;have l4:4<=(c.data.drop 4).length:=by rw [length_drop];omega
 refine ⟨?_,?_⟩
 ·refine BigG (hx2.data.ext hBd2) (by omega) ?_;have hB4:=bT hBd2 (bdw _);refine ⟨c12 hB4,c9 hB4,c8 hB4,?_,?_⟩
  ·refine BigG (hp' hB4) l4 ?_;have hB5:=bT hB4 (bdw _);refine ⟨c12 hB5,c9 hB5,c8 hB5,nwb fun w6 hb6 hB6 hs6=>?_⟩;have hB6':=bT hB5 hB6;refine ⟨c12 hB6',c9 hB6',c8 hB6',?_⟩;rw [hwb,hwb];exact tail _ _ w6 rfl hB5.size hB6' hb6
  ·refine nwb fun w6 hb6 hB6 hs6=>?_;have hB6':=bT hB4 hB6;refine ⟨c12 hB6',c9 hB6',c8 hB6',BigG (hp' hB6') l4 ?_⟩;have hB7':=bT hB6' (bdw _);refine ⟨c12 hB7',c9 hB7',c8 hB7',?_⟩;rw [hwb,hwb];exact tail _ _ _ rfl hB4.size hB7' (hb6.ext (bdw _))
 ·refine nwb fun w6 hb6 hB6 hs6=>?_;have hB6':=bT hBd2 hB6;refine ⟨c12 hB6',c9 hB6',c8 hB6',BigG (hx2.data.ext hB6') (by omega) ?_⟩;have hB7':=bT hB6' (bdw _);refine ⟨c12 hB7',c9 hB7',c8 hB7',BigG (hp' hB7') l4 ?_⟩;have hB8':=bT hB7' (bdw _);refine ⟨c12 hB8',c9 hB8',c8 hB8',?_⟩;rw [hwb,hwb];exact tail _ _ _ rfl hBd2.size hB8' ((hb6.ext (bdw _)).ext (bdw _))
end
end Go.Proofs.YtedcpbkcamckoaaGreatDoor
