import Derived.Test.YtmagnpcgpinmcaaGreatP1
import Derived.Test.YtmagnpcgpinmcaaGreatShA
set_option linter.unusedVariables false
namespace Go.Proofs.YtmagnpcgpinmcaaGreat
open Go.Vc Go.RowKit
set_option maxRecDepth 400000
theorem New_any {s:Slc} {ls:List UInt8} {w:World} {K:Option Addr→Int→World→Prop} (h:Rd E_uint8 w s ls)
  (hK1:badTab ls→∀e w',e≠0→Below w.heap.size w w'→K none e w')
  (hK2:¬badTab ls→∀f w',TabM w' w.heap.size f ls→Below w.heap.size w w'→K (some ⟨f.g,0,none⟩) 0 w'):c_huff_New s w K :=
 New_spec h (fun hb w' hB=>hK1 (.inl hb) _ w' (by decide) hB) (fun _ hb w' hB=>hK1 (.inr hb) _ w' (by decide) hB) (fun h1 h2 f w' ht hB=>hK2 (fun hb=>by rcases hb with hb | hb;exact h1 hb;exact h2 hb) f w' ht hB)
section
variable {w w':World} {base:Nat} {F:DF} {S:DS} {r:Nat} {rs:Slc} {at_:Nat}
theorem read_spec {f:TF} {ls:List UInt8} {nn b1:Nat} {K:Slc→Int→World→Prop} (h:DR w base F S r rs at_) (ht:TabR w b1 f ls) (hnn:nn≤1000) (hls:ls.length≤19)
  (hK1:∀s l a w',lensGo ls S.wait nn 400 at_ []=.lens l a→l.length=nn→Own E_uint8 w' w.heap.size s l→at_≤a→DR w' base F S r rs a→Chg (drS F r) w w'→K s 0 w')
  (hK2:∀a w',lensGo ls S.wait nn 400 at_ []=.short→at_≤a→DR w' base F S r rs a→Chg (drS F r) w w'→K ⟨none,0,0⟩ 2 w')
  (hK3:∀a w',lensGo ls S.wait nn 400 at_ []=.form→DR w' base F S r rs a→Chg (drS F r) w w'→K ⟨none,0,0⟩ 3 w') (hn4:nn<400):c_inflate_read (some ⟨r,0,none⟩) (some ⟨f.g,0,none⟩) nn w K:=by
 refine call_inflate_read _ _ _ ?_
 unfold sh_inflate_read
 have hG0:lensGo ls S.wait nn 400 at_ []=lensGo ls S.wait nn 400 at_ []:=rfl
 generalize hG:lensGo ls S.wait nn 400 at_ []=G at hK1 hK2 hK3
 have hG0:G=lensGo ls S.wait nn 400 at_ []:=hG.symm
 clear hG
 refine loopP_rule_w (fun m (s:Slc×Unit) w1=>∃(l:List UInt8) (a1 f1:Nat),m=nn-l.length∧l.length≤nn∧nn-l.length<f1∧Own E_uint8 w1 w.heap.size s.1 l∧at_≤a1∧DR w1 base F S r rs a1∧TabR w1 b1 f ls∧G=lensGo ls S.wait nn f1 a1 l∧Chg (drS F r) w w1)
  nn ⟨[],at_,400,rfl,Nat.zero_le _,by simpa using hn4,Own.nil _ _ _,Nat.le_refl _,h,ht,hG0,Chg.refl _ _⟩ ?_
 rintro m ⟨s,_⟩ w1 ⟨l,a1,f1,rfl,hll,hf1,ho1,ha1,h1,ht1,hgo,hc1⟩ I hI
 dsimp only at *
 obtain ⟨f1,rfl⟩:∃k,f1=k+1:=⟨f1-1,by omega⟩
 rw [lensGo] at hgo
 have hsn:s.n=l.length:=ho1.rd.n
 have hs1:=hc1.size
 rw [hsn]
 refine cO (fun hlt=>?_) (fun hge=>?_)
 ·have hlt:=of_decide_eq_true hlt
  rw [if_neg (by omega)] at hgo
  have fr:∀k,s.blk=some k→k≠r:=fun k hk e=>by
   subst e
   have:=(ho1.lt _ hk).1
   have:=h.rdr.blk.lt
   omega
  have fd:∀k,s.blk=some k→¬drS F r k:=fun k hk hs=>by
   have:=(ho1.lt _ hk).1
   rcases hs with hs | hs
   ·have:=(h.d.below k hs).2;omega
   ·exact fr k hk hs
  refine rRead h1 ht1 (fun y k w2 er hl2 hy h2 hc2=>?_) (fun w2 er h2 hc2=>?_) (fun w2 er h2 hc2=>?_)
  rotate_left
  ·rw [er] at hgo
   exact cT rfl (hK2 a1 w2 hgo ha1 h2 (hc1.trans hc2 fun i _ hi=>hi))
  ·rw [er] at hgo
   exact cT rfl (hK3 a1 w2 hgo h2 (hc1.trans hc2 fun i _ hi=>hi))
  rw [er] at hgo
  dsimp only at hgo
  refine cF rfl ?_
  have c02:Chg (drS F r) w w2:=hc1.trans hc2 fun i _ hi=>.inr hi
  have ho2:=ho1.chg hc2 fun k hk e=>fr k hk e
  have ht2:=ht1.chg hc2 fun k e _=>by subst e;exact ⟨_,_,h1.rdr.blk,by decide,by decide⟩
  have s02:=c02.size
  refine jpO fun J2 hJ2=>?_
  have main:∀(b m:Nat) (v:UInt8),(if y=18 then ((11,7,0):Nat×Nat×UInt8) else if y=17 then (3,3,0) else if y=16 then (3,2,l.getLastD 0) else (1,0,UInt8.ofNat y))=(b,m,v)→¬(y=16∧l=[])→m≤7→1≤b→b≤11→J2 ((b:Int),(m:Int),((v.toNat:Nat):Int),()) w2:=fun b m v hbm hn16 hm7 hb1 hb11=>hJ2 _ _ (by
   clear hJ2
   rw [if_neg hn16] at hgo
   simp only [hbm] at hgo
   dsimp only
   refine rBits h2 (fun m' w4 e _ hl4 h4 hc4=>?_) (fun w4 hn h4 hc4=>?_)
   rotate_left
   ·rw [if_pos (by omega)] at hgo
    exact cT rfl (hK2 _ w4 hgo (by omega) h4 (c02.trans hc4 fun i _ hi=>hi))
   have:m'=m:=by omega
   subst this
   rw [if_neg (by omega)] at hgo
   refine cF rfl ?_
   have hp:=peekN_lt S.wait (a1+k) m'
   have hpm:2^m'≤2^7:=Nat.pow_le_pow_right (by decide) hm7
   have c04:Chg (drS F r) w w4:=c02.trans hc4 fun i _ hi=>hi
   have s04:=c04.size
   obtain ⟨p,hpp⟩:∃p,peekN S.wait (a1+k) m'=p:=⟨_,rfl⟩
   rw [hpp] at hgo hp ⊢
   rw [w64i (x:=((p:Nat):Int)) (by omega),w64i (x:=((l.length:Nat):Int)+(b:Int)) (by omega),w64i (x:=((l.length:Nat):Int)+(b:Int)+(p:Int)) (by omega),w64i (x:=(b:Int)+(p:Int)) (by omega)]
   refine cO (fun hbig=>?_) (fun hfit=>?_)
   ·have hbig:=of_decide_eq_true hbig
    rw [if_pos (by omega)] at hgo
    exact hK3 _ w4 hgo h4 c04
   have hfit:=of_decide_eq_false hfit
   rw [if_neg (by omega)] at hgo
   have ho4:=ho2.chg hc4 fd
   have ht4:=ht2.chg hc4 fun k hk _=>by
    rcases hk with hk | hk
    ·exact h2.d.noTab k hk
    ·subst hk;exact ⟨_,_,h2.rdr.blk,by decide,by decide⟩
   refine lpR (fun (s:Slc×Int×Unit) w5=>∃i:Nat,s.2.1=i∧i≤b+p∧Own E_uint8 w5 w.heap.size s.1 (l++List.replicate i v)∧DR w5 base F S r rs (a1+k+m')∧TabR w5 b1 f ls∧Chg (drS F r) w w5) (fun s=>b+p-s.2.1.toNat) ⟨0,rfl,Nat.zero_le _,by simpa using ho4,h4,ht4,c04⟩ ?_
   rintro ⟨q,i,_⟩ w5 ⟨i,rfl,hi,ho5,h5,ht5,c05⟩ I3 hI3
   dsimp only at *
   have s05:=c05.size
   refine cO (fun hlt2=>?_) (fun hge2=>?_)
   ·have hlt2:=of_decide_eq_true hlt2
    refine apB1 (c:=v) rfl ho5 s05 (by simp;omega) fun q2 w6 ho6 hc6 hq6=>?_
    rw [w64i (by omega)]
    have fresh:∀k,q.blk=some k→w.heap.size≤k:=fun k hk=>(ho5.lt k hk).1
    have ndr:∀k,drS F r k→q.blk≠some k:=fun k hk e=>by
     have:=fresh k e
     rcases hk with hk | hk
     ·have:=(h.d.below k hk).2;omega
     ·subst hk;have:=h.rdr.blk.lt;omega
    have h6:DR w6 base F S r rs (a1+k+m'):=by
     refine ⟨h5.d.chg hc6 (fun k hk e=>?_) fun k e _=>?_,h5.rdr.chg hc6 (ndr _ (.inr rfl)) fun k hk e=>?_,h5.sep,h5.rb,h5.wr,fun k hk=>by have:=h5.wl k hk;have:=hc6.size;omega,fun k hk=>by have:=h5.sl k hk;have:=hc6.size;omega⟩
     ·rcases hk with hk | hk
      ·exact ndr k (.inl hk) e
      ·have:=fresh k e;have:=h.wl k hk;omega
     ·obtain ⟨cs,hcs⟩:=ho5.blk_t e
      exact ⟨_,_,hcs,by decide,by decide⟩
     ·have:=fresh k e;have:=h.sl k hk;omega
    refine hI3 _ _ ⟨i+1,by simp,by omega,?_,h6,ht5.chg hc6 fun k e _=>?_,c05.trans hc6 fun k hk e=>by have:=fresh k e;omega⟩ (by simp;omega)
    ·rw [List.replicate_succ',←List.append_assoc]
     exact ho6
    ·obtain ⟨cs,hcs⟩:=ho5.blk_t e
     exact ⟨_,_,hcs,by decide,by decide⟩
   ·have hge2:=of_decide_eq_false hge2
    have:i=b+p:=by omega
    subst this
    refine hI _ _ w5 ⟨l++List.replicate (b+p) v,a1+k+m',f1,rfl,by simp;omega,by simp;omega,ho5,by omega,h5,ht5,hgo,c05⟩ (by simp;omega))
  refine cO (fun c=>?_) (fun c=>?_)
  ·have c:y=18:=by have:=eq_of_beq c;omega
   exact main 11 7 0 (by rw [if_pos c]) (by omega) (by decide) (by decide) (by decide)
  have c:y≠18:=by have:=beq_eq_false_iff_ne.1 c;omega
  refine cO (fun c2=>?_) (fun c2=>?_)
  ·have c2:y=17:=by have:=eq_of_beq c2;omega
   exact main 3 3 0 (by rw [if_neg c,if_pos c2]) (by omega) (by decide) (by decide) (by decide)
  have c2:y≠17:=by have:=beq_eq_false_iff_ne.1 c2;omega
  refine cO (fun c3=>?_) (fun c3=>?_)
  ·have c3:y=16:=by have:=eq_of_beq c3;omega
   refine cO (fun c4=>?_) (fun c4=>?_)
   ·have c4:l.length=0:=by have:=eq_of_beq c4;omega
    rw [if_pos ⟨c3,List.eq_nil_of_length_eq_zero c4⟩] at hgo
    exact hK3 _ w2 hgo h2 c02
   ·have c4:l.length≠0:=by have:=beq_eq_false_iff_ne.1 c4;omega
    rw [w64i (by omega)]
    have ei:((l.length:Nat):Int)-1=((l.length-1:Nat):Int):=by omega
    rw [ei]
    refine ho2.rd.ix rfl (by omega) (by omega) fun hc=>?_
    have hlast:∀q,l[((l.length-1:Nat):Int).toNat]'q=l.getLastD 0:=fun q=>by
     rw [List.getLastD_eq_getLast?,List.getLast?_eq_getElem?,List.getElem?_eq_getElem (by omega:l.length-1<l.length)]
     rfl
    rw [hlast] at hc
    refine ldB8 (b:=l.getLastD 0) hc ?_
    exact main 3 2 (l.getLastD 0) (by rw [if_neg c,if_neg c2,if_pos c3]) (by rintro ⟨_,e⟩;exact c4 (by rw [e];rfl)) (by decide) (by decide) (by decide)
  ·have c3:y≠16:=by have:=beq_eq_false_iff_ne.1 c3;omega
   have hv:IntKind.u8.wrap ((y:Nat):Int)=(((UInt8.ofNat y).toNat:Nat):Int):=by
    rw [wrap_nat .u8 (by show _<2^8;omega),UInt8.toNat_ofNat']
    congr 1
    omega
   rw [hv]
   exact main 1 0 (UInt8.ofNat y) (by rw [if_neg c,if_neg c2,if_neg c3]) (by omega) (by decide) (by decide) (by decide)
 ·have hge:=of_decide_eq_false hge
  rw [if_pos (by omega)] at hgo
  exact hK1 s l a1 w1 hgo (by omega) ho1 ha1 h1 hc1
end
end Go.Proofs.YtmagnpcgpinmcaaGreat
namespace Go.Proofs.YtmagnpcgpinmcaaGreat
open Go.Vc Go.RowKit
set_option maxRecDepth 400000
theorem clens_length (bs:List UInt8) (a i:Nat):(clens bs a i).length=19:=by
 induction i with
 | zero=>simp [clens]
 | succ i ih=>rw [clens,List.length_set,ih]
theorem orderL_lt (i:Nat) (h:i<19):orderL.getD i 0<19:=by
 have:∀k:Fin 19,orderL.getD k.val 0<19:=by decide
 exact this ⟨i,h⟩
section
variable {w w':World} {base:Nat} {F:DF} {S:DS} {r:Nat} {rs:Slc} {at_:Nat}
theorem dynamic_spec {K:Int→World→Prop} (h:DR w base F S r rs at_) (hm:S.c.mode=3) (hbase:base≤w.heap.size)
  (hK:∀e F' S' at' w',StepRes S at_ e S' at'→DR w' base F' S' r rs at'→F.to F' w.heap.size→Chg (drS F r) w w'→K e w'):c_inflate_Decoder_dynamic (some ⟨F.d,0,none⟩) (some ⟨r,0,none⟩) w K:=by
 refine call_inflate_Decoder_dynamic _ _ ?_
 unfold sh_inflate_Decoder_dynamic
 have hst:step1 S.most S.wait at_ S.c=stepDyn S.wait at_ S.c:=by rw [step1,if_neg (by omega),stepN,if_neg (by omega),if_neg (by omega),if_neg (by omega),if_pos hm]
 unfold stepDyn at hst
 have short:∀at' w',step1 S.most S.wait at_ S.c=.short→at_≤at'→DR w' base F S r rs at'→Chg (drS F r) w w'→K 2 w':=fun at' w' hs ha h' hc' =>
  hK 2 F S at' w' ⟨rfl,rfl,rfl,.inr (.inl ⟨rfl,0,at_,.refl _ _,hs,⟨[],by simp,by simp⟩,by simp,by omega,by simp,by omega,by omega⟩)⟩ h' (DF.to.refl _ _) hc'
 have bad:∀at' w',step1 S.most S.wait at_ S.c=.err 3→DR w' base F S r rs at'→Chg (drS F r) w w'→K 3 w':=fun at' w' hs h' hc' =>
  hK 3 F S at' w' ⟨rfl,rfl,rfl,.inr (.inr ⟨3,rfl,.inl rfl,⟨S.c,at_,.refl _ _,hs⟩,rfl,rfl⟩)⟩ h' (DF.to.refl _ _) hc'
 have any:∀{n:Nat} {at1:Nat} {w1:World} {K':Int→Bool→World→Prop},n≤32→DR w1 base F S r rs at1→(∀(ok:Bool) v at2 w2,(ok=true↔at1+n≤8*S.wait.length)→at1≤at2→(ok=true→at2=at1+n∧v=((peekN S.wait at1 n:Nat):Int))→DR w2 base F S r rs at2→Chg (drS F r) w1 w2→K' v ok w2)→c_bits_Reader_Bits (some ⟨r,0,none⟩) n w1 K':=by
  intro n at1 w1 K' hn h1 hK'
  refine rBits h1 (fun m w2 e _ hl h2 hc=>?_) (fun w2 hno h2 hc=>?_)
  ·have:m=n:=by omega
   subst this
   exact hK' true _ _ w2 ⟨fun _=>hl,fun _=>rfl⟩ (by omega) (fun _=>⟨rfl,rfl⟩) h2 hc
  ·exact hK' false 0 at1 w2 ⟨fun e=>(by cases e),fun e=>by omega⟩ (Nat.le_refl _) (fun e=>(by cases e)) h2 hc
 refine any (n:=5) (by decide) h fun ok1 v1 a1 w1 o1 l1 g1 h1 c1=>?_
 refine any (n:=5) (by decide) h1 fun ok2 v2 a2 w2 o2 l2 g2 h2 c2=>?_
 refine any (n:=4) (by decide) h2 fun ok3 v3 a3 w3 o3 l3 g3 h3 c3=>?_
 have c03:Chg (drS F r) w w3:=(c1.trans c2 fun i _ hi=>hi).trans c3 fun i _ hi=>hi
 have s03:=c03.size
 refine jpO fun J1 hJ1=>?_
 refine jpO fun J4 hJ4=>?_
 have no:8*S.wait.length<at_+14→J4 (true,()) w3:=fun hl=>hJ4 _ _ (by
  rw [if_pos hl] at hst
  exact cT rfl (short a3 w3 hst (by omega) h3 c03))
 have yes:ok1=true→ok2=true→ok3=true→J4 (false,()) w3:=fun e1 e2 e3=>hJ4 _ _ (by
  obtain ⟨p1,rfl⟩:=g1 e1
  obtain ⟨p2,rfl⟩:=g2 e2
  obtain ⟨p3,rfl⟩:=g3 e3
  subst p1 p2 p3
  have hl:=o3.1 e3
  rw [show at_+5+5=at_+10 by omega] at *
  rw [show at_+10+4=at_+14 by omega] at *
  rw [if_neg (by omega)] at hst
  dsimp only at hst
  refine cF rfl ?_
  have pa:=peekN_lt S.wait at_ 5
  have pb:=peekN_lt S.wait (at_+5) 5
  have pd:=peekN_lt S.wait (at_+10) 4
  obtain ⟨a,ea⟩:∃a,peekN S.wait at_ 5=a:=⟨_,rfl⟩
  obtain ⟨b,eb⟩:∃a,peekN S.wait (at_+5) 5=a:=⟨_,rfl⟩
  obtain ⟨d,ed⟩:∃a,peekN S.wait (at_+10) 4=a:=⟨_,rfl⟩
  rw [ea] at hst pa hJ1 ⊢
  rw [eb] at hst pb hJ1 ⊢
  rw [ed] at hst pd hJ1
  refine cO (fun q=>?_) (fun q=>?_)
  ·have q:=of_decide_eq_true q
   rw [if_pos (by omega)] at hst
   exact bad _ w3 hst h3 c03
  have q:=of_decide_eq_false q
  refine cO (fun q2=>?_) (fun q2=>?_)
  ·have q2:=of_decide_eq_true q2
   rw [if_pos (by omega)] at hst
   exact bad _ w3 hst h3 c03
  have q2:=of_decide_eq_false q2
  rw [if_neg (by omega)] at hst
  refine hJ1 _ _ ?_
  clear hJ1 hJ4
  refine box_of (t:=ty_19_int) rfl fun w6 hb6 hB6 hs6=>?_
  have h6:=h3.ext hB6
  refine mkSl_of sT_sl_uint8 (x0:=(0:UInt8)) rfl (n:=19) rfl rfl (by rw [by_sl_uint8];omega) (by simp only [maxLen];omega) fun w7 ho7 hB7=>?_
  have h7:=h6.ext hB7
  have hb7:=hb6.ext hB7
  have cd:IntKind.i64.wrap (IntKind.i64.wrap ((d:Nat):Int)+4)=((d+4:Nat):Int):=by
   rw [w64i (x:=((d:Nat):Int)) (by omega),w64i (by omega)];omega
  rw [cd]
  have hcn:(⟨some ⟨w6.heap.size,0,none⟩,19,19⟩:Slc).blk=some w6.heap.size:=rfl
  have c07:Chg (drS F r) w w7:=(c03.trans (Chg.of_ext (S:=drS F r) hB6) fun i _ hi=>hi).trans (Chg.of_ext (S:=drS F r) hB7) fun i _ hi=>hi
  have s06:w3.heap.size≤w6.heap.size:=hB6.size
  have fr6:∀k,drS F r k→k<w6.heap.size:=fun k hk=>by
   rcases hk with hk | hk
   ·have:=(h.d.below k hk).2;omega
   ·subst hk;have:=h.rdr.blk.lt;omega
  obtain ⟨cl,hcl⟩:∃s:Slc,s=⟨some ⟨w6.heap.size,0,none⟩,19,19⟩:=⟨_,rfl⟩
  rw [←hcl] at ho7 hcn ⊢
  refine lpR (fun (s:Int×Unit) w8=>∃i:Nat,s.1=i∧i≤d+4∧at_+14+3*i≤8*S.wait.length∧Own E_uint8 w8 w6.heap.size cl (clens S.wait (at_+14) i)∧DR w8 base F S r rs (at_+14+3*i)∧Blk w8 w3.heap.size ty_19_int [.int .i64 16,.int .i64 17,.int .i64 18,.int .i64 0,.int .i64 8,.int .i64 7,.int .i64 9,.int .i64 6,.int .i64 10,.int .i64 5,.int .i64 11,.int .i64 4,.int .i64 12,.int .i64 3,.int .i64 13,.int .i64 2,.int .i64 14,.int .i64 1,.int .i64 15]∧Chg (drS F r) w w8) (fun s=>d+4-s.1.toNat)
   ⟨0,rfl,by omega,by omega,ho7,h7,hb7,c07⟩ ?_
  rintro ⟨i,_⟩ w8 ⟨i,rfl,hi,hil,ho8,h8,hb8,c08⟩ I hI
  dsimp only at *
  have s08:=c08.size
  refine cO (fun hlt=>?_) (fun hge=>?_)
  ·have hlt:=of_decide_eq_true hlt
   refine rBits h8 (fun m w9 e _ hl9 h9 hc9=>?_) (fun w9 hno h9 hc9=>?_)
   rotate_left
   ·rw [if_pos (by omega)] at hst
    exact cT rfl (short _ w9 hst (by omega) h9 (c08.trans hc9 fun i _ hi=>hi))
   have:m=3:=by omega
   subst this
   refine cF rfl ?_
   have ho9:=ho8.chg hc9 fun k hk hs=>by rw [hcn] at hk;cases hk;have:=fr6 _ hs;omega
   have hb9:=hb8.chg hc9 fun hs=>by
    rcases hs with (hs | hs | hs) | hs
    ·exact hb8.ne_t h8.d.blk (by decide) hs
    ·obtain ⟨cs,hcs⟩:=h8.d.ring.blk_t hs
     exact hb8.ne_t hcs (by decide) rfl
    ·obtain ⟨cs,hcs⟩:=h8.d.out.blk_t hs
     exact hb8.ne_t hcs (by decide) rfl
    ·exact hb8.ne_t h8.rdr.blk (by decide) hs
   have hi19:i<19:=by omega
   refine ⟨⟨by omega,by omega⟩,?_⟩
   have hov:∀(j:Nat),j<19→([.int .i64 16,.int .i64 17,.int .i64 18,.int .i64 0,.int .i64 8,.int .i64 7,.int .i64 9,.int .i64 6,.int .i64 10,.int .i64 5,.int .i64 11,.int .i64 4,.int .i64 12,.int .i64 3,.int .i64 13,.int .i64 2,.int .i64 14,.int .i64 1,.int .i64 15]:List Value)[j]?=some (.int .i64 ((orderL.getD j 0:Nat):Int)):=fun j hj=>by
    match j,hj with
    | 0,_ | 1,_ | 2,_ | 3,_ | 4,_ | 5,_ | 6,_ | 7,_ | 8,_ | 9,_ | 10,_ | 11,_ | 12,_ | 13,_ | 14,_ | 15,_ | 16,_ | 17,_ | 18,_=>rfl
    | j+19,hj=>omega
   refine lI (x:=((orderL.getD i 0:Nat):Int)) (by simpa using hb9.cells i _ (hov i hi19)) ?_
   have hol:=orderL_lt i hi19
   have hcl9:=clens_length S.wait (at_+14) i
   refine ho9.rd.ix rfl (by omega) (by omega) fun _=>?_
   have hp:=peekN_lt S.wait (at_+14+3*i) 3
   have hv:IntKind.u8.wrap ((peekN S.wait (at_+14+3*i) 3:Nat):Int)=(((UInt8.ofNat (peekN S.wait (at_+14+3*i) 3)).toNat:Nat):Int):=by
    rw [wrap_nat .u8 (by show _<2^8;omega),UInt8.toNat_ofNat']
    congr 1
    omega
   rw [hv]
   refine ho9.st0 (x:=(clens S.wait (at_+14) i)[orderL.getD i 0]'(by omega)) (y:=UInt8.ofNat (peekN S.wait (at_+14+3*i) 3)) (List.getElem?_eq_getElem _) rfl fun w10 ho10 hg10 hs10=>?_
   have hc10:Chg (fun k=>k=w6.heap.size) w9 w10:=Chg.of_grown hg10 fun k hk=>by rw [hcn] at hk;cases hk;rfl
   rw [w64i (by omega)]
   have h10:DR w10 base F S r rs (at_+14+3*i+3):=by
    have e6:∀k,k=w6.heap.size→NoTab w9 k:=fun k e=>by
     subst e
     obtain ⟨cs,hcs⟩:=ho9.blk_t hcn
     exact ⟨_,_,hcs,by decide,by decide⟩
    have s69:=hc9.size
    refine ⟨h9.d.chg hc10 (fun k hk e=>?_) fun k e _=>e6 k e,h9.rdr.chg hc10 (fun e=>?_) fun k hk e=>?_,h9.sep,h9.rb,h9.wr,fun k hk=>by have:=h9.wl k hk;have:=hc10.size;omega,fun k hk=>by have:=h9.sl k hk;have:=hc10.size;omega⟩
    ·rcases hk with hk | hk
     ·have:=fr6 k (.inl hk);omega
     ·have:=h.wl k hk;omega
    ·have:=fr6 r (.inr rfl);omega
    ·have:=h.sl k hk;omega
   refine hI _ _ ⟨i+1,by simp,by omega,by omega,ho10,by rw [show at_+14+3*(i+1)=at_+14+3*i+3 by omega];exact h10,hb9.chg hc10 fun e=>?_,(c08.trans hc9 fun i _ hi=>hi).trans hc10 fun k hk e=>by omega⟩ (by simp;omega)
   have:=hB6.size
   have:w6.heap.size=w3.heap.size+1:=hs6
   omega
  ·have hge:=of_decide_eq_false hge
   have:i=d+4:=by omega
   subst this
   rw [if_neg (by omega)] at hst
   clear hI I
   have hcll:=clens_length S.wait (at_+14) (d+4)
   obtain ⟨cs,hcs⟩:∃c,clens S.wait (at_+14) (d+4)=c:=⟨_,rfl⟩
   rw [hcs] at hst ho8 hcll
   refine New_any ho8.rd (fun hbt e w11 he hB11=>?_) (fun hbt f11 w11 ht11 hB11=>?_)
   ·rw [if_pos hbt] at hst
    refine cT (by simp [he]) (bad _ w11 hst (h8.ext hB11) (c08.trans (Chg.of_ext (S:=drS F r) hB11) fun i _ hi=>hi))
   rw [if_neg hbt] at hst
   refine cF rfl ?_
   have h11:=h8.ext hB11
   have c011:Chg (drS F r) w w11:=c08.trans (Chg.of_ext (S:=drS F r) hB11) fun i _ hi=>hi
   have s011:=c011.size
   have en:IntKind.i64.wrap (IntKind.i64.wrap ((a:Nat):Int)+257)=((a+257:Nat):Int):=by
    rw [w64i (x:=((a:Nat):Int)) (by omega),w64i (by omega)];omega
   have en2:IntKind.i64.wrap (IntKind.i64.wrap (((a+257:Nat):Int)+IntKind.i64.wrap ((b:Nat):Int))+1)=((a+257+b+1:Nat):Int):=by
    rw [w64i (x:=((b:Nat):Int)) (by omega),w64i (x:=((a+257:Nat):Int)+b) (by omega),w64i (by omega)];omega
   rw [en,en2]
   refine read_spec h11 ht11.r (by omega) (by omega) (fun s l a2 w12 hgo hll ho12 ha2 h12 c12=>?_) (fun a2 w12 hgo ha2 h12 c12=>?_) (fun a2 w12 hgo h12 c12=>?_) (by omega)
   rotate_left
   ·rw [hgo] at hst
    exact cT rfl (short _ w12 hst (by omega) h12 (c011.trans c12 fun i _ hi=>hi))
   ·rw [hgo] at hst
    exact cT rfl (bad _ w12 hst h12 (c011.trans c12 fun i _ hi=>hi))
   rw [hgo] at hst
   dsimp only at hst
   refine cF rfl ?_
   have c012:Chg (drS F r) w w12:=c011.trans c12 fun i _ hi=>hi
   have s012:=c012.size
   refine ho12.rd.slK (l:=0) (m:=a+257) rfl (.inl ⟨rfl,rfl⟩) (.inr rfl) (by omega) (by omega) fun hp1=>?_
   rw [List.drop_zero] at hp1
   have tail:∀(p2:Option Addr) (e1 e2:Int) (p1:Option Addr) w14,DR w14 base F S r rs a2→Chg (drS F r) w w14→Own E_uint8 w14 w11.heap.size s l→((e1≠0∨e2≠0)∧(badTab (l.take (a+257))∨badTab (l.drop (a+257)))∨e1=0∧e2=0∧¬badTab (l.take (a+257))∧¬badTab (l.drop (a+257))∧∃f1 f2,p1=some ⟨f1.g,0,none⟩∧p2=some ⟨f2.g,0,none⟩∧TabR w14 base f1 (l.take (a+257))∧TabR w14 base f2 (l.drop (a+257))) →
     joinP (
         σ:=Unit) (fun s_2 w15 =>
         onPtr (some (⟨F.d,0,none⟩:Addr)) fun t134 =>
         stK (t134.add 6) [(.pointer p1)] w15 fun w16 =>
         onPtr (some (⟨F.d,0,none⟩:Addr)) fun t136 =>
         stK (t136.add 7) [(.pointer p2)] w16 fun w17 =>
         onPtr (some (⟨F.d,0,none⟩:Addr)) fun t138 =>
         stK (t138.add 1) [(.int .i64 4)] w17 fun w18 =>
         K 0 w18) fun J3 =>
        cond (e1 !=(0:Int))
         (K 3 w14)
         (cond (e2 !=(0:Int))
          (K 3 w14)
          (
           ixK s 256 1 fun t125 =>
           ldI .u8 t125 w14 fun t126 =>
           cond (t126==(0:Int))
            (K 3 w14)
            (J3 (()) w14))):=by
    intro p2 e1 e2 p1 w14 h14 c14 ho14 hcase
    refine jpO fun J3 hJ3=>?_
    rcases hcase with ⟨he,hbd⟩ | ⟨rfl,rfl,n1,n2,f1,f2,rfl,rfl,t1,t2⟩
    ·have k3:K 3 w14:=by
      rw [if_pos (by rcases hbd with hb | hb;exact .inl hb;exact .inr (.inl hb))] at hst
      exact bad _ w14 hst h14 c14
     refine cO (fun _=>k3) (fun q1=>cO (fun _=>k3) (fun q2=>?_))
     have q1:=bne_eq_false_iff_eq.1 q1
     have q2:=bne_eq_false_iff_eq.1 q2
     rcases he with he | he
     ·exact absurd q1 he
     ·exact absurd q2 he
    ·refine cF rfl (cF rfl ?_)
     obtain ⟨x,hx,hxs⟩:=get_of (xs:=l) (k:=256) (by omega)
     refine ho14.rd.ix rfl (by decide) (by omega) fun hc=>?_
     have hc:cellsAt w14 (s.at_ E_uint8.k ((256:Nat):Int).toNat) (E_uint8.cells (l[((256:Nat):Int).toNat]'(by show 256<l.length;omega))):=hc
     rw [hxs] at hc
     refine ldB8 (b:=x) hc ?_
     have hgd:l.getD 256 0=x:=by rw [List.getD_eq_getElem?_getD,hx];rfl
     rw [hgd] at hst
     refine cO (fun hz=>?_) (fun hz=>?_)
     ·have hz:x=0:=by
       have:=eq_of_beq hz
       apply UInt8.toNat_inj.1
       show x.toNat=0
       omega
      rw [if_pos (.inr (.inr hz))] at hst
      exact bad _ w14 hst h14 c14
     ·have hz:x≠0:=fun e=>by rw [e] at hz;simp at hz
      rw [if_neg (by rintro (q | q | q);exact n1 q;exact n2 q;exact hz q)] at hst
      refine hJ3 _ _ ?_
      simp only [onPtr_some]
      rw [add_mk]
      have hN:∀(k:Nat) (w':World) (cs:List Value),Blk w' F.d ty_inflate_Decoder cs→k=F.d→k<w'.heap.size→NoTab w' k:=fun k w' cs hb e _=>by subst e;exact ⟨_,_,hb,by decide,by decide⟩
      refine stK_blk h14.d.blk (by simp [decCells]) fun w15 hb15 hg15 hs15=>?_
      have hd15:DecM w15 base { F with sg:=some f1 } S:=h14.d.put hb15 hg15 rfl rfl rfl rfl rfl rfl rfl rfl (fun e=>by omega) h14.d.m5 h14.d.hl h14.d.hs h14.d.ht
      have h15:=h14.own hd15 rfl rfl rfl rfl rfl hg15
      rw [add_mk]
      refine stK_blk h15.d.blk (by simp [decCells]) fun w16 hb16 hg16 hs16=>?_
      have hd16:DecM w16 base { F with sg:=some f1,ds:=some f2 } S:=h15.d.put hb16 hg16 rfl rfl rfl rfl rfl rfl rfl rfl (fun e=>by omega) h15.d.m5 h15.d.hl h15.d.hs h15.d.ht
      have h16:=h15.own hd16 rfl rfl rfl rfl rfl hg16
      rw [add_mk]
      refine stK_blk h16.d.blk (by simp [decCells]) fun w17 hb17 hg17 hs17=>?_
      have t1':=((t1.chg (Chg.gg hg15) fun k e hk=>hN k w14 _ h14.d.blk e hk).chg (Chg.gg hg16) fun k e hk=>hN k w15 _ h15.d.blk e hk).chg (Chg.gg hg17) fun k e hk=>hN k w16 _ h16.d.blk e hk
      have t2':=((t2.chg (Chg.gg hg15) fun k e hk=>hN k w14 _ h14.d.blk e hk).chg (Chg.gg hg16) fun k e hk=>hN k w15 _ h15.d.blk e hk).chg (Chg.gg hg17) fun k e hk=>hN k w16 _ h16.d.blk e hk
      have hd17:DecM w17 base { F with sg:=some f1,ds:=some f2 } { S with c:={ S.c with mode:=4,sg:=l.take (a+257),ds:=l.drop (a+257) } }:=h16.d.put hb17 hg17 rfl rfl rfl rfl rfl rfl rfl rfl (fun _=>⟨f1,f2,rfl,rfl,t1',t2'⟩) (by show 4≤5;decide) h16.d.hl h16.d.hs h16.d.ht
      refine hK 0 { F with sg:=some f1,ds:=some f2 } { S with c:={ S.c with mode:=4,sg:=l.take (a+257),ds:=l.drop (a+257) } } a2 w17 ⟨rfl,rfl,rfl,.inl ⟨rfl,⟨_,_,hst,.refl _ _⟩,⟨[],by simp,by simp⟩,rfl,rfl,rfl⟩⟩ (h16.own hd17 rfl rfl rfl rfl rfl hg17) ⟨rfl,rfl,.inl rfl,.inl rfl⟩ ?_
      exact ((c14.trans (drS_g (r:=r) hg15) fun i _ hi=>hi).trans (drS_g (F:=F) (r:=r) hg16) fun i _ hi=>hi).trans (drS_g (F:=F) (r:=r) hg17) fun i _ hi=>hi
   have hbb:base≤w12.heap.size:=by omega
   refine New_any hp1 (fun hb1 e1 w13 he1 hB13=>?_) (fun hb1 f1 w13 ht13 hB13=>?_)
   ·have ho13:=ho12.ext hB13
    refine ho13.rd.slK (l:=a+257) (m:=l.length) rfl (.inr rfl) (.inl ⟨rfl,rfl⟩) (by omega) (Nat.le_refl _) fun hp2=>?_
    rw [List.take_length] at hp2
    have h13:=h12.ext hB13
    have c013:Chg (drS F r) w w13:=c012.trans (Chg.of_ext (S:=drS F r) hB13) fun i _ hi=>hi
    refine New_any hp2 (fun hb2 e2 w14 he2 hB14=>?_) (fun hb2 f2 w14 ht14 hB14=>?_)
    ·exact tail none e1 e2 none w14 (h13.ext hB14) (c013.trans (Chg.of_ext (S:=drS F r) hB14) fun i _ hi=>hi) (ho13.ext hB14) (.inl ⟨.inl he1,.inl hb1⟩)
    ·exact tail _ e1 0 none w14 (h13.ext hB14) (c013.trans (Chg.of_ext (S:=drS F r) hB14) fun i _ hi=>hi) (ho13.ext hB14) (.inl ⟨.inl he1,.inl hb1⟩)
   ·have ho13:=ho12.ext hB13
    refine ho13.rd.slK (l:=a+257) (m:=l.length) rfl (.inr rfl) (.inl ⟨rfl,rfl⟩) (by omega) (Nat.le_refl _) fun hp2=>?_
    rw [List.take_length] at hp2
    have h13:=h12.ext hB13
    have c013:Chg (drS F r) w w13:=c012.trans (Chg.of_ext (S:=drS F r) hB13) fun i _ hi=>hi
    have s013:=c013.size
    refine New_any hp2 (fun hb2 e2 w14 he2 hB14=>?_) (fun hb2 f2 w14 ht14 hB14=>?_)
    ·exact tail none 0 e2 _ w14 (h13.ext hB14) (c013.trans (Chg.of_ext (S:=drS F r) hB14) fun i _ hi=>hi) (ho13.ext hB14) (.inl ⟨.inr he2,.inr hb2⟩)
    ·exact tail _ 0 0 _ w14 (h13.ext hB14) (c013.trans (Chg.of_ext (S:=drS F r) hB14) fun i _ hi=>hi) (ho13.ext hB14) (.inr ⟨rfl,rfl,hb1,hb2,f1,f2,rfl,rfl,(ht13.r.ext hB14).base_le (by omega),ht14.r.base_le (by omega)⟩))
 cases e1:ok1 with
 | false =>
  refine cT rfl (no ?_)
  have:¬at_+5≤8*S.wait.length:=fun hh=>by rw [o1.2 hh] at e1;cases e1
  omega
 | true =>
  refine cF rfl ?_
  obtain ⟨p1,_⟩:=g1 e1
  cases e2:ok2 with
  | false =>
   refine cT rfl (no ?_)
   have:¬a1+5≤8*S.wait.length:=fun hh=>by rw [o2.2 hh] at e2;cases e2
   omega
  | true =>
   refine cF rfl ?_
   obtain ⟨p2,_⟩:=g2 e2
   cases e3:ok3 with
   | false =>
    refine no ?_
    have:¬a2+4≤8*S.wait.length:=fun hh=>by rw [o3.2 hh] at e3;cases e3
    omega
   | true=>exact yes e1 e2 e3
theorem step_spec {K:Int→World→Prop} (h:DR w base F S r rs at_) (hm:S.c.mode≤4) (h8:S.c.mode=2→at_%8=0) (hbase:base≤w.heap.size) (htk:S.took+S.wait.length≤1000000000000)
  (hK:∀e F' S' rs' at' w',StepRes S at_ e S' at'→DR w' base F' S' r rs' at'→F.tw F' w.heap.size→Chg (drS F r) w w'→K e w'):c_inflate_Decoder_step (some ⟨F.d,0,none⟩) (some ⟨r,0,none⟩) w K:=by
 refine call_inflate_Decoder_step _ _ ?_
 unfold sh_inflate_Decoder_step
 simp only [onPtr_some]
 refine lI (x:=((S.c.mode:Nat):Int)) (h.d.blk.cells 1 _ rfl) ?_
 have hK':∀e F' S' at' w',StepRes S at_ e S' at'→DR w' base F' S' r rs at'→F.to F' w.heap.size→Chg (drS F r) w w'→K e w':=fun e F' S' at' w' hr h' hto hc=>hK e F' S' rs at' w' hr h' hto.w hc
 refine cO (fun c=>?_) (fun c=>cO (fun c1=>?_) (fun c1=>cO (fun c2=>?_) (fun c2=>cO (fun c3=>?_) (fun c3=>?_))))
 ·exact head_spec h (by have:=eq_of_beq c;omega) hbase hK'
 ·exact stored_spec h (by have:=eq_of_beq c1;omega) hK'
 ·have c2:S.c.mode=2:=by have:=eq_of_beq c2;omega
  exact bytes_spec h c2 (h8 c2) hbase htk hK
 ·exact dynamic_spec h (by have:=eq_of_beq c3;omega) hbase hK'
 ·have c:=beq_eq_false_iff_ne.1 c
  have c1:=beq_eq_false_iff_ne.1 c1
  have c2:=beq_eq_false_iff_ne.1 c2
  have c3:=beq_eq_false_iff_ne.1 c3
  exact code_spec h (by omega) hbase hK'
end
end Go.Proofs.YtmagnpcgpinmcaaGreat
namespace Go.Vc
def SR.shift (n:Nat):SR→SR
 | .next c a=>.next c (n+a)
 | .short=>.short
 | .err e=>.err e
section
variable {B:List UInt8} {k:Nat}
theorem msb_drop (hk:k≤B.length) (a n:Nat):msb (B.drop k) a n=msb B (8*k+a) n:=by
 induction n with
 | zero=>rfl
 | succ n ih=>rw [msb,msb,ih,peekN_drop B k _ _ hk,Nat.add_assoc]
theorem readT_drop (hk:k≤B.length) (ls:List UInt8) (a:Nat):readT ls (B.drop k) a=readT ls B (8*k+a):=by
 unfold readT
 have:∀n j,readGo ls (B.drop k) a n j=readGo ls B (8*k+a) n j:=by
  intro n
  induction n with
  | zero=>intro j;rfl
  | succ n ih =>
   intro j
   have e:8*(B.drop k).length-a=8*B.length-(8*k+a):=by rw [List.length_drop];omega
   rw [readGo,readGo,ih,msb_drop hk,e]
 exact this 16 1
theorem lensGo_drop (hk:k≤B.length) (t:List UInt8) (n:Nat):∀f a l,lensGo t B n f (8*k+a) l=match lensGo t (B.drop k) n f a l with | .lens l a=>.lens l (8*k+a) | .short=>.short | .form=>.form
 | 0,a,l=>rfl
 | f+1,a,l=>by
  rw [lensGo,lensGo]
  split
  ·rfl
  ·rw [readT_drop hk]
   cases readT t B (8*k+a) with
   | short=>rfl
   | form=>rfl
   | sym y j =>
    dsimp only
    split
    ·rfl
    ·obtain ⟨b,m,v,hbm⟩:∃b m v,(if y=18 then ((11,7,0):Nat×Nat×UInt8) else if y=17 then (3,3,0) else if y=16 then (3,2,l.getLastD 0) else (1,0,UInt8.ofNat y))=(b,m,v):=⟨_,_,_,rfl⟩
     simp only [hbm]
     rw [peekN_drop B k _ _ hk,List.length_drop]
     have e1:8*k+(a+j)=8*k+a+j:=by omega
     rw [e1]
     by_cases h1:8*(B.length-k)<a+j+m
     ·rw [if_pos h1,if_pos (by omega)]
     ·rw [if_neg h1,if_neg (by omega)]
      split
      ·rfl
      ·have e2:8*k+a+j+m=8*k+(a+j+m):=by omega
       rw [e2,lensGo_drop hk t n f]
theorem clens_drop (hk:k≤B.length) (a:Nat):∀i,clens (B.drop k) a i=clens B (8*k+a) i
 | 0=>rfl
 | i+1=>by rw [clens,clens,clens_drop hk a i,peekN_drop B k _ _ hk,Nat.add_assoc]
theorem up8_add (k a:Nat):up8 (8*k+a)=8*k+up8 a:=by unfold up8;omega
theorem step1_drop (hk:k≤B.length) (most a:Nat) (c:Cfg):step1 most B (8*k+a) c=(step1 most (B.drop k) a c).shift (8*k):=by
 have hl:(B.drop k).length=B.length-k:=List.length_drop
 unfold step1
 split
 ·rfl
 unfold stepN
 split
 ·unfold stepHead
  rw [hl,peekN_drop B k _ _ hk]
  by_cases h:8*(B.length-k)<a+3
  ·rw [if_pos h,if_pos (by omega)];rfl
  ·rw [if_neg h,if_neg (by omega)]
   dsimp only
   split
   ·rw [SR.shift,Nat.add_assoc]
   ·split
    ·rw [SR.shift,Nat.add_assoc]
    ·split
     ·rw [SR.shift,Nat.add_assoc]
     ·rfl
 ·split
  ·unfold stepStored
   have e1:8*k+up8 a+16=8*k+(up8 a+16):=Nat.add_assoc _ _ _
   rw [hl,up8_add,peekN_drop B k _ _ hk,peekN_drop B k _ _ hk,e1]
   by_cases h:8*(B.length-k)<up8 a+32
   ·rw [if_pos h,if_pos (by omega)];rfl
   ·rw [if_neg h,if_neg (by omega)]
    split
    ·rfl
    ·rw [SR.shift,Nat.add_assoc]
  ·split
   ·unfold stepByte
    rw [hl,peekN_drop B k _ _ hk]
    split
    ·rfl
    ·by_cases h:8*(B.length-k)<a+8
     ·rw [if_pos h,if_pos (by omega)];rfl
     ·rw [if_neg h,if_neg (by omega)]
      split
      ·rfl
      ·rw [SR.shift,Nat.add_assoc]
   ·split
    ·unfold stepDyn
     have e1:8*k+a+5=8*k+(a+5):=Nat.add_assoc _ _ _
     have e2:8*k+a+10=8*k+(a+10):=Nat.add_assoc _ _ _
     have e3:8*k+a+14=8*k+(a+14):=Nat.add_assoc _ _ _
     rw [hl,peekN_drop B k _ _ hk,peekN_drop B k _ _ hk,peekN_drop B k _ _ hk,e1,e2,e3]
     by_cases h:8*(B.length-k)<a+14
     ·rw [if_pos h,if_pos (by omega)];rfl
     ·rw [if_neg h,if_neg (by omega)]
      dsimp only
      split
      ·rfl
      ·rw [clens_drop hk]
       obtain ⟨d,hd⟩:∃d,3*(peekN B (8*k+(a+10)) 4+4)=d:=⟨_,rfl⟩
       rw [hd]
       by_cases h2:8*(B.length-k)<a+14+d
       ·rw [if_pos h2,if_pos (by omega)];rfl
       ·rw [if_neg h2,if_neg (by omega)]
        split
        ·rfl
        ·have e4:8*k+(a+14)+d=8*k+(a+14+d):=Nat.add_assoc _ _ _
         rw [e4,lensGo_drop hk]
         cases lensGo (clens B (8*k+(a+14)) (peekN B (8*k+(a+10)) 4+4)) (B.drop k) (peekN B (8*k+a) 5+257+peekN B (8*k+(a+5)) 5+1) 400 (a+14+d) [] with
         | short=>rfl
         | form=>rfl
         | lens l a2 =>
          dsimp only
          split<;>rfl
    ·unfold stepCode
     rw [readT_drop hk]
     cases readT c.sg B (8*k+a) with
     | short=>rfl
     | form=>rfl
     | sym y j =>
      dsimp only
      split
      ·rw [SR.shift,Nat.add_assoc]
      ·split
       ·rfl
       ·split
        ·split
         ·rfl
         ·rw [SR.shift,Nat.add_assoc]
        ·obtain ⟨b,n,hbn⟩:∃b n,lenBase y=(b,n):=⟨_,_,rfl⟩
         simp only [hbn]
         have e1:8*k+a+j=8*k+(a+j):=Nat.add_assoc _ _ _
         have e2:8*k+a+j+n=8*k+(a+j+n):=by omega
         rw [hl,peekN_drop B k _ _ hk,readT_drop hk,e2,e1]
         by_cases h:8*(B.length-k)<a+j+n
         ·rw [if_pos h,if_pos (by omega)];rfl
         ·rw [if_neg h,if_neg (by omega)]
          try dsimp only
          cases readT c.ds B (8*k+(a+j+n)) with
          | short=>rfl
          | form=>rfl
          | sym z i =>
           dsimp only
           split
           ·rfl
           ·obtain ⟨b2,n2,hbn2⟩:∃b n,distBase z=(b,n):=⟨_,_,rfl⟩
            simp only [hbn2]
            have e3:8*k+(a+j+n)+i=8*k+(a+j+n+i):=Nat.add_assoc _ _ _
            rw [peekN_drop B k _ _ hk,e3]
            by_cases h2:8*(B.length-k)<a+j+n+i+n2
            ·rw [if_pos h2,if_pos (by omega)];rfl
            ·rw [if_neg h2,if_neg (by omega)]
             try dsimp only
             split
             ·rfl
             ·split
              ·rfl
              ·rw [SR.shift,Nat.add_assoc]
end
end Go.Vc
namespace Go.Vc
section
variable {B:List UInt8}
theorem readGo_le (ls:List UInt8) (a:Nat) {y k:Nat}:∀n j,1≤j→readGo ls B a n j=.sym y k→1≤k∧k≤15∧a+k≤8*B.length
 | 0,_,_,h=>by cases h
 | n+1,j,hj,h=>by
  rw [readGo] at h
  split at h
  ·cases h
  ·split at h
   ·cases h
   ·split at h
    ·injection h with _ h;omega
    ·exact readGo_le ls a n (j+1) (by omega) h
theorem readT_le {ls:List UInt8} {a y k:Nat} (h:readT ls B a=.sym y k):1≤k∧k≤15∧a+k≤8*B.length:=readGo_le ls a 16 1 (Nat.le_refl _) h
theorem lensGo_le (t:List UInt8) (n:Nat) {l':List UInt8} {a':Nat}:∀f a l,a≤8*B.length→lensGo t B n f a l=.lens l' a'→a≤a'∧a'≤8*B.length
 | 0,_,_,_,h=>by cases h
 | f+1,a,l,ha,h=>by
  rw [lensGo] at h
  split at h
  ·injection h with h1 h2;omega
  ·cases hr:readT t B a with
   | short=>rw [hr] at h;cases h
   | form=>rw [hr] at h;cases h
   | sym y k =>
    rw [hr] at h
    dsimp only at h
    split at h
    ·cases h
    ·obtain ⟨b,mm,v,hbm⟩:∃b m v,(if y=18 then ((11,7,0):Nat×Nat×UInt8) else if y=17 then (3,3,0) else if y=16 then (3,2,l.getLastD 0) else (1,0,UInt8.ofNat y))=(b,m,v):=⟨_,_,_,rfl⟩
     simp only [hbm] at h
     split at h
     ·cases h
     ·split at h
      ·cases h
      ·have:=lensGo_le t n f _ _ (by omega) h
       omega
def mu (B:List UInt8) (c:Cfg) (a:Nat):Nat:=2*(8*B.length-a)+(if c.mode=2 then 1 else 0)
theorem step1_next {most a a':Nat} {c c':Cfg} (h:step1 most B a c=.next c' a') (ha:a≤8*B.length):a'≤8*B.length∧a≤a'∧mu B c' a'<mu B c a:=by
 have fin:a+1≤a'→a'≤8*B.length→a'≤8*B.length∧a≤a'∧mu B c' a'<mu B c a:=fun h1 h2=>⟨h2,by omega,by unfold mu;split<;>split<;>omega⟩
 unfold step1 at h
 by_cases hm5:c.mode=5
 ·rw [if_pos hm5] at h;cases h
 rw [if_neg hm5] at h
 unfold stepN at h
 split at h
 ·unfold stepHead at h
  split at h
  ·cases h
  ·dsimp only at h
   repeat' split at h
   all_goals first | (cases h;done) | (injection h with h1 h2;exact fin (by omega) (by omega))
 ·split at h
  ·unfold stepStored at h
   have:a≤up8 a:=by unfold up8;omega
   repeat' split at h
   all_goals first | (cases h;done) | (injection h with h1 h2;exact fin (by omega) (by omega))
  ·split at h
   ·next h2 =>
    unfold stepByte at h
    split at h
    ·injection h with h3 h4
     subst h3 h4
     refine ⟨ha,Nat.le_refl _,?_⟩
     unfold mu
     rw [if_pos h2,if_neg]
     ·omega
     ·unfold Cfg.behind
      dsimp only
      split<;>omega
    ·repeat' split at h
     all_goals first | (cases h;done) | (injection h with h1 h2;exact fin (by omega) (by omega))
   ·split at h
    ·unfold stepDyn at h
     split at h
     ·cases h
     ·dsimp only at h
      split at h
      ·cases h
      ·split at h
       ·cases h
       ·split at h
        ·cases h
        ·split at h
         ·cases h
         ·cases h
         ·next hlt _ _ _ l a2 hgo =>
          have:=lensGo_le _ _ _ _ _ (by omega) hgo
          split at h
          ·cases h
          ·injection h with h1 h2;exact fin (by omega) (by omega)
    ·unfold stepCode at h
     cases hr:readT c.sg B a with
     | short=>rw [hr] at h;cases h
     | form=>rw [hr] at h;cases h
     | sym y k =>
      have hk:=readT_le hr
      rw [hr] at h
      dsimp only at h
      split at h
      ·injection h with h1 h2;exact fin (by omega) (by omega)
      ·split at h
       ·cases h
       ·split at h
        ·split at h
         ·cases h
         ·injection h with h1 h2;exact fin (by omega) (by omega)
        ·obtain ⟨b,n,hbn⟩:∃b n,lenBase y=(b,n):=⟨_,_,rfl⟩
         simp only [hbn] at h
         split at h
         ·cases h
         ·cases hr2:readT c.ds B (a+k+n) with
          | short=>rw [hr2] at h;cases h
          | form=>rw [hr2] at h;cases h
          | sym z j =>
           rw [hr2] at h
           dsimp only at h
           split at h
           ·cases h
           ·obtain ⟨b2,n2,hbn2⟩:∃b n,distBase z=(b,n):=⟨_,_,rfl⟩
            simp only [hbn2] at h
            split at h
            ·cases h
            ·split at h
             ·cases h
             ·split at h
              ·cases h
              ·injection h with h1 h2;exact fin (by omega) (by omega)
end
end Go.Vc
namespace Go.Proofs.YtmagnpcgpinmcaaGreat
open Go.Vc Go.RowKit
set_option maxRecDepth 400000
def nilS:Slc:=⟨none,0,0⟩
section
variable {w w':World} {base:Nat} {F:DF} {S:DS} {r:Nat} {rs:Slc} {at_:Nat}
theorem Back_min {b:Nat} {K:World→Prop} (h:DR w base F S r rs at_) (hK:∀w',DR w' base F S r rs (min b at_)→Chg (drS F r) w w'→K w'):c_bits_Reader_Back (some ⟨r,0,none⟩) b w K:=by
 by_cases hb:b≤at_
 ·refine Back_spec h.rdr hb fun w' hr hc=>hK w' ?_ (drS_r hc)
  rw [Nat.min_eq_left hb]
  exact h.moved hr hc
 ·refine call_bits_Reader_Back _ _ ?_
  unfold sh_bits_Reader_Back
  simp only [onPtr_some]
  refine lI (x:=(at_:Int)) (h.rdr.blk.cells 1 _ rfl) ?_
  have e:(if (at_:Int)<(if (0:Int)>(b:Int) then (0:Int) else (b:Int)) then (at_:Int) else (if (0:Int)>(b:Int) then (0:Int) else (b:Int)))=(at_:Int):=by
   rw [if_neg (show ¬(0:Int)>(b:Int) by omega),if_pos (by omega)]
  rw [e,add_mk]
  refine stK_blk h.rdr.blk (by simp) fun w2 hb2 hg2 hs2=>?_
  have hr2:=h.rdr.move hb2 hg2 h.rdr.le
  have h2:=h.moved hr2 (Chg.gg hg2)
  refine hK w2 ?_ (drS_r (Chg.gg hg2))
  rw [Nat.min_eq_right (by omega)]
  exact h2
structure FailM (w:World) (d:Nat) (S:DS) (e:Int):Prop where
 blk:∃sg ds:Option TF,Blk w d ty_inflate_Decoder (decCells ⟨d,nilS,nilS,nilS,sg,ds⟩ S e)
theorem after_spec {e:Int} {K:Slc→Int→World→Prop} (h:DR w base F S r rs at_) (he:e=0∨e=2∨e=3∨e=5) (htold:(e=0∨e=2)→S.told+S.out.length≤S.c.hist.length) (htk:S.took+S.wait.length≤900000000000)
  (hK1:(e=0∨e=2)→∀F' w',DecM w' base F' { S with took:=S.took+(if S.c.mode=5 then (at_+7)/8 else at_/8),skip:=at_%8,wait:=if S.c.mode=5 then [] else S.wait.drop (at_/8),told:=S.told+S.out.length,out:=[] }→Own E_uint8 w' base F.out S.out→(∀k,F.out.blk=some k→¬dS F' k)→F'.d=F.d→F'.ring=F.ring→F'.out=nilS→(∀k,F'.wait.blk=some k→k<w'.heap.size)→Chg (fun k=>k=F.d) w w'→K F.out 0 w')
  (hK2:(e=3∨e=5)→∀S' w',FailM w' F.d S' e→S'.given=S.given→Chg (fun k=>k=F.d) w w'→K nilS e w') :
  c_bits_Reader_At (some (⟨r,0,none⟩:Addr)) w fun t77 w12 =>
        (8:Int)≠0 ∧
        joinP (σ:=Int×Unit) (fun s_2 w13 =>
         ldI .i64 ((⟨F.d,0,none⟩:Addr).add 11) w13 fun t91 =>
         stK ((⟨F.d,0,none⟩:Addr).add 11) [(.int .i64 (IntKind.i64.wrap (t91+s_2.1)))] w13 fun w14 =>
         c_bits_Reader_At (some (⟨r,0,none⟩:Addr)) w14 fun t98 w15 =>
         (8:Int)≠0 ∧
         stK ((⟨F.d,0,none⟩:Addr).add 4) [(.int .i64 (t98.tmod (8:Int)))] w15 fun w16 =>
         ldSl ((⟨F.d,0,none⟩:Addr).add 3) w16 fun t106 =>
         slK t106 (some s_2.1) none 1 fun t108 =>
         c_slices_Clone_byte_byte t108 w16 fun t109 w17 =>
         stK ((⟨F.d,0,none⟩:Addr).add 3) [(.slice t109.a t109.n t109.c)] w17 fun w18 =>
         joinP (σ:=Unit) (fun s_3 w19 =>
          ldSl ((⟨F.d,0,none⟩:Addr).add 14) w19 fun t123 =>
          stK ((⟨F.d,0,none⟩:Addr).add 14) [(.slice none 0 0)] w19 fun w20 =>
          joinP (σ:=Unit) (fun s_4 w21 =>
           ldI .i64 ((⟨F.d,0,none⟩:Addr).add 10) w21 fun t147 =>
           stK ((⟨F.d,0,none⟩:Addr).add 10) [(.int .i64 (IntKind.i64.wrap (t147+((t123.n:Nat):Int))))] w21 fun w22 =>
           K t123 0 w22) fun J5 =>
          joinP (σ:=Bool×Unit) (fun s_5 w23 =>
           cond s_5.1
            (
             stK ((⟨F.d,0,none⟩:Addr).add 13) [(.int .i64 e)] w23 fun w24 =>
             stK ((⟨F.d,0,none⟩:Addr).add 3) [(.slice none 0 0)] w24 fun w25 =>
             stK ((⟨F.d,0,none⟩:Addr).add 8) [(.slice none 0 0)] w25 fun w26 =>
             K (⟨none,0,0⟩:Slc) e w26)
            (J5 (()) w23)) fun J6 =>
          cond (e !=(0:Int))
           (J6 ((e !=(2:Int)),()) w20)
           (J6 (false,()) w20)) fun J4 =>
         ldI .i64 ((⟨F.d,0,none⟩:Addr).add 1) w18 fun t115 =>
         cond (t115==(5:Int))
          (
           stK ((⟨F.d,0,none⟩:Addr).add 3) [(.slice none 0 0)] w18 fun w27 =>
           J4 (()) w27)
          (J4 (()) w18)) fun J3 =>
        ldI .i64 ((⟨F.d,0,none⟩:Addr).add 1) w12 fun t82 =>
        cond (t82==(5:Int))
         (
          c_bits_Reader_At (some (⟨r,0,none⟩:Addr)) w12 fun t85 w28 =>
          (8:Int)≠0 ∧
          J3 ((IntKind.i64.wrap ((IntKind.i64.wrap (t85+(7:Int))).tdiv (8:Int))),()) w28)
         (J3 ((IntKind.i64.wrap (t77.tdiv (8:Int))),()) w12):=by
 have hle:=h.rdr.le
 have hwl:=h.d.hw
 refine At_spec h.rdr ⟨by decide,?_⟩
 refine jpO fun J3 hJ3=>?_
 refine lI (x:=((S.c.mode:Nat):Int)) (h.d.blk.cells 1 _ rfl) ?_
 obtain ⟨n0,hn0⟩:∃n,(if S.c.mode=5 then (at_+7)/8 else at_/8)=n:=⟨_,rfl⟩
 have hn0l:n0≤S.wait.length:=by split at hn0<;>omega
 rw [hn0] at hK1
 have main:J3 ((n0:Int),()) w:=hJ3 _ _ (by
  clear hJ3
  refine lI (x:=((S.took:Nat):Int)) (h.d.blk.cells 11 _ rfl) ?_
  rw [add_mk,w64i (by omega)]
  have e1:((S.took:Nat):Int)+((n0:Nat):Int)=((S.took+n0:Nat):Int):=rfl
  rw [e1]
  refine stK_blk h.d.blk (by simp [decCells]) fun w1 hb1 hg1 hs1=>?_
  have hd1:DecM w1 base F { S with took:=S.took+n0 }:=h.d.put hb1 hg1 rfl rfl rfl rfl rfl rfl rfl rfl (h.d.tabs' hg1) h.d.m5 h.d.hl h.d.hs ⟨by show S.took+n0≤_;omega,h.d.ht.2⟩
  have h1:=h.own hd1 rfl rfl rfl rfl rfl hg1
  refine At_spec h1.rdr ⟨by decide,?_⟩
  rw [tmod8,add_mk]
  refine stK_blk h1.d.blk (by simp [decCells]) fun w2 hb2 hg2 hs2=>?_
  have hd2:DecM w2 base F { S with took:=S.took+n0,skip:=at_%8 }:=h1.d.put hb2 hg2 rfl rfl rfl rfl rfl rfl rfl rfl (h1.d.tabs' hg2) h.d.m5 h.d.hl (by show at_%8≤8;omega) h1.d.ht
  refine lSl (x:=F.wait) (hd2.blk.cells 3 _ rfl) ?_
  refine hd2.wait.slK (l:=n0) (m:=S.wait.length) rfl (.inr rfl) (.inl ⟨rfl,rfl⟩) hn0l (Nat.le_refl _) fun hsub=>?_
  rw [List.take_length] at hsub
  refine CloneB_spec hsub (by simp;omega) fun q w3 hq hB3=>?_
  have hd3:=hd2.ext hB3
  have hs12:w.heap.size≤w2.heap.size:=by omega
  have hs3:=hB3.size
  have qne:∀k,q.blk=some k→F.ring.blk≠some k∧F.out.blk≠some k∧k≠F.d:=fun k hk=>by
   have h0:=(hq.lt k hk).1
   refine ⟨fun e=>?_,fun e=>?_,fun e=>?_⟩
   ·have:=(h.d.below k (.inr (.inl e))).2;omega
   ·have:=(h.d.below k (.inr (.inr e))).2;omega
   ·have:=(h.d.below k (.inl e)).2;omega
  rw [add_mk]
  refine stK_blk hd3.blk (by simp [decCells]) fun w4 hb4 hg4 hs4=>?_
  have hd4:=hd3.putW (ws:=q) (xs:=S.wait.drop n0) (took:=S.took+n0) (skip:=at_%8) hb4 hg4 hq.rd qne (by simp;omega) (by omega) (by omega)
  have c4:Chg (fun k=>k=F.d) w w4:=(((Chg.gg hg1).trans (Chg.gg hg2) fun i _ hi=>hi).trans (Chg.of_ext (S:=fun k=>k=F.d) hB3) fun i _ hi=>hi).trans (Chg.gg hg4) fun i _ hi=>hi
  have qlt:∀k,q.blk=some k→k<w4.heap.size:=fun k hk=>by have:=(hq.lt k hk).2;omega
  refine jpO fun J4 hJ4=>?_
  have fin:∀(ws:Slc) (xs:List UInt8) w5,DecM w5 base { F with wait:=ws } { S with took:=S.took+n0,skip:=at_%8,wait:=xs }→xs=(if S.c.mode=5 then [] else S.wait.drop (at_/8))→(∀k,ws.blk=some k→k<w5.heap.size)→Chg (fun k=>k=F.d) w w5→J4 () w5:=fun ws xs w5 hd5 hxs hwl5 c5=>hJ4 _ _ (by
   clear hJ4
   refine lSl (x:=F.out) (hd5.blk.cells 14 _ rfl) ?_
   have hon:F.out.n=S.out.length:=h.d.out.rd.n
   rw [add_mk]
   refine stK_blk hd5.blk (by simp [decCells]) fun w6 hb6 hg6 hs6=>?_
   have ho6:Own E_uint8 w6 base F.out S.out:=hd5.out.chg (Chg.gg hg6) fun k hk=>by
    obtain ⟨cs,hcs⟩:=hd5.out.blk_t hk
    exact hcs.ne_t hd5.blk (by decide)
   have hd6:DecM w6 base { F with wait:=ws,out:=nilS } { S with took:=S.took+n0,skip:=at_%8,wait:=xs,out:=[] }:=by
    have hc:=Chg.gg hg6
    have ap:∀{s:Slc} {xs:List UInt8},Own E_uint8 w5 base s xs→∀k,s.blk=some k→k≠F.d:=fun ho k hk=>by
     obtain ⟨cs,hcs⟩:=ho.blk_t hk
     exact hcs.ne_t hd5.blk (by decide)
    exact ⟨hb6,hd5.hd,hd5.ring.chg hc (ap hd5.ring),Own.nil _ _ _,hd5.wait.chg hc fun a ha=>(hd5.wn _ (slk.2 ⟨a,ha,rfl⟩)).2.2,hd5.tabs' hg6,fun k _ e=>(by cases e),fun k hk=>⟨(hd5.wn k hk).1,fun e=>(by cases e),(hd5.wn k hk).2.2⟩,hd5.m5,hd5.mo,Nat.zero_le _,hd5.hm,hd5.hl,hd5.hw,hd5.hs,hd5.ht⟩
   have c6:Chg (fun k=>k=F.d) w w6:=c5.trans (Chg.gg hg6) fun i _ hi=>hi
   refine jpO fun J5 hJ5=>?_
   have good:(e=0∨e=2)→J5 () w6:=fun hee=>hJ5 _ _ (by
    refine lI (x:=((S.told:Nat):Int)) (hd6.blk.cells 10 _ rfl) ?_
    have hhm:=h.d.hm
    have hmo:=h.d.mo
    have htold:=htold hee
    rw [add_mk,hon,w64i (by omega)]
    have e2:((S.told:Nat):Int)+((S.out.length:Nat):Int)=((S.told+S.out.length:Nat):Int):=rfl
    rw [e2]
    refine stK_blk hd6.blk (by simp [decCells]) fun w7 hb7 hg7 hs7=>?_
    have hd7:DecM w7 base { F with wait:=ws,out:=nilS } { S with took:=S.took+n0,skip:=at_%8,wait:=xs,told:=S.told+S.out.length,out:=[] }:=hd6.put hb7 hg7 rfl rfl rfl rfl rfl rfl rfl rfl (hd6.tabs' hg7) hd6.m5 hd6.hl hd6.hs ⟨hd6.ht.1,hd6.ht.2.1,htold⟩
    rw [←hxs] at hK1
    refine hK1 hee { F with wait:=ws,out:=nilS } w7 hd7 (ho6.chg (Chg.gg hg7) fun k hk=>?_) (fun k hk hs=>?_) rfl rfl rfl (fun k hk=>by have:=hwl5 k hk;omega) (c6.trans (Chg.gg hg7) fun i _ hi=>hi)
    ·obtain ⟨cs,hcs⟩:=ho6.blk_t hk
     exact hcs.ne_t hd6.blk (by decide)
    ·rcases hs with hs | hs | hs
     ·obtain ⟨cs,hcs⟩:=ho6.blk_t hk
      exact hcs.ne_t hd6.blk (by decide) hs
     ·exact h.d.ne k hs hk
     ·cases hs)
   refine jpO fun J6 hJ6=>?_
   rcases he with rfl | rfl | rfl | rfl
   ·exact cF rfl (hJ6 _ _ (cF rfl (good (.inl rfl))))
   ·exact cT rfl (hJ6 _ _ (cF rfl (good (.inr rfl))))
   all_goals
    refine cT rfl (hJ6 _ _ (cT rfl ?_))
    try rw [add_mk]
    refine stK_blk hd6.blk (by simp [decCells]) fun w7 hb7 hg7 hs7=>?_
    try rw [add_mk]
    refine stK_blk hb7 (by simp [decCells,putL_length]) fun w8 hb8 hg8 hs8=>?_
    try rw [add_mk]
    refine stK_blk hb8 (by simp [decCells,putL_length]) fun w9 hb9 hg9 hs9=>?_
    exact hK2 (by decide) { S with took:=S.took+n0,skip:=at_%8,wait:=xs,out:=[] } w9 ⟨F.sg,F.ds,hb9⟩ rfl (((c6.trans (Chg.gg hg7) fun i _ hi=>hi).trans (Chg.gg hg8) fun i _ hi=>hi).trans (Chg.gg hg9) fun i _ hi=>hi))
  refine lI (x:=((S.c.mode:Nat):Int)) (hd4.blk.cells 1 _ rfl) ?_
  refine cO (fun hm=>?_) (fun hm=>?_)
  ·have hm:S.c.mode=5:=by have:=eq_of_beq hm;omega
   try rw [add_mk]
   refine stK_blk hd4.blk (by simp [decCells]) fun w5 hb5 hg5 hs5=>?_
   have hd5:=hd4.putW (ws:=nilS) (xs:=[]) (took:=S.took+n0) (skip:=at_%8) hb5 hg5 (Rd.nil _ _) (fun k hk=>by cases hk) (Nat.zero_le _) (by omega) (by omega)
   exact fin nilS [] w5 hd5 (by rw [if_pos hm]) (fun k hk=>by cases hk) (c4.trans (Chg.gg hg5) fun i _ hi=>hi)
  ·have hm:S.c.mode≠5:=by have:=beq_eq_false_iff_ne.1 hm;omega
   rw [if_neg hm] at hn0
   exact fin q (S.wait.drop n0) w4 hd4 (by rw [if_neg hm,hn0]) qlt c4)
 refine cO (fun hm=>?_) (fun hm=>?_)
 ·have hm:S.c.mode=5:=by have:=eq_of_beq hm;omega
  rw [if_pos hm] at hn0
  refine At_spec h.rdr ⟨by decide,?_⟩
  have e1:((at_:Nat):Int)+7=((at_+7:Nat):Int):=rfl
  rw [w64i (x:=((at_:Nat):Int)+7) (by omega),e1,tdiv8,hn0,w64i (by omega)]
  exact main
 ·have hm:S.c.mode≠5:=by have:=beq_eq_false_iff_ne.1 hm;omega
  rw [if_neg hm] at hn0
  rw [tdiv8,hn0,w64i (by omega)]
  exact main
end
end Go.Proofs.YtmagnpcgpinmcaaGreat
namespace Go.Proofs.YtmagnpcgpinmcaaGreat
open Go.Vc Go.RowKit
set_option maxRecDepth 400000
theorem Ch.shift {most:Nat} {B:List UInt8} {k:Nat} (hk:k≤B.length) {c c':Cfg} {a a':Nat} (h:Ch most (B.drop k) c a c' a'):Ch most B c (8*k+a) c' (8*k+a'):=by
 induction h with
 | refl c a=>exact .refl _ _
 | step h r ih =>
  refine .step ?_ ih
  rw [step1_drop hk,h]
  rfl
theorem Ch.le {most:Nat} {B:List UInt8} {c c':Cfg} {a a':Nat} (h:Ch most B c a c' a') (ha:a≤8*B.length):a'≤8*B.length∧a≤a'∧mu B c' a'≤mu B c a:=by
 induction h with
 | refl c a=>exact ⟨ha,Nat.le_refl _,Nat.le_refl _⟩
 | step h r ih =>
  obtain ⟨h1,h2,h3⟩:=step1_next h ha
  obtain ⟨i1,i2,i3⟩:=ih h1
  exact ⟨i1,by omega,by omega⟩
theorem step1_al {most:Nat} {B:List UInt8} {c c':Cfg} {a a':Nat} (h:step1 most B a c=.next c' a') (hal:c.mode=2→a%8=0):c'.mode=2→a'%8=0:=by
 intro hm
 unfold step1 at h
 by_cases hm5:c.mode=5
 ·rw [if_pos hm5] at h;cases h
 rw [if_neg hm5] at h
 unfold stepN at h
 split at h
 ·unfold stepHead at h
  dsimp only at h
  repeat' split at h
  all_goals first | (cases h;done) | (injection h with h1 h2;subst h1;cases hm)
 ·split at h
  ·unfold stepStored at h
   repeat' split at h
   all_goals first | (cases h;done) | (injection h with h1 h2;subst h2;unfold up8;omega)
  ·split at h
   ·next h2 =>
    have:=hal h2
    unfold stepByte at h
    repeat' split at h
    all_goals first | (cases h;done) | (injection h with h3 h4;omega)
   ·split at h
    ·unfold stepDyn at h
     dsimp only at h
     repeat' split at h
     all_goals first | (cases h;done) | (injection h with h1 h2;subst h1;cases hm)
    ·next h0 h1 h2 h3 =>
     exfalso
     have key:c'.mode=c.mode∨c'.mode=0∨c'.mode=5:=by
      unfold stepCode at h
      cases hr:readT c.sg B a with
      | short=>rw [hr] at h;cases h
      | form=>rw [hr] at h;cases h
      | sym y k =>
       rw [hr] at h
       dsimp only at h
       split at h
       ·injection h with h1 h2
        subst h1
        unfold Cfg.behind
        dsimp only
        split
        ·exact .inr (.inr rfl)
        ·exact .inr (.inl rfl)
       ·split at h
        ·cases h
        ·split at h
         ·split at h
          ·cases h
          ·injection h with h1 h2;subst h1;exact .inl rfl
         ·obtain ⟨b,n,hbn⟩:∃b n,lenBase y=(b,n):=⟨_,_,rfl⟩
          simp only [hbn] at h
          split at h
          ·cases h
          ·cases hr2:readT c.ds B (a+k+n) with
           | short=>rw [hr2] at h;cases h
           | form=>rw [hr2] at h;cases h
           | sym z j =>
            rw [hr2] at h
            dsimp only at h
            split at h
            ·cases h
            ·obtain ⟨b2,n2,hbn2⟩:∃b n,distBase z=(b,n):=⟨_,_,rfl⟩
             simp only [hbn2] at h
             repeat' split at h
             all_goals first | (cases h;done) | (injection h with h1 h2;subst h1;exact .inl rfl)
     omega
theorem Ch.al {most:Nat} {B:List UInt8} {c c':Cfg} {a a':Nat} (h:Ch most B c a c' a') (hal:c.mode=2→a%8=0):c'.mode=2→a'%8=0:=by
 induction h with
 | refl c a=>exact hal
 | step h r ih=>exact ih (step1_al h hal)
section
variable {w:World} {base:Nat} {F:DF} {S:DS}
structure Fed (F:DF) (S:DS) (B:List UInt8) (p:Nat):Prop where
 out:S.out=[]
 fo:F.out=nilS
 told:S.told=S.c.hist.length
 given:S.given=B.length
 pl:p≤8*B.length
 took:S.took=if S.c.mode=5 then (p+7)/8 else p/8
 skip:S.skip=p%8
 wait:S.wait=if S.c.mode=5 then [] else B.drop (p/8)
 al:S.c.mode=2→p%8=0
theorem Write_spec {b:Slc} {bs B:List UInt8} {p:Nat} {K:Slc→Int→World→Prop} (h:DecM w base F S) (f:Fed F S B p) (hm:S.c.mode≤4) (hb:Rd E_uint8 w b bs) (hbd:∀k,b.blk=some k→¬dS F k) (hbnd:B.length+bs.length≤1000000000) (hbase:base≤w.heap.size) (hwlt:∀k,F.wait.blk=some k→k<w.heap.size)
  (hK1:∀o x p' F' S' w',Ch S.most (B++bs) S.c p S'.c p'→(S'.c.mode=5∨S'.c.mode≤4∧step1 S.most (B++bs) p' S'.c=.short)→S'.c.hist=S.c.hist++x→Own E_uint8 w' base o x→(∀k,o.blk=some k→¬dS F' k)→DecM w' base F' S'→Fed F' S' (B++bs) p'→S'.most=S.most→F.tw F' w.heap.size→(∀k,F'.wait.blk=some k→k<w'.heap.size)→Chg (dS F) w w'→K o 0 w')
  (hK2:∀(n:Nat) c' p' S' w',(n=3∨n=5)→Ch S.most (B++bs) S.c p c' p'→step1 S.most (B++bs) p' c'=.err n→FailM w' F.d S' n→S'.given=(B++bs).length→Chg (dS F) w w'→K nilS n w'):c_inflate_Decoder_Write (some ⟨F.d,0,none⟩) b w K:=by
 refine call_inflate_Decoder_Write _ _ ?_
 unfold sh_inflate_Decoder_Write
 simp only [onPtr_some]
 have hp:=f.pl
 have htook:=f.took
 have hwait:=f.wait
 rw [if_neg (by omega)] at htook hwait
 have hBl:(B++bs).length=B.length+bs.length:=List.length_append
 refine lI (x:=((S.given:Nat):Int)) (h.blk.cells 12 _ rfl) ?_
 rw [add_mk,hb.n,f.given,w64i (by omega)]
 have e0:((B.length:Nat):Int)+((bs.length:Nat):Int)=(((B++bs).length:Nat):Int):=by rw [hBl];rfl
 rw [e0]
 refine stK_blk h.blk (by simp [decCells]) fun w1 hb1 hg1 hs1=>?_
 have hd1:DecM w1 base F { S with given:=(B++bs).length }:=h.put hb1 hg1 rfl rfl rfl rfl rfl rfl rfl rfl (h.tabs' hg1) h.m5 h.hl h.hs ⟨h.ht.1,by show (B++bs).length≤_;omega,h.ht.2.2⟩
 have hb1':=hb.chg (Chg.gg hg1) fun a ha e=>hbd _ (slk.2 ⟨a,ha,rfl⟩) (.inl e)
 refine lI (x:=0) (hd1.blk.cells 13 _ rfl) (cF rfl ?_)
 refine lI (x:=((S.c.mode:Nat):Int)) (hd1.blk.cells 1 _ rfl) (cF (by simp;omega) ?_)
 refine lSl (x:=F.wait) (hd1.blk.cells 3 _ rfl) ?_
 have hwl:S.wait.length=B.length-p/8:=by rw [hwait,List.length_drop]
 rw [←hb.n]
 refine ConcatB2 hd1.wait hb1' (by show S.wait.length+bs.length≤_;omega) fun q w3 hq hB3=>?_
 have hd3:=hd1.ext hB3
 have hW:S.wait++bs=(B++bs).drop (p/8):=by rw [hwait,List.drop_append_of_le_length (by omega)]
 have hs3:=hB3.size
 have qne:∀k,q.blk=some k→F.ring.blk≠some k∧F.out.blk≠some k∧k≠F.d:=fun k hk=>by
  have h0:=(hq.lt k hk).1
  refine ⟨fun e=>?_,fun e=>?_,fun e=>?_⟩
  ·have:=(h.below k (.inr (.inl e))).2;omega
  ·have:=(h.below k (.inr (.inr e))).2;omega
  ·have:=(h.below k (.inl e)).2;omega
 rw [add_mk]
 refine stK_blk hd3.blk (by simp [decCells]) fun w4 hb4 hg4 hs4=>?_
 have hWl:(S.wait++bs).length=S.wait.length+bs.length:=List.length_append
 have hd4:=hd3.putW (ws:=q) (xs:=S.wait++bs) (took:=S.took) (skip:=S.skip) hb4 hg4 hq.rd qne (by omega) h.hs h.ht.1
 refine lSl (x:=q) (hd4.blk.cells 3 _ rfl) ?_
 refine NewReader_spec hd4.wait (by show (S.wait++bs).length≤_;omega) fun r rs w5 hr0 hrs0 hr5 hB5=>?_
 have hd5:=hd4.ext hB5
 have hs5:=hB5.size
 have h5:DR w5 base { F with wait:=q } { S with given:=(B++bs).length,wait:=S.wait++bs } r rs 0:=by
  refine ⟨hd5,hr5,fun k hk hs=>?_,by omega,fun k hk e=>?_,fun k hk=>?_,fun k hk=>(hrs0 k hk).2⟩
  ·have h1:=(hrs0 k hk).1
   have h2:=(h.below k hs).2
   omega
  ·have h1:=(hq.lt k hk).2;omega
  ·have h1:=(hq.lt k hk).2;omega
 have c5:Chg (dS F) w w5:=((((Chg.gg hg1).mono fun i _ hi=>.inl hi:Chg (dS F) w w1).trans (Chg.of_ext (S:=dS F) hB3) fun i _ hi=>hi).trans (Chg.gg hg4) fun i _ hi=>.inl hi).trans (Chg.of_ext (S:=dS F) hB5) fun i _ hi=>hi
 have hskip:=f.skip
 refine lI (x:=((S.skip:Nat):Int)) (h5.d.blk.cells 4 _ rfl) ?_
 refine rBits h5 (fun m w6 e hm32 hl6 h6 hc6=>?_) (fun w6 hn _ _=>?_)
 rotate_left
 ·exfalso
  have hn:((S.skip:Nat):Int)<0∨((S.skip:Nat):Int)>32∨((0:Nat):Int)+((S.skip:Nat):Int)>8*((S.wait++bs).length:Nat):=hn
  omega
 have:m=p%8:=by omega
 subst this
 rw [Nat.zero_add] at h6
 have sub:∀{F1:DF} {w1 w2:World},F.tw F1 w.heap.size→w.heap.size≤r→Chg (dS F) w w1→Chg (drS F1 r) w1 w2→Chg (dS F) w w2:=fun hto hr h1 h2=>h1.trans h2 fun i hi hs=>by
  rcases hs with hs | hs
  ·rcases hto.old i hs with e | e
   ·exact e
   ·omega
  ·omega
 have hrw:w.heap.size≤r:=by omega
 have c6:Chg (dS F) w w6:=sub (F1:={ F with wait:=q }) ⟨rfl,.inl rfl,.inl rfl⟩ hrw c5 hc6
 have hmo:S.most≤1073741824:=h.mo
 refine loopP_rule_w (fun n (s:Int×Unit) w7=>∃F1 S1 rs1 a1,DR w7 base F1 S1 r rs1 a1∧F.tw F1 w.heap.size∧Chg (dS F) w w7∧S1.most=S.most∧S1.given=(B++bs).length∧S1.told=S.told∧S1.took+S1.wait.length=(B++bs).length ∧
   (
    (s.1=0∨s.1=2)∧S1.wait=(B++bs).drop S1.took∧Ch S.most (B++bs) S.c p S1.c (8*S1.took+a1)∧(∃x,S1.c.hist=S.c.hist++x∧S1.out=x)∧(s.1=0→n=1+mu (B++bs) S1.c (8*S1.took+a1))∧(s.1=2→S1.c.mode≤4∧step1 S.most (B++bs) (8*S1.took+a1) S1.c=.short)
    ∨ ∃m:Nat,s.1=(m:Int)∧(m=3∨m=5)∧∃c' p',Ch S.most (B++bs) S.c p c' p'∧step1 S.most (B++bs) p' c'=.err m))
  (1+mu (B++bs) S.c p) ⟨{ F with wait:=q },_,rs,p%8,h6,⟨rfl,.inl rfl,.inl rfl⟩,c6,rfl,rfl,rfl,by show S.took+(S.wait++bs).length=_;omega,.inl ⟨.inl rfl,?_,?_,⟨[],by simp,by show S.out=[];exact f.out⟩,fun _=>?_,fun e=>by cases e⟩⟩ ?_
 ·show S.wait++bs=(B++bs).drop S.took
  rw [hW,htook]
 ·show Ch S.most (B++bs) S.c p S.c (8*S.took+p%8)
  rw [htook,show 8*(p/8)+p%8=p by omega]
  exact .refl _ _
 ·show _=1+mu (B++bs) S.c (8*S.took+p%8)
  rw [htook,show 8*(p/8)+p%8=p by omega]
 rintro n ⟨e,_⟩ w7 ⟨F1,S1,rs1,a1,h7,hto7,c7,em,eg,et,etw,hcase⟩ I hI
 dsimp only at *
 have hs7:=c7.size
 have hd7:F1.d=F.d:=hto7.d
 have hwl7:=h7.d.hw
 have ends:(e=0∧S1.c.mode=5∨e≠0)→_:=fun hcond=>after_spec (e:=e) (K:=K) h7
  (by
    rcases hcase with ⟨he,_⟩ | ⟨m,he,hm,_⟩
    ·rcases he with he | he
     ·exact .inl he
     ·exact .inr (.inl he)
    ·rcases hm with rfl | rfl
     ·exact .inr (.inr (.inl he))
     ·exact .inr (.inr (.inr he)))
  (fun hee=>by
    rcases hcase with ⟨_,_,_,⟨x,hx,hxo⟩,_⟩ | ⟨m,he,hm,_⟩
    ·rw [et,f.told,hxo,hx,List.length_append];exact Nat.le_refl _
    ·omega)
  (by omega)
  (fun hee F' w' hd' ho' hod ed' er' eo' hwl' c'=>by
    rcases hcase with ⟨he,hw1,hch,⟨x,hx,hxo⟩,_,h2⟩ | ⟨m,he,hm,_⟩
    rotate_left
    ·omega
    have hle:=h7.rdr.le
    refine hK1 F1.out x (8*S1.took+a1) F' { S1 with told:=S1.told+S1.out.length,took:=S1.took+(if S1.c.mode=5 then (a1+7)/8 else a1/8),skip:=a1%8,wait:=if S1.c.mode=5 then [] else S1.wait.drop (a1/8),out:=[] } w' hch ?_ hx (by rw [←hxo];exact ho') hod hd' ⟨rfl,eo',?_,eg,?_,?_,?_,?_,?_⟩ em ⟨ed'.trans hd7,?_,?_⟩ hwl' ?_
    ·rcases hcond with ⟨_,hm5⟩ | hne
     ·exact .inl hm5
     ·rcases he with he | he
      ·exact absurd he hne
      ·exact .inr (h2 he)
    ·show S1.told+S1.out.length=S1.c.hist.length
     rw [et,f.told,hxo,hx,List.length_append]
    ·omega
    ·show S1.took+_=if S1.c.mode=5 then _ else _
     split<;>omega
    ·show a1%8=_
     omega
    ·show (if S1.c.mode=5 then [] else S1.wait.drop (a1/8))=if S1.c.mode=5 then [] else _
     split
     ·rfl
     ·rw [hw1,List.drop_drop]
      congr 1
      omega
    ·exact hch.al f.al
    ·rw [er'];exact hto7.ring
    ·rw [eo'];exact .inl (by rw [f.fo])
    ·exact c7.trans c' fun i hi e=>by subst e;exact .inl hd7)
  (fun hee S' w' hf eg' c'=>by
    rcases hcase with ⟨he,_⟩ | ⟨m,he,hm,c1,p1,hch,hst⟩
    ·omega
    ·subst he
     rw [hd7] at hf
     exact hK2 m c1 p1 S' w' hm hch hst hf (eg'.trans eg) (c7.trans c' fun i hi e=>by subst e;exact .inl hd7))
 refine jpO fun J2 hJ2=>?_
 refine cO (fun he0=>?_) (fun he0=>?_)
 ·have he0:e=0:=eq_of_beq he0
  rw [←hd7]
  refine lI (x:=((S1.c.mode:Nat):Int)) (h7.d.blk.cells 1 _ rfl) ?_
  refine cO (fun hm5=>?_) (fun hm5=>?_)
  ·have hm5:S1.c.mode≠5:=by have:=bne_iff_ne.1 hm5;omega
   have hm4:S1.c.mode≤4:=by have:=h7.d.m5;omega
   rcases hcase with ⟨he,hw1,hch,⟨x,hx,hxo⟩,hn,_⟩ | ⟨m,he,hm,_⟩
   rotate_left
   ·omega
   have hn:=hn he0
   have htk:S1.took≤(B++bs).length:=by omega
   refine hJ2 _ _ ?_
   refine At_spec h7.rdr ?_
   rw [←hd7]
   have hal:=hch.al f.al
   have hple:=hch.le (by omega)
   refine step_spec h7 hm4 (fun h2=>by have:=hal h2;omega) (by omega) (by omega) fun e' F2 S2 rs2 a2 w10 hres h10 hto10 c10=>?_
   obtain ⟨em2,eg2,et2,hres⟩:=hres
   have hto2:F.tw F2 w.heap.size:=hto7.trans hto10 hs7
   have c010:Chg (dS F) w w10:=sub hto7 hrw c7 c10
   rw [em] at hres
   rw [hw1] at hres
   rcases hres with ⟨rfl,⟨c1,b1,hs1,hch1⟩,⟨y,hy,hyo⟩,ew2,etk2,esk2⟩ | ⟨rfl,k,a,hch1,hsh,⟨y,hy,hyo⟩,ew2,hkl,etk2,ea,hm2⟩ | ⟨m,rfl,hm,⟨c1,b1,hch1,hst1⟩,etk2,ew2⟩
   ·refine cF rfl ?_
    have hst:step1 S.most (B++bs) (8*S1.took+a1) S1.c=.next c1 (8*S1.took+b1):=by rw [step1_drop htk,hs1];rfl
    have hch2:=(Ch.step hst (hch1.shift htk))
    have hmu:=step1_next hst hple.1
    have hmu2:=(hch1.shift htk).le hmu.1
    refine hI _ _ w10 ⟨F2,S2,rs2,a2,h10,hto2,c010,em2.trans em,eg2.trans eg,et2.trans et,by rw [etk2,ew2,←hw1];exact etw,.inl ⟨.inl rfl,by rw [ew2,etk2],?_,⟨x++y,by rw [hy,hx,List.append_assoc],by rw [hyo,hxo]⟩,fun _=>rfl,fun e=>(by cases e)⟩⟩ ?_
    ·rw [etk2];exact hch.trans hch2
    ·rw [etk2];omega
   ·refine cT rfl ?_
    refine Back_min h10 fun w11 h11 c11=>?_
    have c011:Chg (dS F) w w11:=sub hto2 hrw c010 c11
    have hkl:k≤(B++bs).length-S1.took:=by rw [List.length_drop] at hkl;exact hkl
    have hch2:=hch1.shift htk
    have hsh2:step1 S.most (B++bs) (8*S1.took+a) S2.c=.short:=by rw [step1_drop htk,hsh];rfl
    have epos:8*S1.took+a=8*S2.took+min a1 a2:=by rw [etk2,ea];omega
    refine hI 0 _ w11 ⟨F2,S2,rs2,min a1 a2,h11,hto2,c011,em2.trans em,eg2.trans eg,et2.trans et,?_,.inl ⟨.inr rfl,?_,?_,⟨x++y,by rw [hy,hx,List.append_assoc],by rw [hyo,hxo]⟩,fun e=>(by cases e),fun _=>⟨hm2,?_⟩⟩⟩ (by omega)
    ·rw [etk2,ew2,List.length_drop,List.length_drop];omega
    ·rw [ew2,etk2,List.drop_drop]
    ·rw [←epos];exact hch.trans hch2
    ·rw [←epos];exact hsh2
   ·have hne:((m:Nat):Int)≠2:=by omega
    refine cF (by simpa using hne) ?_
    have hst2:step1 S.most (B++bs) (8*S1.took+b1) c1=.err m:=by rw [step1_drop htk,hst1];rfl
    refine hI 0 _ w10 ⟨F2,S2,rs2,a2,h10,hto2,c010,em2.trans em,eg2.trans eg,et2.trans et,by rw [etk2,ew2];rw [←etw,hw1],.inr ⟨m,rfl,hm,c1,8*S1.took+b1,hch.trans (hch1.shift htk),hst2⟩⟩ (by omega)
  ·have hm5:S1.c.mode=5:=by have:=bne_eq_false_iff_eq.1 hm5;omega
   exact ends (.inl ⟨he0,hm5⟩)
 ·have he0:e≠0:=beq_eq_false_iff_ne.1 he0
  rw [←hd7]
  exact ends (.inr he0)
end
end Go.Proofs.YtmagnpcgpinmcaaGreat
namespace Go.Proofs.YtmagnpcgpinmcaaGreat
open Go.Vc Go.RowKit
set_option maxRecDepth 400000
def cfg0:Cfg:=⟨0,false,0,[],[],[]⟩
section
variable {w:World} {base:Nat} {F:DF} {S:DS}
theorem DecNew_spec {most:Nat} {K:Option Addr→Int→World→Prop} (hm:most≤1073741824)
  (hK:∀F S w',w.heap.size=F.d→DecM w' F.d F S→Fed F S [] 0→S.c=cfg0→S.most=most→(∀k,dS F k→k=w.heap.size)→F.wait.blk=none→Below w.heap.size w w'→K (some ⟨F.d,0,none⟩) 0 w'):c_inflate_New most w K:=by
 refine call_inflate_New _ ?_
 unfold sh_inflate_New
 refine jpO fun J hJ=>?_
 refine cF (decide_eq_false (by omega)) (cF (decide_eq_false (by omega)) (hJ _ _ ?_))
 refine nwb fun w1 hb1 hB1 hs1=>?_
 refine hK ⟨w.heap.size,nilS,nilS,nilS,none,none⟩ ⟨most,0,0,0,0,cfg0,[],[]⟩ w1 rfl ⟨hb1,Nat.le_refl _,Own.nil _ _ _,Own.nil _ _ _,Rd.nil _ _,?_,?_,?_,Nat.zero_le _,hm,Nat.zero_le _,Nat.zero_le _,Nat.zero_le _,Nat.zero_le _,Nat.zero_le _,⟨Nat.zero_le _,Nat.zero_le _,Nat.zero_le _⟩⟩ ⟨rfl,rfl,rfl,rfl,by decide,rfl,rfl,rfl,fun e=>by cases e⟩ rfl rfl ?_ rfl hB1
 ·intro e;cases e
 ·intro k e;cases e
 ·intro k e;cases e
 ·rintro k (e | e | e)
  ·exact e
  ·cases e
  ·cases e
end
end Go.Proofs.YtmagnpcgpinmcaaGreat
namespace Go.Proofs.YtmagnpcgpinmcaaGreat
open Go.Vc Go.RowKit
set_option maxRecDepth 400000
def wrCells (s:Slc) (v c:Nat):List Value:=[.slice s.a s.n s.c,.int .u64 (v:Int),.int .i64 (c:Int)]
structure WrH (w:World) (base g:Nat) (s:Slc) (xs:List UInt8) (v c:Nat):Prop where
 blk:Blk w g ty_bits_Writer (wrCells s v c)
 own:Own E_uint8 w base s xs
 hg:base≤g
 lt:v<2^c
def WrM (w:World) (base g V n:Nat):Prop:=∃s xs v c,WrH w base g s xs v c∧c<8∧V=le xs+256^xs.length*v∧n=8*xs.length+c
section
variable {w w':World} {base g V n:Nat}
theorem WrH.ne {s:Slc} {xs:List UInt8} {v c:Nat} (h:WrH w base g s xs v c):∀k,s.blk=some k→k≠g:=fun k hk=>by
 obtain ⟨cs,hcs⟩:=h.own.blk_t hk
 exact hcs.ne_t h.blk (by decide)
theorem WrM.ext (h:WrM w base g V n) (hB:Below w.heap.size w w'):WrM w' base g V n:=by
 obtain ⟨s,xs,v,c,h,h1⟩:=h
 exact ⟨s,xs,v,c,⟨h.blk.ext hB,h.own.ext hB,h.hg,h.lt⟩,h1⟩
theorem NewWriter_spec {K:Option Addr→World→Prop} (hK:∀g w',w.heap.size≤g→WrM w' w.heap.size g 0 0→Below w.heap.size w w'→K (some ⟨g,0,none⟩) w'):c_bits_NewWriter w K:=by
 refine call_bits_NewWriter ?_
 unfold sh_bits_NewWriter
 refine nwb fun w1 hb1 hB1 hs1=>?_
 exact hK _ w1 (Nat.le_refl _) ⟨nilS,[],0,0,⟨hb1,Own.nil _ _ _,Nat.le_refl _,by decide⟩,by decide,rfl,rfl⟩ hB1
theorem WBits_spec {x k:Nat} {K:World→Prop} (h:WrM w base g V n) (hbase:base≤w.heap.size) (hx:x<2^32) (hk1:1≤k) (hk:k≤32) (hn:n≤800000000000)
  (hK:∀w',WrM w' base g (V+2^n*(x%2^k)) (n+k)→Below base w w'→K w'):c_bits_Writer_Bits (some ⟨g,0,none⟩) (x:Int) (k:Int) w K:=by
 refine call_bits_Writer_Bits _ _ _ ?_
 unfold sh_bits_Writer_Bits
 simp only [onPtr_some]
 refine jpO fun J hJ=>?_
 refine cF (decide_eq_false (by omega)) (cF (decide_eq_false (by omega)) (hJ _ _ ?_))
 obtain ⟨s,xs,v,c,h0,hc8,hV,hn8⟩:=h
 have hBd:Below w.heap.size w w.drew:=(Below.refl _ w).drew
 have hb:=h0.blk.ext hBd
 refine lI (x:=(v:Int)) (hb.cells 1 _ rfl) ⟨Int.natCast_nonneg _,?_⟩
 refine lI (x:=(c:Int)) (hb.cells 2 _ rfl) ⟨Int.natCast_nonneg _,?_⟩
 have hv:=h0.lt
 have hv8:v<2^8:=Nat.lt_of_lt_of_le hv (Nat.pow_le_pow_right (by decide) (by omega))
 have hxk:x%2^k<2^k:=Nat.mod_lt _ (Nat.pow_pos (by decide))
 have hk32:2^k≤2^32:=Nat.pow_le_pow_right (by decide) hk
 have hc256:2^c≤2^8:=Nat.pow_le_pow_right (by decide) (by omega)
 have hpos:0<2^k:=Nat.pow_pos (by decide)
 have hprod:x%2^k*2^c<2^40:=by
  have h1:x%2^k*2^c≤x%2^k*2^8:=Nat.mul_le_mul_left _ hc256
  omega
 have hval:bitsR .or .u64 (v:Int) (IntKind.u64.wrap ((bitsR .and .u64 (IntKind.u64.wrap (x:Int)) (IntKind.u64.wrap ((IntKind.u64.wrap ((1:Int)*2^(min ((k:Int)).toNat IntKind.u64.bits)))-(1:Int))))*2^(min ((c:Int)).toNat IntKind.u64.bits)))=((v+2^c*(x%2^k):Nat):Int):=by
  have e1:min ((k:Int)).toNat IntKind.u64.bits=k:=by rw [Int.toNat_natCast];show min k 64=k;omega
  have e2:min ((c:Int)).toNat IntKind.u64.bits=c:=by rw [Int.toNat_natCast];show min c 64=c;omega
  rw [e1,e2,wrap_nat .u64 (by show x<2^64;omega),show (1:Int)*2^k=((2^k:Nat):Int) by simp,wrap_nat .u64 (by show 2^k<2^64;omega)]
  rw [show ((2^k:Nat):Int)-1=((2^k-1:Nat):Int) by omega,wrap_nat .u64 (by show 2^k-1<2^64;omega)]
  rw [bits_and .u64 (by show x<2^64;omega) (by show 2^k-1<2^64;omega),Nat.and_two_pow_sub_one_eq_mod,mul_pow_nat,wrap_nat .u64 (by show _<2^64;omega)]
  rw [bits_or .u64 (by show _<2^64;omega) (by show _<2^64;omega),Nat.mul_comm,add_or hv]
 rw [hval,add_mk]
 refine stK_blk hb (by simp [wrCells]) fun w1 hb1 hg1 hs1=>?_
 have ho1:=(h0.own.ext hBd).chg (Chg.gg hg1) h0.ne
 refine lI (x:=(c:Int)) (hb1.cells 2 _ rfl) ?_
 rw [w64i (by omega),show (c:Int)+(k:Int)=((c+k:Nat):Int) from rfl]
 try rw [add_mk]
 refine stK_blk hb1 (by simp [wrCells,putL]) fun w2 hb2 hg2 hs2=>?_
 have hb2:Blk w2 g ty_bits_Writer (wrCells s (v+2^c*(x%2^k)) (c+k)):=hb2
 have hB2:Below base w w2:=(hBd.mono hbase).trans (((Chg.gg hg1).below hbase fun i hi e=>by have:=h0.hg;omega).trans ((Chg.gg hg2).below (by have:=hg1.size;exact Nat.le_trans hbase this) fun i hi e=>by have:=h0.hg;omega))
 have h2:WrH w2 base g s xs (v+2^c*(x%2^k)) (c+k):=by
  refine ⟨hb2,ho1.chg (Chg.gg hg2) h0.ne,h0.hg,?_⟩
  rw [Nat.pow_add]
  have:2^c*(x%2^k)+2^c≤2^c*2^k:=by rw [←Nat.mul_succ];exact Nat.mul_le_mul_left _ hxk
  omega
 refine loopP_rule_w (fun m (_:Unit) w3=>∃s1 xs1 v1 c1,m=c1∧c1≤39∧WrH w3 base g s1 xs1 v1 c1∧V+2^n*(x%2^k)=le xs1+256^xs1.length*v1∧n+k=8*xs1.length+c1∧Below base w w3) (c+k) ⟨s,xs,_,_,rfl,by omega,h2,?_,by omega,hB2⟩ ?_
 ·rw [hV,hn8,Nat.pow_add,←pow256,Nat.mul_add,←Nat.mul_assoc];omega
 rintro m _ w3 ⟨s1,xs1,v1,c1,rfl,hc39,h3,hV3,hn3,hB3⟩ I hI
 have hs3:=hB3.size
 refine lI (x:=(m:Int)) (h3.blk.cells 2 _ rfl) ?_
 refine cO (fun hge=>?_) (fun hlt=>?_)
 ·have hge:8≤m:=by have:=of_decide_eq_true hge;omega
  have hBd3:Below w3.heap.size w3 w3.drew:=(Below.refl _ w3).drew
  have hb3:=h3.blk.ext hBd3
  have ho3:=h3.own.ext hBd3
  refine lSl (x:=s1) (hb3.cells 0 _ rfl) ?_
  refine lI (x:=(v1:Int)) (hb3.cells 1 _ rfl) ?_
  have hwv:IntKind.u8.wrap (v1:Int)=(((UInt8.ofNat v1).toNat:Nat):Int):=by
   rw [wrap8_u8]
   show (((UInt8.ofNat ((v1:Int)%256).toNat).toNat:Nat):Int)=_
   rw [UInt8.toNat_ofNat',UInt8.toNat_ofNat']
   omega
  have hbyte:(UInt8.ofNat v1).toNat=v1%256:=by rw [UInt8.toNat_ofNat']
  rw [hwv]
  refine nwb fun w4 hb4 hB4 hs4=>?_
  have hb4':=hb3.ext hB4
  refine ⟨hb4'.cells 0 _ rfl,?_⟩
  have hr:Rd E_uint8 w4 ⟨some ⟨w3.drew.heap.size,0,none⟩,1,1⟩ [UInt8.ofNat v1]:=rd_one (E:=E_uint8) hb4 rfl
  have hxl:xs1.length≤900000000000:=by omega
  refine apB (ho3.ext hB4) hr (by have:w3.drew.heap.size=w3.heap.size:=rfl;omega) (by simp;omega) fun r w5 ho5 hc5 hq=>?_
  have hb5:=hb4'.chg hc5 fun e=>h3.ne _ e rfl
  try rw [add_mk]
  refine stK_blk hb5 (by simp [wrCells]) fun w6 hb6 hg6 hs6=>?_
  have hb6:Blk w6 g ty_bits_Writer (wrCells r v1 m):=hb6
  have hne5:∀j,r.blk=some j→j≠g:=fun j hj=>by
   obtain ⟨cs,hcs⟩:=ho5.blk_t hj
   exact hcs.ne_t hb5 (by decide)
  have ho6:=ho5.chg (Chg.gg hg6) hne5
  refine lI (x:=(v1:Int)) (hb6.cells 1 _ rfl) ⟨by decide,?_⟩
  rw [show min ((8:Int)).toNat IntKind.u64.bits=8 by decide,fdiv_nat]
  try rw [add_mk]
  refine stK_blk hb6 (by simp [wrCells]) fun w7 hb7 hg7 hs7=>?_
  have hb7:Blk w7 g ty_bits_Writer (wrCells r (v1/2^8) m):=hb7
  have ho7:=ho6.chg (Chg.gg hg7) hne5
  refine lI (x:=(m:Int)) (hb7.cells 2 _ rfl) ?_
  rw [w64i (by omega),show (m:Int)-8=((m-8:Nat):Int) by omega]
  try rw [add_mk]
  refine stK_blk hb7 (by simp [wrCells]) fun w8 hb8 hg8 hs8=>?_
  have hb8:Blk w8 g ty_bits_Writer (wrCells r (v1/2^8) (m-8)):=hb8
  have ho8:=ho7.chg (Chg.gg hg8) hne5
  have hgb:=h3.hg
  have own3:∀i,i<base→¬s1.blk=some i:=fun i hi e=>by have:=(h3.own.lt i e).1;omega
  have b4:base≤w4.heap.size:=by have:w3.drew.heap.size=w3.heap.size:=rfl;omega
  have b5:base≤w5.heap.size:=Nat.le_trans b4 hc5.size
  have hB38:Below base w3 w8:=((hBd3.mono (by omega)).trans (hB4.mono (by have:w3.drew.heap.size=w3.heap.size:=rfl;omega))).trans ((hc5.below b4 own3).trans (((Chg.gg hg6).below b5 fun i hi e=>by omega).trans (((Chg.gg hg7).below (by omega) fun i hi e=>by omega).trans ((Chg.gg hg8).below (by omega) fun i hi e=>by omega))))
  have hv1:=h3.lt
  refine hI (m-8) () w8 ⟨r,xs1++[UInt8.ofNat v1],v1/2^8,m-8,rfl,by omega,⟨hb8,ho8,hgb,?_⟩,?_,by simp;omega,hB3.trans hB38⟩ (by omega)
  ·rw [Nat.div_lt_iff_lt_mul (by decide),←Nat.pow_add,show m-8+8=m by omega];exact hv1
  ·rw [hV3,le_append,List.length_append,Nat.pow_add]
   simp only [le,List.length_cons,List.length_nil,hbyte]
   rw [Nat.add_assoc,Nat.mul_assoc,←Nat.mul_add]
   congr 2
   omega
 ·have hlt:m<8:=by have:=of_decide_eq_false hlt;omega
  exact hK w3 ⟨s1,xs1,v1,m,h3,hlt,hV3,hn3⟩ hB3
theorem WDone_spec {K:Slc→World→Prop} (h:WrM w base g V n) (hn:n≤800000000000)
  (hK:∀r ys w',Own E_uint8 w' w.heap.size r ys→le ys=V→ys.length=(n+7)/8→Below w.heap.size w w'→K r w'):c_bits_Writer_Done (some ⟨g,0,none⟩) w K:=by
 refine call_bits_Writer_Done _ ?_
 unfold sh_bits_Writer_Done
 simp only [onPtr_some]
 obtain ⟨s,xs,v,c,h0,hc8,hV,hn8⟩:=h
 refine lSl (x:=s) (h0.blk.cells 0 _ rfl) ?_
 refine CloneB_spec h0.own.rd (by omega) fun r w1 ho1 hB1=>?_
 have hs1:=hB1.size
 have hb1:=h0.blk.ext hB1
 refine lI (x:=(c:Int)) (hb1.cells 2 _ rfl) ?_
 have hv:=h0.lt
 refine cO (fun hp=>?_) (fun hz=>?_)
 ·have hp:0<c:=by have:=of_decide_eq_true hp;omega
  refine lI (x:=(v:Int)) (hb1.cells 1 _ rfl) ?_
  have hv8:v<2^8:=Nat.lt_of_lt_of_le hv (Nat.pow_le_pow_right (by decide) (by omega))
  have hbyte:(UInt8.ofNat v).toNat=v:=by rw [UInt8.toNat_ofNat'];omega
  refine apB1 (c:=UInt8.ofNat v) (by rw [hbyte,wrap_nat .u8 (by show v<2^8;omega)]) ho1 hs1 (by omega) fun q w2 ho2 hc2 hq=>?_
  refine hK q _ w2 ho2 ?_ (by simp;omega) (hB1.trans (hc2.below hs1 fun i hi e=>by have:=(ho1.lt i e).1;omega))
  rw [le_append,hV]
  simp only [le,hbyte,Nat.mul_zero,Nat.add_zero]
 ·have hz:c=0:=by have:=of_decide_eq_false hz;omega
  subst hz
  have:v=0:=by omega
  subst this
  exact hK r xs w1 ho1 (by rw [hV];omega) (by omega) hB1
end
end Go.Proofs.YtmagnpcgpinmcaaGreat
namespace Go.Proofs.YtmagnpcgpinmcaaGreat
open Go.Vc Go.RowKit
set_option maxRecDepth 400000
def kN (y:Nat):Nat:=(fixedL[y]?.getD 0).toNat
def symN (y:Nat):Nat:=revN (codeK fixedL (kN y) y) (kN y)
theorem kN_get {y:Nat} (h:y<288):∃x:UInt8,fixedL[y]?=some x∧x.toNat=kN y∧7≤kN y∧kN y≤9:=by
 unfold kN
 rw [fixedL_get y h]
 refine ⟨_,rfl,rfl,?_⟩
 show 7≤(if y<144 then (8:UInt8) else if y<256 then 9 else if y<280 then 7 else 8).toNat∧(if y<144 then (8:UInt8) else if y<256 then 9 else if y<280 then 7 else 8).toNat≤9
 repeat' split
 all_goals decide
def putN (p:Nat×Nat) (y:Nat):Nat×Nat:=(p.1+2^p.2*symN y,p.2+kN y)
def bytesN (bs:List UInt8):Nat×Nat:=bs.foldl (fun p b=>putN p b.toNat) (3,3)
def fixedN (bs:List UInt8):Nat×Nat:=putN (bytesN bs) 256
theorem bytesN_snoc (bs:List UInt8) (b:UInt8):bytesN (bs++[b])=putN (bytesN bs) b.toNat:=by
 unfold bytesN
 rw [List.foldl_append]
 rfl
theorem foldN_le (bs:List UInt8):∀p,(bs.foldl (fun p b=>putN p b.toNat) p).2≤p.2+9*bs.length:=by
 induction bs with
 | nil=>intro p;exact Nat.le_refl _
 | cons b r ih =>
  intro p
  have h1:=ih (putN p b.toNat)
  obtain ⟨x,_,_,_,h2⟩:=kN_get (y:=b.toNat) (by have:=b.toNat_lt;omega)
  rw [List.foldl_cons,List.length_cons]
  have:(putN p b.toNat).2=p.2+kN b.toNat:=rfl
  omega
theorem bytesN_le (bs:List UInt8):(bytesN bs).2≤3+9*bs.length:=foldN_le bs (3,3)
section
variable {w:World}
theorem one_sym {base g base2:Nat} {f:TF} {p:Nat×Nat} {y:Nat} {w:World} {K:World→Prop} (ht:TabM w base2 f fixedL) (h:WrM w base g p.1 p.2) (hy:y<288) (hbase:base≤w.heap.size) (hn:p.2≤700000000000)
  (hK:∀w',WrM w' base g (putN p y).1 (putN p y).2→Below base w w'→K w'):c_huff_Table_Code (some ⟨f.g,0,none⟩) (y:Int) w fun t32 t32_1 w6=>c_bits_Writer_Bits (some ⟨g,0,none⟩) t32 t32_1 w6 fun w7=>K w7:=by
 obtain ⟨x,hx,hxk,hk7,hk9⟩:=kN_get hy
 refine Code_spec ht hx (by omega) ?_
 rw [hxk]
 have hlt:=revN_lt (codeK fixedL (kN y) y) (kN y)
 have h32:2^kN y≤2^9:=Nat.pow_le_pow_right (by decide) hk9
 have hBd:Below w.heap.size w w.drew:=(Below.refl _ w).drew
 refine WBits_spec (h.ext hBd) hbase (by omega) (by omega) (by omega) (by omega) fun w' h' hB=>?_
 rw [Nat.mod_eq_of_lt hlt] at h'
 exact hK w' h' ((hBd.mono hbase).trans hB)
theorem Fixed_spec {b:Slc} {bs:List UInt8} {K:Slc→World→Prop} (hb:Rd E_uint8 w b bs) (hl:bs.length≤1000000000)
  (hK:∀r ys w',Own E_uint8 w' w.heap.size r ys→le ys=(fixedN bs).1→ys.length=((fixedN bs).2+7)/8→Below w.heap.size w w'→K r w'):c_inflate_Fixed b w K:=by
 refine call_inflate_Fixed _ ?_
 unfold sh_inflate_Fixed
 rw [hb.n]
 refine HFixed_spec fun t6 t7 w1 ho1 hB1=>?_
 obtain ⟨k1,k2,_,_⟩:=fixed_ok
 refine New_spec ho1.rd (fun h=>absurd h k1) (fun _ h=>absurd h k2) fun _ _ f w2 hf hB2=>?_
 have hs1:=hB1.size
 have hs2:=hB2.size
 refine NewWriter_spec fun g w3 hg h3 hB3=>?_
 have hs3:=hB3.size
 refine WBits_spec (x:=3) (k:=3) h3 hs3 (by decide) (by decide) (by decide) (by decide) fun w4 h4 hB4=>?_
 have hf3:=hf.ext hB3
 have hft:∀k,tabS f k→k<w2.heap.size:=fun k hk=>(hf.below k hk).2
 have tab:∀{w'},Below w2.heap.size w3 w'→TabM w' w1.heap.size f fixedL:=fun hB=>hf3.chg (Chg.of_below hB) fun k hk hle=>by have:=hft k hk;omega
 have hB13:Below w.heap.size w w3:=hB1.trans ((hB2.mono hs1).trans (hB3.mono (Nat.le_trans hs1 hs2)))
 have h4:WrM w4 w2.heap.size g (bytesN []).1 (bytesN []).2:=h4
 have hb3:=hb.ext hB13
 have row:∀{w'},Below w2.heap.size w3 w'→Rd E_uint8 w' b bs:=fun hB=>hb.ext (hB13.trans (hB.mono (Nat.le_trans hs1 hs2)))
 refine loopP_rule_w (fun m (s:Int×Unit) w5=>∃i:Nat,s.1=(i:Int)∧i≤bs.length∧m=bs.length-i∧WrM w5 w2.heap.size g (bytesN (bs.take i)).1 (bytesN (bs.take i)).2∧Below w2.heap.size w3 w5) bs.length ⟨0,rfl,Nat.zero_le _,by omega,h4,hB4⟩ ?_
 rintro m ⟨s,_⟩ w5 ⟨i,rfl,hi,rfl,h5,hB5⟩ I hI
 have hs5:w2.heap.size≤w5.heap.size:=Nat.le_trans hs3 hB5.size
 have hle:=bytesN_le (bs.take i)
 rw [List.length_take] at hle
 dsimp only
 refine cO (fun hlt=>?_) (fun hge=>?_)
 ·have hlt:i<bs.length:=by have:=of_decide_eq_true hlt;omega
  refine (row hB5).ix (i:=(i:Int)) rfl (by omega) (by omega) fun hc=>?_
  refine ldB8 (b:=bs[i]) hc ?_
  have hbl:=(bs[i]).toNat_lt
  rw [wrap_nat .i64 (by show _<2^63;omega)]
  refine one_sym (p:=bytesN (bs.take i)) (tab hB5) h5 (by omega) hs5 (by omega) fun w6 h6 hB6=>?_
  rw [w64i (by omega),show (i:Int)+1=((i+1:Nat):Int) from rfl]
  refine hI (bs.length-(i+1)) (((i+1:Nat):Int),()) w6 ⟨i+1,rfl,by omega,rfl,?_,hB5.trans hB6⟩ (by omega)
  rw [List.take_succ_eq_append_getElem hlt,bytesN_snoc]
  exact h6
 ·have hge:i=bs.length:=by have:=of_decide_eq_false hge;omega
  subst hge
  rw [List.take_length] at h5 hle
  refine one_sym (p:=bytesN bs) (y:=256) (tab hB5) h5 (by decide) hs5 (by omega) fun w6 h6 hB6=>?_
  have hk:=kN_get (y:=256) (by decide)
  obtain ⟨_,_,_,_,hk9⟩:=hk
  have h6:WrM w6 w2.heap.size g (fixedN bs).1 (fixedN bs).2:=h6
  have e2:(fixedN bs).2=(bytesN bs).2+kN 256:=rfl
  have hs6:w2.heap.size≤w6.heap.size:=Nat.le_trans hs5 hB6.size
  refine WDone_spec h6 (by omega) fun r ys w7 ho hle7 hlen hB7=>?_
  refine hK r ys w7 (ho.base (by omega)) hle7 hlen (hB13.trans (((hB5.trans hB6).mono (Nat.le_trans hs1 hs2)).trans (hB7.mono (by omega))))
end
end Go.Proofs.YtmagnpcgpinmcaaGreat
namespace Go.Proofs.YtmagnpcgpinmcaaGreat
open Go.Vc Go.RowKit
set_option maxRecDepth 400000
def headS (last n:Nat):List UInt8:=[UInt8.ofNat last,UInt8.ofNat (n%256),UInt8.ofNat (n/256),UInt8.ofNat (255-n%256),UInt8.ofNat (255-n/256)]
def storeL (bs:List UInt8):List UInt8 :=
 if h:bs.length≤65535 then headS 1 bs.length++bs else headS 0 65535++bs.take 65535++storeL (bs.drop 65535)
termination_by bs.length
decreasing_by simp;omega
theorem storeL_length (m:Nat):∀bs:List UInt8,bs.length≤m→(storeL bs).length≤6*bs.length+5:=by
 induction m with
 | zero =>
  intro bs h
  rw [storeL,dif_pos (by omega)]
  simp [headS]
  omega
 | succ m ih =>
  intro bs h
  rw [storeL]
  split
  ·simp [headS];omega
  ·next hn =>
   have:=ih (bs.drop 65535) (by simp;omega)
   rw [List.length_drop] at this
   simp only [headS,List.length_append,List.length_cons,List.length_nil,List.length_take]
   omega
theorem xor255:∀x:Nat,x<256→255 ^^^ x=255-x:=by decide +kernel
section
variable {w:World}
theorem Store_spec {b:Slc} {bs:List UInt8} {K:Slc→World→Prop} (hb:Rd E_uint8 w b bs) (hl:bs.length≤1000000000)
  (hK:∀r w',Own E_uint8 w' w.heap.size r (storeL bs)→Below w.heap.size w w'→K r w'):c_inflate_Store b w K:=by
 refine call_inflate_Store _ ?_
 unfold sh_inflate_Store
 have hsl:=storeL_length _ bs (Nat.le_refl _)
 refine loopP_rule_w (fun m (s:Slc×Slc×Unit) w1=>∃rest done,m=rest.length∧rest.length≤bs.length∧storeL bs=done++storeL rest∧Rd E_uint8 w s.1 rest∧Own E_uint8 w1 w.heap.size s.2.1 done∧Below w.heap.size w w1) bs.length ⟨bs,[],rfl,Nat.le_refl _,rfl,hb,Own.nil _ _ _,Below.refl _ _⟩ ?_
 rintro m ⟨s,t,_⟩ w1 ⟨rest,done,rfl,hrl,hst,hr,ho,hB⟩ I hI
 dsimp only at *
 rw [hr.n]
 have hs1:=hB.size
 have hdl:done.length+(storeL rest).length≤6*bs.length+5:=by
  rw [hst,List.length_append] at hsl;exact hsl
 obtain ⟨n,hn⟩:∃n:Nat,n=min 65535 rest.length:=⟨_,rfl⟩
 have en:(if (65535:Int)<((rest.length:Nat):Int) then (65535:Int) else ((rest.length:Nat):Int))=(n:Int):=by
  split<;>omega
 rw [en]
 refine jpO fun J hJ=>?_
 have go:∀lastN:Nat,(lastN=1∧n=rest.length∨lastN=0∧n=65535∧65535<rest.length)→J ((lastN:Int),()) w1:=fun lastN hlast=>hJ _ _ (by
  clear hJ
  dsimp only
  refine ⟨by decide,by decide,?_⟩
  have w1b:IntKind.u8.wrap (n:Int)=(((UInt8.ofNat (n%256)).toNat:Nat):Int):=by
   rw [wrap8_u8]
   show (((UInt8.ofNat ((n:Int)%256).toNat).toNat:Nat):Int)=_
   rw [UInt8.toNat_ofNat',UInt8.toNat_ofNat']
   omega
  have w2b:IntKind.u8.wrap ((n:Int).fdiv (2^(min ((8:Int)).toNat IntKind.i64.bits)))=(((UInt8.ofNat (n/256)).toNat:Nat):Int):=by
   rw [show min ((8:Int)).toNat IntKind.i64.bits=8 by decide,fdiv_nat,wrap8_u8]
   show (((UInt8.ofNat (((n/2^8:Nat):Int)%256).toNat).toNat:Nat):Int)=_
   rw [UInt8.toNat_ofNat',UInt8.toNat_ofNat']
   omega
  have c1:(UInt8.ofNat (n%256)).toNat=n%256:=by rw [UInt8.toNat_ofNat'];omega
  have c2:(UInt8.ofNat (n/256)).toNat=n/256:=by rw [UInt8.toNat_ofNat'];omega
  have x1:bitsR .xor .u8 (255) (((UInt8.ofNat (n%256)).toNat:Nat):Int)=(((UInt8.ofNat (255-n%256)).toNat:Nat):Int):=by
   rw [show (255:Int)=((255:Nat):Int) from rfl,bits_xor .u8 (by decide) (by show _<2^8;omega),c1,xor255 _ (by omega),UInt8.toNat_ofNat']
   omega
  have x2:bitsR .xor .u8 (255) (((UInt8.ofNat (n/256)).toNat:Nat):Int)=(((UInt8.ofNat (255-n/256)).toNat:Nat):Int):=by
   rw [show (255:Int)=((255:Nat):Int) from rfl,bits_xor .u8 (by decide) (by show _<2^8;omega),c2,xor255 _ (by omega),UInt8.toNat_ofNat']
   omega
  have l1:((lastN:Nat):Int)=(((UInt8.ofNat lastN).toNat:Nat):Int):=by rw [UInt8.toNat_ofNat'];omega
  rw [w2b,w1b,x1,x2]
  conv=>arg 2;rw [l1]
  refine nwb fun w2 hb2 hB2 hs2=>?_
  have hs2':w1.heap.size≤w2.heap.size:=hB2.size
  have hhd:Rd E_uint8 w2 ⟨some ⟨w1.heap.size,0,none⟩,5,5⟩ (headS lastN n):=rd_lits (E:=E_uint8) (ys:=headS lastN n) hb2 (by simp [maxLen,headS]) rfl
  have hsr:5+n≤(storeL rest).length:=by
   rw [storeL]
   split
   ·simp [headS];omega
   ·simp [headS];omega
  have h5:(headS lastN n).length=5:=rfl
  refine apB (ho.ext hB2) hhd (by omega) (by omega) fun r3 w3 ho3 hc3 hq3=>?_
  have hs3:=hc3.size
  have own1:∀i,i<w.heap.size→¬t.blk=some i:=fun i hi e=>by have:=(ho.lt i e).1;omega
  have hB3:Below w.heap.size w w3:=(hB.trans (hB2.mono hs1)).trans (hc3.below (by omega) own1)
  refine hr.slK (l:=0) (m:=n) rfl (.inl ⟨rfl,rfl⟩) (.inr rfl) (by omega) (by omega) fun hp=>?_
  rw [List.drop_zero] at hp
  have htl:(rest.take n).length=n:=by rw [List.length_take];omega
  have h5':(done++headS lastN n).length=done.length+5:=by rw [List.length_append,h5]
  refine apB ho3 (hp.ext hB3) (by omega) (by omega) fun r4 w4 ho4 hc4 hq4=>?_
  have hs4:=hc4.size
  have own3:∀i,i<w.heap.size→¬r3.blk=some i:=fun i hi e=>by have:=(ho3.lt i e).1;omega
  have hB4:Below w.heap.size w w4:=hB3.trans (hc4.below (by omega) own3)
  refine hr.slK (l:=n) (m:=rest.length) rfl (.inr rfl) (.inl ⟨rfl,rfl⟩) (by omega) (Nat.le_refl _) fun hp2=>?_
  rw [List.take_length] at hp2
  refine cO (fun e1=>?_) (fun e0=>?_)
  ·have e1:lastN=1:=by have:=eq_of_beq e1;omega
   have hnr:n=rest.length:=by rcases hlast with ⟨_,h⟩ | ⟨h,_⟩<;>omega
   refine hK r4 w4 ?_ hB4
   have:storeL bs=done++headS lastN n++rest.take n:=by
    rw [hst,storeL,dif_pos (by omega),e1,hnr,List.take_length,List.append_assoc]
   rw [this]
   exact ho4
  ·have e0:lastN≠1:=by intro e;subst e;exact absurd rfl (beq_eq_false_iff_ne.1 e0)
   obtain ⟨hn65,hlong⟩:n=65535∧65535<rest.length:=by rcases hlast with ⟨h,_⟩ | ⟨_,h⟩;exact absurd h e0;exact h
   have hl0:lastN=0:=by rcases hlast with ⟨h,_⟩ | ⟨h,_⟩;exact absurd h e0;exact h
   refine hI (rest.length-n) _ w4 ⟨rest.drop n,done++headS lastN n++rest.take n,by rw [List.length_drop],by rw [List.length_drop];omega,?_,hp2,ho4,hB4⟩ (by omega)
   rw [hst]
   conv=>lhs;rw [storeL,dif_neg (by omega)]
   rw [hl0,hn65,List.append_assoc,List.append_assoc,List.append_assoc])
 refine cO (fun e=>?_) (fun e=>?_)
 ·have e:n=rest.length:=by have:=eq_of_beq e;omega
  exact go 1 (.inl ⟨rfl,e⟩)
 ·have e:n≠rest.length:=by have:=beq_eq_false_iff_ne.1 e;omega
  exact go 0 (.inr ⟨rfl,by omega,by omega⟩)
end
end Go.Proofs.YtmagnpcgpinmcaaGreat
namespace Go.Proofs.YtmagnpcgpinmcaaGreat
open Go.Vc Go.RowKit
set_option maxRecDepth 400000
theorem peek_at {B xs tail:List UInt8} {k:Nat} {x:UInt8} (h:B.drop k=x::xs):peekN B (8*k) 8=x.toNat∧k<B.length∧B.drop (k+1)=xs:=by
 have hk:k<B.length:=by
  have:=congrArg List.length h
  rw [List.length_drop,List.length_cons] at this
  omega
 have h2:=List.drop_eq_getElem_cons hk
 rw [h] at h2
 injection h2 with h3 h4
 exact ⟨by rw [peekN_byte B k hk,h3],hk,h4.symm⟩
theorem run_bytes {most:Nat} {B tail:List UInt8}:∀(xs:List UInt8) (k:Nat) (c:Cfg),B.drop k=xs++tail→c.mode=2→c.left=xs.length→c.hist.length+xs.length≤most →
  Ch most B c (8*k) ({ c with left:=0,hist:=c.hist++xs }:Cfg).behind (8*(k+xs.length))
 | [],k,c,h,hm,hl,_=>by
  have hl:c.left=0:=hl
  have hs:step1 most B (8*k) c=.next c.behind (8*k):=by
   rw [step1,if_neg (by omega),stepN,if_neg (by omega),if_neg (by omega),if_pos hm,stepByte,if_pos hl]
  have e:({ c with left:=0,hist:=c.hist++[] }:Cfg)=c:=by
   cases c;simp at hl ⊢;exact hl.symm
  rw [e]
  exact .step hs (.refl _ _)
 | x::xs,k,c,h,hm,hl,hmost=>by
  obtain ⟨h1,h2,h3⟩:=peek_at (tail:=[]) (xs:=xs++tail) h
  rw [List.length_cons] at hl hmost
  have hs:step1 most B (8*k) c=.next { c with left:=c.left-1,hist:=c.hist++[x] } (8*k+8):=by
   rw [step1,if_neg (by omega),stepN,if_neg (by omega),if_neg (by omega),if_pos hm,stepByte,if_neg (by omega),if_neg (by omega),if_neg (by omega),h1,UInt8.ofNat_toNat]
  refine .step hs ?_
  have ih:=run_bytes (most:=most) xs (k+1) { c with left:=c.left-1,hist:=c.hist++[x] } h3 hm (by show c.left-1=_;omega) (by simp;omega)
  rw [show 8*k+8=8*(k+1) by omega,List.length_cons,show k+(xs.length+1)=k+1+xs.length by omega]
  have e:c.hist++[x]++xs=c.hist++x::xs:=by simp
  simp only [e] at ih
  exact ih
theorem xor16 {n:Nat} (h:n≤65535):n ^^^ (65535-n)=65535:=by
 apply Nat.eq_of_testBit_eq
 intro i
 rw [Nat.testBit_xor]
 by_cases hi:i<16
 ·have:(65535-n).testBit i=!n.testBit i:=by
   have:=Nat.testBit_two_pow_sub_succ (x:=n) (n:=16) (by omega) i
   rw [show 2^16-(n+1)=65535-n by omega] at this
   rw [this,decide_eq_true hi,Bool.true_and]
  rw [this]
  have h2:(65535:Nat).testBit i=true:=by
   rw [show 65535=2^16-1 by rfl,Nat.testBit_two_pow_sub_one,decide_eq_true hi]
  rw [h2]
  cases n.testBit i<;>rfl
 ·have p:2^16≤2^i:=Nat.pow_le_pow_right (by decide) (by omega)
  rw [Nat.testBit_lt_two_pow (by omega),Nat.testBit_lt_two_pow (by omega),Nat.testBit_lt_two_pow (by omega)]
  rfl
theorem run_block {most:Nat} {B xs tail:List UInt8} {last k:Nat} {c:Cfg} (h:B.drop k=headS last xs.length++(xs++tail)) (hla:last≤1) (hm:c.mode=0) (hn:xs.length≤65535) (hmost:c.hist.length+xs.length≤most) :
  Ch most B c (8*k) { c with mode:=if last=1 then 5 else 0,last:=last%2==1,left:=0,hist:=c.hist++xs } (8*(k+5+xs.length)):=by
 have h0:B.drop k=UInt8.ofNat last::(UInt8.ofNat (xs.length%256)::UInt8.ofNat (xs.length/256)::UInt8.ofNat (255-xs.length%256)::UInt8.ofNat (255-xs.length/256)::(xs++tail)):=h
 obtain ⟨p0,l0,d1⟩:=peek_at (tail:=[]) h0
 obtain ⟨p1,l1,d2⟩:=peek_at (tail:=[]) d1
 obtain ⟨p2,l2,d3⟩:=peek_at (tail:=[]) d2
 obtain ⟨p3,l3,d4⟩:=peek_at (tail:=[]) d3
 obtain ⟨p4,l4,d5⟩:=peek_at (tail:=[]) d4
 rw [UInt8.toNat_ofNat'] at p0 p1 p2 p3 p4
 have v0:peekN B (8*k) 3=last:=by
  have:=peekN_mod B (8*k) 3 8 (by decide)
  rw [p0] at this
  omega
 have v1:peekN B (8*k+8) 16=xs.length:=by
  rw [show 16=8+8 by rfl,peekN_add,show 8*k+8=8*(k+1) by omega,p1,show 8*(k+1)+8=8*(k+1+1) by omega,p2]
  omega
 have v2:peekN B (8*k+8+16) 16=65535-xs.length:=by
  rw [show 16=8+8 by rfl,peekN_add,show 8*k+8+(8+8)=8*(k+1+1+1) by omega,p3,show 8*(k+1+1+1)+8=8*(k+1+1+1+1) by omega,p4]
  omega
 have s1:step1 most B (8*k) c=.next { c with last:=last%2==1,mode:=1 } (8*k+3):=by
  rw [step1,if_neg (by omega),stepN,if_pos hm,stepHead,if_neg (by omega),v0]
  dsimp only
  rw [if_pos (by omega)]
 have up:up8 (8*k+3)=8*k+8:=by unfold up8;omega
 have s2:step1 most B (8*k+3) { c with last:=last%2==1,mode:=1 }=.next { c with last:=last%2==1,mode:=2,left:=xs.length } (8*(k+5)):=by
  rw [step1,if_neg (by decide:¬(1:Nat)=5),stepN,if_neg (by decide:¬(1:Nat)=0),if_pos rfl,stepStored,up,if_neg (by omega),v1,v2,xor16 hn,if_neg (by decide)]
  congr 1
 refine .step s1 (.step s2 ?_)
 have hb:=run_bytes (most:=most) (B:=B) (tail:=tail) xs (k+5) { c with last:=last%2==1,mode:=2,left:=xs.length } d5 rfl rfl hmost
 have e:({ c with last:=last%2==1,mode:=if last=1 then 5 else 0,left:=0,hist:=c.hist++xs }:Cfg)=({ c with last:=last%2==1,mode:=2,left:=0,hist:=c.hist++xs }:Cfg).behind:=by
  unfold Cfg.behind
  dsimp only
  congr 1
  have:last=0∨last=1:=by omega
  rcases this with rfl | rfl<;>rfl
 rw [e]
 exact hb
theorem run_store {most:Nat} {B tail:List UInt8} (m:Nat):∀(bs:List UInt8) (k:Nat) (c:Cfg),bs.length≤m→B.drop k=storeL bs++tail→c.mode=0→c.hist.length+bs.length≤most →
  ∃c',Ch most B c (8*k) c' (8*(k+(storeL bs).length))∧c'.mode=5∧c'.hist=c.hist++bs:=by
 have short:∀(bs:List UInt8) (k:Nat) (c:Cfg),bs.length≤65535→B.drop k=storeL bs++tail→c.mode=0→c.hist.length+bs.length≤most →
  ∃c',Ch most B c (8*k) c' (8*(k+(storeL bs).length))∧c'.mode=5∧c'.hist=c.hist++bs:=by
  intro bs k c hs h hm hmost
  have es:storeL bs=headS 1 bs.length++bs:=by rw [storeL,dif_pos hs]
  rw [es] at h ⊢
  rw [List.append_assoc] at h
  have:=run_block (last:=1) h (by decide) hm hs hmost
  refine ⟨{ c with mode:=5,last:=1%2==1,left:=0,hist:=c.hist++bs },?_,rfl,rfl⟩
  rw [List.length_append,show (headS 1 bs.length).length=5 from rfl,←Nat.add_assoc]
  exact this
 induction m with
 | zero=>intro bs k c hb;exact short bs k c (by omega)
 | succ m ih =>
  intro bs k c hb h hm hmost
  by_cases hs:bs.length≤65535
  ·exact short bs k c hs h hm hmost
  ·have es:storeL bs=headS 0 65535++bs.take 65535++storeL (bs.drop 65535):=by rw [storeL,dif_neg hs]
   rw [es] at h ⊢
   have htl:(bs.take 65535).length=65535:=by rw [List.length_take];omega
   have h1:B.drop k=headS 0 (bs.take 65535).length++(bs.take 65535++(storeL (bs.drop 65535)++tail)):=by
    rw [h,htl];simp only [List.append_assoc]
   have r1:=run_block (most:=most) (last:=0) h1 (by decide) hm (by omega) (by omega)
   rw [htl] at r1
   have hd:B.drop (k+5+65535)=storeL (bs.drop 65535)++tail:=by
    rw [Nat.add_assoc,←List.drop_drop,h,List.append_assoc,List.drop_append_of_le_length (by simp [headS];omega)]
    rw [List.drop_of_length_le (by simp [headS];omega),List.nil_append]
   obtain ⟨c',hc',hm',hh'⟩:=ih (bs.drop 65535) (k+5+65535) { c with mode:=0,last:=0%2==1,left:=0,hist:=c.hist++bs.take 65535 } (by simp;omega) hd rfl (by
    show (c.hist++bs.take 65535).length+_≤_
    simp;omega)
   refine ⟨c',?_,hm',?_⟩
   ·have e:k+5+65535+(storeL (bs.drop 65535)).length=k+(headS 0 65535++bs.take 65535++storeL (bs.drop 65535)).length:=by
     rw [List.length_append,List.length_append,htl,show (headS 0 65535).length=5 from rfl];omega
    rw [←e]
    exact r1.trans hc'
   ·rw [hh']
    show c.hist++bs.take 65535++_=_
    rw [List.append_assoc,List.take_append_drop]
end Go.Proofs.YtmagnpcgpinmcaaGreat
namespace Go.Proofs.YtmagnpcgpinmcaaGreat
open Go.Vc Go.RowKit
set_option maxRecDepth 400000
theorem revN_succ (v k:Nat):revN v (k+1)=revN (v/2) k+2^k*(v%2):=by
 induction k generalizing v with
 | zero=>show 2*0+v/2^0%2=0+2^0*(v%2);simp
 | succ k ih =>
  show 2*revN v (k+1)+v/2^(k+1)%2=(2*revN (v/2) k+v/2/2^k%2)+2^(k+1)*(v%2)
  rw [ih,Nat.div_div_eq_div_mul,show 2*2^k=2^(k+1) by rw [Nat.pow_succ,Nat.mul_comm],Nat.mul_add,←Nat.mul_assoc,show 2*2^k=2^(k+1) by rw [Nat.pow_succ,Nat.mul_comm]]
  omega
theorem msb_peek {B:List UInt8} {a:Nat} (k:Nat):∀v,v<2^k→peekN B a k=revN v k→msb B a k=v:=by
 induction k with
 | zero=>intro v hv _;show 0=v;simp at hv;omega
 | succ k ih =>
  intro v hv h
  rw [peekN_add,revN_succ] at h
  have h1:=peekN_lt B a k
  have h2:=revN_lt (v/2) k
  have h3:=peekN_lt B (a+k) 1
  have e1:=congrArg (·%2^k) h
  have e2:=congrArg (·/2^k) h
  simp only [Nat.add_mul_mod_self_left,Nat.mod_eq_of_lt h1,Nat.mod_eq_of_lt h2,Nat.add_mul_div_left _ _ (Nat.pow_pos (n:=k) (by decide:0<2)),Nat.div_eq_of_lt h1,Nat.div_eq_of_lt h2,Nat.zero_add] at e1 e2
  rw [Nat.pow_succ] at hv
  rw [msb,ih (v/2) (by omega) e1,e2]
  omega
def sortF:List Nat:=(List.range 24).map (256+·)++(List.range 144++((List.range 8).map (280+·)++(List.range 112).map (144+·)))
theorem sortF_eq:sortedK fixedL 15=sortF:=by decide +kernel
theorem sortF7:∀i,i<24→sortF.getD i 0=256+i:=by decide +kernel
theorem sortF8:∀i,i<152→sortF.getD (24+i) 0=if i<144 then i else 280+(i-144):=by decide +kernel
theorem sortF9:∀i,i<112→sortF.getD (176+i) 0=144+i:=by decide +kernel
theorem lastF:lastK fixedL=9:=by decide +kernel
def codeF (y:Nat):Nat:=if y<144 then 48+y else if y<256 then 400+(y-144) else if y<280 then y-256 else 192+(y-280)
theorem codeF_eq:∀y,y<288→codeK fixedL (kN y) y=codeF y:=by decide +kernel
theorem kN_eq {y:Nat} (h:y<288):kN y=if y<144 then 8 else if y<256 then 9 else if y<280 then 7 else 8:=by
 unfold kN
 rw [fixedL_get y h]
 show (if y<144 then (8:UInt8) else if y<256 then 9 else if y<280 then 7 else 8).toNat=_
 repeat' split
 all_goals rfl
end Go.Proofs.YtmagnpcgpinmcaaGreat
namespace Go.Proofs.YtmagnpcgpinmcaaGreat
open Go.Vc Go.RowKit
set_option maxRecDepth 400000
theorem lowF:∀j,j<7→firstK fixedL j+cntK fixedL j=0:=by decide +kernel
theorem topF:firstK fixedL 7+cntK fixedL 7=24∧firstK fixedL 7=0∧offK fixedL 7=0∧firstK fixedL 8+cntK fixedL 8=200∧firstK fixedL 8=48∧offK fixedL 8=24∧firstK fixedL 9+cntK fixedL 9=512∧firstK fixedL 9=400∧offK fixedL 9=176:=by decide +kernel
section
variable {B:List UInt8} {a:Nat}
theorem readGo_low (n j:Nat) (h:j<7):readGo fixedL B a (n+1) j=if 8*B.length-a<j then .short else readGo fixedL B a n (j+1):=by
 rw [readGo,lastF,if_neg (by omega),lowF j h]
 by_cases hl:8*B.length-a<j
 ·rw [if_pos (by omega),if_pos hl]
 ·rw [if_neg (by omega),if_neg hl,if_neg (Nat.not_lt_zero _)]
theorem readF (h:7≤8*B.length-a):readT fixedL B a=if msb B a 7<24 then .sym (256+msb B a 7) 7 else if 8*B.length-a<8 then .short else if msb B a 8<200 then .sym (if msb B a 8<192 then msb B a 8-48 else 280+(msb B a 8-192)) 8 else if 8*B.length-a<9 then .short else .sym (144+(msb B a 9-400)) 9:=by
 obtain ⟨t1,t2,t3,t4,t5,t6,t7,t8,t9⟩:=topF
 unfold readT
 rw [readGo_low _ _ (by decide),readGo_low _ _ (by decide),readGo_low _ _ (by decide),readGo_low _ _ (by decide),readGo_low _ _ (by decide),readGo_low _ _ (by decide)]
 rw [if_neg (by omega),if_neg (by omega),if_neg (by omega),if_neg (by omega),if_neg (by omega),if_neg (by omega)]
 rw [readGo,lastF,if_neg (by decide),if_neg (by omega)]
 have e7:1+1+1+1+1+1+1=7:=rfl
 rw [e7,t1,t2,t3,sortF_eq,Nat.zero_add,Nat.sub_zero]
 have b8:=peekN_lt B (a+7) 1
 have b9:=peekN_lt B (a+8) 1
 have m8:msb B a 8=2*msb B a 7+peekN B (a+7) 1:=rfl
 have m9:msb B a 9=2*msb B a 8+peekN B (a+8) 1:=rfl
 have l9:=msb_lt B a 9
 by_cases h7:msb B a 7<24
 ·rw [if_pos h7,if_pos h7,sortF7 _ h7]
 rw [if_neg h7,if_neg h7,readGo,lastF,if_neg (by decide),show 7+1=8 from rfl]
 by_cases h8:8*B.length-a<8
 ·rw [if_pos (by omega),if_pos h8]
 rw [if_neg (by omega),if_neg h8,t4,t5,t6,sortF_eq]
 by_cases h8':msb B a 8<200
 ·rw [if_pos h8',if_pos h8',sortF8 _ (by omega)]
  congr 1
  split<;>split<;>omega
 rw [if_neg h8',if_neg h8',readGo,lastF,if_neg (by decide),show 8+1=9 from rfl]
 by_cases h9:8*B.length-a<9
 ·rw [if_pos (by omega),if_pos h9]
 rw [if_neg (by omega),if_neg h9,t7,t8,t9,sortF_eq,if_pos (by omega),sortF9 _ (by omega)]
theorem read_sym {y:Nat} (hy:y<288) (hl:a+kN y≤8*B.length) (h:peekN B a (kN y)=symN y):readT fixedL B a=.sym y (kN y):=by
 have ek:=kN_eq hy
 have hc:=codeF_eq y hy
 have h:peekN B a (kN y)=revN (codeF y) (kN y):=by rw [h,symN,hc]
 have b8:=peekN_lt B (a+7) 1
 have b9:=peekN_lt B (a+8) 1
 have m8:msb B a 8=2*msb B a 7+peekN B (a+7) 1:=rfl
 have m9:msb B a 9=2*msb B a 8+peekN B (a+8) 1:=rfl
 unfold codeF at h
 by_cases h1:y<144
 ·rw [if_pos h1] at ek h
  rw [ek] at h hl ⊢
  have hm:=msb_peek 8 (48+y) (by omega) h
  rw [readF (by omega),if_neg (by omega),if_neg (by omega),if_pos (by omega),if_pos (by omega),hm]
  congr 1;omega
 rw [if_neg h1] at ek h
 by_cases h2:y<256
 ·rw [if_pos h2] at ek h
  rw [ek] at h hl ⊢
  have hm:=msb_peek 9 (400+(y-144)) (by omega) h
  rw [readF (by omega),if_neg (by omega),if_neg (by omega),if_neg (by omega),if_neg (by omega),hm]
  congr 1;omega
 rw [if_neg h2] at ek h
 by_cases h3:y<280
 ·rw [if_pos h3] at ek h
  rw [ek] at h hl ⊢
  have hm:=msb_peek 7 (y-256) (by omega) h
  rw [readF (by omega),if_pos (by omega),hm]
  congr 1;omega
 rw [if_neg h3] at ek h
 rw [ek] at h hl ⊢
 have hm:=msb_peek 8 (192+(y-280)) (by omega) h
 rw [readF (by omega),if_neg (by omega),if_neg (by omega),if_pos (by omega),if_neg (by omega),hm]
 congr 1;omega
theorem run_lit {most:Nat} {c:Cfg} {b:UInt8} (hm:c.mode=4) (hs:c.sg=fixedL) (hl:a+kN b.toNat≤8*B.length) (h:peekN B a (kN b.toNat)=symN b.toNat) (hh:c.hist.length<most) :
  step1 most B a c=.next { c with hist:=c.hist++[b] } (a+kN b.toNat):=by
 have hb:=b.toNat_lt
 rw [step1,if_neg (by omega),stepN,if_neg (by omega),if_neg (by omega),if_neg (by omega),if_neg (by omega),stepCode,hs,read_sym (by omega) hl h]
 dsimp only
 rw [if_neg (by omega),if_neg (by omega),if_pos (by omega),if_neg (by omega),UInt8.ofNat_toNat]
theorem run_end {most:Nat} {c:Cfg} (hm:c.mode=4) (hs:c.sg=fixedL) (hl:a+kN 256≤8*B.length) (h:peekN B a (kN 256)=symN 256) :
  step1 most B a c=.next c.behind (a+kN 256):=by
 rw [step1,if_neg (by omega),stepN,if_neg (by omega),if_neg (by omega),if_neg (by omega),if_neg (by omega),stepCode,hs,read_sym (by omega) hl h]
 rfl
theorem peek_num {p:Nat×Nat} {y:Nat} {W:Nat} (hW:le B=(putN p y).1+2^(putN p y).2*W) (hp:p.1<2^p.2) (hy:symN y<2^kN y):peekN B p.2 (kN y)=symN y:=by
 unfold peekN
 rw [hW]
 show (p.1+2^p.2*symN y+2^(p.2+kN y)*W)/2^p.2%2^kN y=symN y
 rw [Nat.pow_add,Nat.mul_assoc,Nat.add_assoc,←Nat.mul_add,Nat.add_mul_div_left _ _ (Nat.pow_pos (by decide)),Nat.div_eq_of_lt hp,Nat.zero_add,Nat.add_mul_mod_self_left,Nat.mod_eq_of_lt hy]
theorem symN_lt (y:Nat):symN y<2^kN y:=revN_lt _ _
theorem putN_lt {p:Nat×Nat} (hp:p.1<2^p.2) (y:Nat):(putN p y).1<2^(putN p y).2:=by
 show p.1+2^p.2*symN y<2^(p.2+kN y)
 have:=symN_lt y
 rw [Nat.pow_add]
 have h2:2^p.2*symN y+2^p.2≤2^p.2*2^kN y:=by rw [←Nat.mul_succ];exact Nat.mul_le_mul_left _ this
 omega
end
def Goes (p q:Nat×Nat):Prop:=p.2≤q.2∧∃W,q.1=p.1+2^p.2*W
theorem Goes.refl (p:Nat×Nat):Goes p p:=⟨Nat.le_refl _,0,by simp⟩
theorem Goes.put (p:Nat×Nat) (y:Nat):Goes p (putN p y):=⟨Nat.le_add_right _ _,symN y,rfl⟩
theorem Goes.trans {p q r:Nat×Nat} (h:Goes p q) (h':Goes q r):Goes p r:=by
 obtain ⟨h1,W,h2⟩:=h
 obtain ⟨h3,V,h4⟩:=h'
 refine ⟨by omega,W+2^(q.2-p.2)*V,?_⟩
 rw [h4,h2,Nat.mul_add,←Nat.mul_assoc,←Nat.pow_add,show p.2+(q.2-p.2)=q.2 by omega,Nat.add_assoc]
def foldN (p:Nat×Nat) (bs:List UInt8):Nat×Nat:=bs.foldl (fun p b=>putN p b.toNat) p
theorem foldN_goes (bs:List UInt8):∀p,Goes p (foldN p bs):=by
 induction bs with
 | nil=>intro p;exact Goes.refl p
 | cons b r ih=>intro p;exact (Goes.put p b.toNat).trans (ih _)
theorem run_lits {most:Nat} {B:List UInt8}:∀(bs:List UInt8) (p:Nat×Nat) (c:Cfg) (W:Nat),le B=(foldN p bs).1+2^(foldN p bs).2*W→(foldN p bs).2≤8*B.length→p.1<2^p.2→c.mode=4→c.sg=fixedL→c.hist.length+bs.length≤most →
  Ch most B c p.2 { c with hist:=c.hist++bs } (foldN p bs).2
 | [],p,c,W,_,_,_,_,_,_=>by
  have e:({ c with hist:=c.hist++[] }:Cfg)=c:=by cases c;simp
  rw [e]
  exact .refl _ _
 | b::bs,p,c,W,hW,hl,hp,hm,hs,hh=>by
  rw [List.length_cons] at hh
  have hf:foldN p (b::bs)=foldN (putN p b.toNat) bs:=rfl
  rw [hf] at hW hl ⊢
  obtain ⟨g1,V,g2⟩:=(foldN_goes bs (putN p b.toNat)).trans ⟨Nat.le_refl _,0,rfl⟩
  have hW2:∃W2,le B=(putN p b.toNat).1+2^(putN p b.toNat).2*W2:=by
   obtain ⟨g1,V,g2⟩:=foldN_goes bs (putN p b.toNat)
   refine ⟨V+2^((foldN (putN p b.toNat) bs).2-(putN p b.toNat).2)*W,?_⟩
   rw [hW,g2,Nat.mul_add,←Nat.mul_assoc,←Nat.pow_add,show (putN p b.toNat).2+((foldN (putN p b.toNat) bs).2-(putN p b.toNat).2)=(foldN (putN p b.toNat) bs).2 by omega,Nat.add_assoc]
  obtain ⟨W2,hW2⟩:=hW2
  have hpk:=peek_num hW2 hp (symN_lt _)
  have e2:(putN p b.toNat).2=p.2+kN b.toNat:=rfl
  have hst:=run_lit (most:=most) hm hs (by omega) hpk (by omega)
  refine .step hst ?_
  have ih:=run_lits (most:=most) bs (putN p b.toNat) { c with hist:=c.hist++[b] } W hW hl (putN_lt hp _) hm hs (by simp;omega)
  have e:c.hist++[b]++bs=c.hist++b::bs:=by simp
  simp only [e] at ih
  exact ih
theorem run_fixed {most:Nat} {ys tail bs:List UInt8} (h1:le ys=(fixedN bs).1) (h2:ys.length=((fixedN bs).2+7)/8) (hmost:bs.length≤most) :
  ∃c',Ch most (ys++tail) cfg0 0 c' (fixedN bs).2∧c'.mode=5∧c'.hist=bs:=by
 have hB:le (ys++tail)=(fixedN bs).1+2^(fixedN bs).2*(2^(8*ys.length-(fixedN bs).2)*le tail):=by
  rw [le_append,h1,pow256,←Nat.mul_assoc,←Nat.pow_add,show (fixedN bs).2+(8*ys.length-(fixedN bs).2)=8*ys.length by omega]
 have hBl:(ys++tail).length=ys.length+tail.length:=List.length_append
 have hg:Goes (3,3) (bytesN bs):=foldN_goes bs (3,3)
 have hg2:Goes (bytesN bs) (fixedN bs):=Goes.put _ _
 have lt3:(3:Nat)<2^3:=by decide
 have ltb:(bytesN bs).1<2^(bytesN bs).2:=by
  suffices H:∀(l:List UInt8) (p:Nat×Nat),p.1<2^p.2→(foldN p l).1<2^(foldN p l).2 from H bs (3,3) lt3
  intro l
  induction l with
  | nil=>intro p h;exact h
  | cons b r ih=>intro p h;exact ih _ (putN_lt h _)
 have e256:(fixedN bs).2=(bytesN bs).2+kN 256:=rfl
 have hW:∀q,Goes q (fixedN bs)→∃W,le (ys++tail)=q.1+2^q.2*W:=by
  rintro q ⟨g1,V,g2⟩
  refine ⟨V+2^((fixedN bs).2-q.2)*(2^(8*ys.length-(fixedN bs).2)*le tail),?_⟩
  rw [hB,g2,Nat.mul_add,←Nat.mul_assoc (2^q.2) (2^_) _,←Nat.pow_add,show q.2+((fixedN bs).2-q.2)=(fixedN bs).2 by omega,Nat.add_assoc]
 obtain ⟨W3,hW3⟩:=hW (3,3) (hg.trans hg2)
 have hv:peekN (ys++tail) 0 3=3:=by
  unfold peekN
  rw [hW3]
  show (3+2^3*W3)/2^0%2^3=3
  omega
 have hg1:=hg.1
 have hg21:=hg2.1
 have s1:step1 most (ys++tail) 0 cfg0=.next { cfg0 with mode:=4,last:=true,sg:=fixedL,ds:=fiveL } 3:=by
  rw [step1,if_neg (show ¬cfg0.mode=5 by decide),stepN,if_pos (show cfg0.mode=0 from rfl),stepHead,if_neg (by have:(3:Nat)≤(bytesN bs).2:=hg1;omega),hv]
  rfl
 obtain ⟨Wb,hWb⟩:=hW (bytesN bs) hg2
 have r1:=run_lits (most:=most) (B:=ys++tail) bs (3,3) { cfg0 with mode:=4,last:=true,sg:=fixedL,ds:=fiveL } Wb hWb (by show (bytesN bs).2≤_;omega) lt3 rfl rfl (by show 0+bs.length≤most;omega)
 obtain ⟨We,hWe⟩:=hW (fixedN bs) (Goes.refl _)
 have hpk:=peek_num (B:=ys++tail) (p:=bytesN bs) (y:=256) hWe ltb (symN_lt _)
 refine ⟨_,.step s1 (r1.trans (.step (run_end (most:=most) rfl rfl (by show (bytesN bs).2+kN 256≤_;omega) hpk) (.refl _ _))),rfl,?_⟩
 show []++bs=bs
 rfl
end Go.Proofs.YtmagnpcgpinmcaaGreat
namespace Go.Proofs.YtmagnpcgpinmcaaGreat
open Go.Vc Go.RowKit
set_option maxRecDepth 400000
theorem step1_five {most:Nat} {B:List UInt8} {a:Nat} {c:Cfg} (h:c.mode=5):step1 most B a c=.short:=by rw [step1,if_pos h]
theorem Ch.same {most:Nat} {B:List UInt8} {c c1 c2:Cfg} {a a1 a2:Nat} (h1:Ch most B c a c1 a1) (h2:Ch most B c a c2 a2) (s1:∀c' a',step1 most B a1 c1≠.next c' a') (s2:∀c' a',step1 most B a2 c2≠.next c' a'):c1=c2∧a1=a2:=by
 induction h1 with
 | refl c a =>
  cases h2 with
  | refl=>exact ⟨rfl,rfl⟩
  | step h r=>exact absurd h (s1 _ _)
 | step h r ih =>
  cases h2 with
  | refl=>exact absurd h (s2 _ _)
  | step h' r' =>
   rw [h] at h'
   injection h' with e1 e2
   subst e1 e2
   exact ih r' s1
end Go.Proofs.YtmagnpcgpinmcaaGreat
namespace Go.Proofs.YtmagnpcgpinmcaaGreat
open Go.Vc Go.RowKit
set_option maxRecDepth 400000
theorem copyN_len {most far:Nat} {h':List UInt8}:∀(n:Nat) (h:List UInt8),copyN most far n h=some h'→h'.length=h.length+n
 | 0,h,e=>by injection e with e;subst e;rfl
 | n+1,h,e=>by
  rw [copyN] at e
  split at e
  ·cases e
  ·have:=copyN_len n _ e
   rw [this,List.length_append,List.length_cons,List.length_nil]
   omega
theorem copyN_cap {big small far:Nat} {h':List UInt8}:∀(n:Nat) (h:List UInt8),copyN big far n h=some h'→h.length≤small→copyN small far n h=if h'.length≤small then some h' else none
 | 0,h,e,hs=>by injection e with e;subst e;rw [if_pos hs];rfl
 | n+1,h,e,hs=>by
  have hl:=copyN_len _ _ e
  rw [copyN] at e ⊢
  split at e
  ·cases e
  ·by_cases h1:small≤h.length
   ·rw [if_pos h1,if_neg (by omega)]
   ·rw [if_neg h1]
    exact copyN_cap n _ e (by simp;omega)
theorem step1_cap {big small:Nat} {B:List UInt8} {a a1:Nat} {c c1:Cfg} (h:step1 big B a c=.next c1 a1) (hs:c.hist.length≤small):step1 small B a c=if c1.hist.length≤small then .next c1 a1 else .err 5:=by
 unfold step1 at h ⊢
 by_cases hm5:c.mode=5
 ·rw [if_pos hm5] at h;cases h
 rw [if_neg hm5] at h ⊢
 unfold stepN at h ⊢
 by_cases m0:c.mode=0
 ·rw [if_pos m0] at h ⊢
  rw [h]
  unfold stepHead at h
  dsimp only at h
  repeat' split at h
  all_goals first | (cases h;done) | (injection h with h1 h2;subst h1;rw [if_pos hs])
 rw [if_neg m0] at h ⊢
 by_cases m1:c.mode=1
 ·rw [if_pos m1] at h ⊢
  rw [h]
  unfold stepStored at h
  repeat' split at h
  all_goals first | (cases h;done) | (injection h with h1 h2;subst h1;rw [if_pos hs])
 rw [if_neg m1] at h ⊢
 by_cases m2:c.mode=2
 ·rw [if_pos m2] at h ⊢
  unfold stepByte at h ⊢
  split at h
  ·next h0=>injection h with h1 h2;subst h1 h2;rw [if_pos h0];exact (if_pos hs).symm
  ·next h0 =>
   rw [if_neg h0]
   split at h
   ·cases h
   ·next h3 =>
    rw [if_neg h3]
    split at h
    ·cases h
    ·injection h with h1 h2
     subst h1 h2
     show _=if (c.hist++[_]).length≤small then _ else _
     rw [List.length_append,List.length_cons,List.length_nil]
     by_cases h4:small≤c.hist.length
     ·rw [if_pos h4,if_neg (by omega)]
     ·rw [if_neg h4,if_pos (by omega)]
 rw [if_neg m2] at h ⊢
 by_cases m3:c.mode=3
 ·rw [if_pos m3] at h ⊢
  rw [h]
  unfold stepDyn at h
  dsimp only at h
  repeat' split at h
  all_goals first | (cases h;done) | (injection h with h1 h2;subst h1;rw [if_pos hs])
 rw [if_neg m3] at h ⊢
 unfold stepCode at h ⊢
 cases hr:readT c.sg B a with
 | short=>rw [hr] at h;cases h
 | form=>rw [hr] at h;cases h
 | sym y k =>
  rw [hr] at h
  dsimp only at h ⊢
  split at h
  ·next h0=>injection h with h1 h2;subst h1 h2;rw [if_pos h0];exact (if_pos hs).symm
  ·next h0 =>
   rw [if_neg h0]
   split at h
   ·cases h
   ·next h3 =>
    rw [if_neg h3]
    split at h
    ·next h5 =>
     rw [if_pos h5]
     split at h
     ·cases h
     ·injection h with h1 h2
      subst h1 h2
      show _=if (c.hist++[_]).length≤small then _ else _
      rw [List.length_append,List.length_cons,List.length_nil]
      by_cases h4:small≤c.hist.length
      ·rw [if_pos h4,if_neg (by omega)]
      ·rw [if_neg h4,if_pos (by omega)]
    ·next h5 =>
     rw [if_neg h5]
     obtain ⟨b,n,hbn⟩:∃b n,lenBase y=(b,n):=⟨_,_,rfl⟩
     simp only [hbn] at h ⊢
     split at h
     ·cases h
     ·next h6 =>
      rw [if_neg h6]
      cases hr2:readT c.ds B (a+k+n) with
      | short=>rw [hr2] at h;cases h
      | form=>rw [hr2] at h;cases h
      | sym z j =>
       rw [hr2] at h
       dsimp only at h ⊢
       split at h
       ·cases h
       ·next h7 =>
        rw [if_neg h7]
        obtain ⟨b2,n2,hbn2⟩:∃b n,distBase z=(b,n):=⟨_,_,rfl⟩
        simp only [hbn2] at h ⊢
        split at h
        ·cases h
        ·next h8 =>
         rw [if_neg h8]
         split at h
         ·cases h
         ·next h9 =>
          rw [if_neg h9]
          cases hc:copyN big (b2+peekN B (a+k+n+j) n2) (b+peekN B (a+k) n) c.hist with
          | none=>rw [hc] at h;cases h
          | some h' =>
           rw [hc] at h
           injection h with h1 h2
           subst h1 h2
           rw [copyN_cap _ _ hc hs]
           show _=if h'.length≤small then _ else _
           by_cases hh:h'.length≤small
           ·rw [if_pos hh,if_pos hh]
           ·rw [if_neg hh,if_neg hh]
theorem Ch.most {most:Nat} {B:List UInt8} {c c':Cfg} {a a':Nat} (h:Ch most B c a c' a') (hs:c.hist.length≤most):c'.hist.length≤most:=by
 induction h with
 | refl c a=>exact hs
 | @step c a c1 a1 c2 a2 h r ih =>
  refine ih ?_
  have h1:=step1_cap h hs
  by_cases hl:c1.hist.length≤most
  ·exact hl
  ·rw [if_neg hl,h] at h1
   cases h1
end Go.Proofs.YtmagnpcgpinmcaaGreat
namespace Go.Proofs.YtmagnpcgpinmcaaGreat
open Go.Vc Go.RowKit
set_option maxRecDepth 400000
section
variable {w:World}
end
end Go.Proofs.YtmagnpcgpinmcaaGreat
set_option linter.unusedVariables false
namespace Go.Proofs.YtmagnpcgpinmcaaGreat
open Go.Vc Go.RowKit
set_option maxRecDepth 400000
def strB (bs:List UInt8):ByteArray:=⟨bs.toArray⟩
theorem strB_toList (l:List UInt8):(strB l).toList=l:=by rw [ByteArray.toList_eq];rfl
theorem run_bytes_strB {w:World} {s:Slc} {bs:List UInt8} (h:Rd E_uint8 w s bs):(convert ty_sl_uint8 ty_string (.slice s.a s.n s.c)).run PG w=.ok (.string (strB bs)) w:=by
 cases ha:s.a with
 | none =>
  have:bs=[]:=by
   cases bs with
   | nil=>rfl
   | cons x r=>have:=h.some_ (by simp);rw [ha] at this;cases this
  subst this
  exact run_convert_bytes_nil (P:=PG) w ty_sl_uint8 ty_uint8 (by kernel_rfl) (by kernel_rfl) _ _ ty_string (by kernel_rfl)
 | some a =>
  have hn:=h.n
  have hl:(loadCells a bs.length).run PG w=.ok ((bs.map fun b=>Value.int .u8 b.toNat)).toArray w:=by
   have:=run_loadCells_list (P:=PG) w a (bs.map fun b=>Value.int .u8 b.toNat) (fun j v hj=>by
    rw [List.getElem?_map] at hj
    cases hb:bs[j]? with
    | none=>rw [hb] at hj;cases hj
    | some b =>
     rw [hb] at hj
     cases hj
     have:=h.at_ j b hb 0 (.int .u8 b.toNat) rfl
     simp only [Slc.at_,ha,Option.getD_some,add_zero] at this
     rwa [show j*E_uint8.k=j from Nat.mul_one j] at this)
   simpa using this
  have hb:=run_bytesToString w a s.n s.c (bs.map fun b=>(b.toNat:Int)) (by rw [hn,hl];simp)
  rw [run_convert_bytes_string w ty_sl_uint8 ty_string ty_uint8 _ s.n s.c (by kernel_rfl) (by kernel_rfl) (by kernel_rfl),hb,foldl_push_bytes]
  have e:(bs.map fun b=>(b.toNat:Int)).map (fun n=>UInt8.ofNat n.toNat)=bs:=by
   rw [List.map_map]
   conv=>rhs;rw [←List.map_id bs]
   refine List.map_congr_left fun b _=>?_
   simp
  rw [e]
  simp [strB,ByteArray.empty,ByteArray.emptyWithCapacity]
  rfl
end Go.Proofs.YtmagnpcgpinmcaaGreat
namespace Go.Proofs.YtmagnpcgpinmcaaGreat
open Go.Vc Go.RowKit
set_option maxRecDepth 400000
end Go.Proofs.YtmagnpcgpinmcaaGreat
namespace Go.Proofs.YtmagnpcgpinmcaaGreat
open Go.Vc Go.RowKit
set_option maxRecDepth 400000
end Go.Proofs.YtmagnpcgpinmcaaGreat
namespace Go.Proofs.YtmagnpcgpinmcaaGreat
open Go.Vc Go.RowKit
set_option maxRecDepth 400000
theorem fixedN_le (bs:List UInt8):(fixedN bs).2≤12+9*bs.length:=by
 have h:=bytesN_le bs
 obtain ⟨_,_,_,_,h9⟩:=kN_get (y:=256) (by decide)
 have e:(fixedN bs).2=(bytesN bs).2+kN 256:=rfl
 omega
end Go.Proofs.YtmagnpcgpinmcaaGreat
namespace Go.Proofs.YtmagnpcgpinmcaaGreat
open Go.Vc Go.RowKit
set_option maxRecDepth 400000
end Go.Proofs.YtmagnpcgpinmcaaGreat
namespace Go.Proofs.YtmagnpcgpinmcaaGreat
open Go.Vc Go.RowKit
set_option maxRecDepth 400000
abbrev fn_sums_Adler_Sum:Nat:=258
abbrev fn_sums_Adler_Write:Nat:=259
def adlStep (p:Nat×Nat) (b:UInt8):Nat×Nat:=((p.1+b.toNat)%65521,(p.2+(p.1+b.toNat)%65521)%65521)
def adl (bs:List UInt8):Nat×Nat:=bs.foldl adlStep (1,0)
def adlN (bs:List UInt8):Nat:=(adl bs).2*65536+(adl bs).1
theorem adl_lt (bs:List UInt8):∀p:Nat×Nat,p.1<65521→p.2<65521→(bs.foldl adlStep p).1<65521∧(bs.foldl adlStep p).2<65521:=by
 induction bs with
 | nil=>intro p h1 h2;exact ⟨h1,h2⟩
 | cons b r ih=>intro p _ _;exact ih _ (Nat.mod_lt _ (by decide)) (Nat.mod_lt _ (by decide))
theorem adlN_lt (bs:List UInt8):adlN bs<2^32:=by
 have h:=adl_lt bs (1,0) (by decide) (by decide)
 have h1:(adl bs).1<65521:=h.1
 have h2:(adl bs).2<65521:=h.2
 unfold adlN
 omega
theorem fold_snoc (p:Nat×Nat) (bs:List UInt8) (b:UInt8):(bs++[b]).foldl adlStep p=adlStep (bs.foldl adlStep p) b:=by simp
def adlCells (p:Nat×Nat):List Value:=[.int .u32 (p.1:Int),.int .u32 (p.2:Int)]
theorem Rd.blk_lt {T:Type} {E:El T} {w:World} {s:Slc} {xs:List T} (h:Rd E w s xs) (hne:xs≠[]):∀k,s.blk=some k→k<w.heap.size:=fun k hk=>by
 obtain ⟨a,ha,rfl⟩:=slk.1 hk
 have hl:0<xs.length:=List.length_pos_iff.2 hne
 have:=h.lt hl
 simpa [Slc.at_,ha] using this
section
variable {w:World}
theorem AdlW_spec {s:Nat} {p:Nat×Nat} {b:Slc} {bs:List UInt8} {K:Int→Value→World→Prop} (hs:Blk w s ty_sums_Adler (adlCells p)) (hp:p.1<65521∧p.2<65521) (hb:Rd E_uint8 w b bs) (hne:bs≠[]→∀k,b.blk=some k→k≠s) (hl:bs.length≤1000000000000)
  (hK:∀w',Blk w' s ty_sums_Adler (adlCells (bs.foldl adlStep p))→Chg (fun k=>k=s) w w'→K ((bs.length:Nat):Int) .nilIface w'):c_sums_Adler_Write (some ⟨s,0,none⟩) b w K:=by
 refine call_sums_Adler_Write _ _ ?_
 unfold sh_sums_Adler_Write
 simp only [onPtr_some]
 rw [hb.n]
 refine lpR (fun (t:Int×Unit) w1=>∃i:Nat,t.1=i∧i≤bs.length∧Blk w1 s ty_sums_Adler (adlCells ((bs.take i).foldl adlStep p))∧Chg (fun k=>k=s) w w1) (fun t=>bs.length-t.1.toNat) ⟨0,rfl,by omega,hs,Chg.refl _ _⟩ ?_
 rintro ⟨i,_⟩ w1 ⟨i,rfl,hi,h1,hc⟩ I hI
 dsimp only at *
 refine cO (fun hlt=>?_) (fun hge=>?_)
 ·have hlt:=of_decide_eq_true hlt
  have hil:i<bs.length:=by omega
  obtain ⟨x,hx,hxs⟩:=get_of (xs:=bs) (k:=i) hil
  have hbn:bs≠[]:=fun e=>by rw [e] at hil;exact absurd hil (Nat.not_lt_zero _)
  have hb1:Rd E_uint8 w1 b bs:=hb.chg hc fun a ha e=>hne hbn _ (slk.2 ⟨a,ha,rfl⟩) e
  refine hb1.ix (i:=(i:Int)) rfl (by omega) (by omega) fun hcx=>?_
  rw [hxs] at hcx
  refine ldB8 (b:=x) hcx ?_
  obtain ⟨q,hq⟩:∃q,q=(bs.take i).foldl adlStep p:=⟨_,rfl⟩
  rw [←hq] at h1
  have hql:=adl_lt (bs.take i) p hp.1 hp.2
  rw [←hq] at hql
  have h8:=x.toNat_lt
  refine lI (x:=(q.1:Int)) (h1.cells 0 _ rfl) ⟨by decide,?_⟩
  rw [wrap_nat .u32 (x:=x.toNat) (by show _<2^32;omega),show (q.1:Int)+(x.toNat:Int)=((q.1+x.toNat:Nat):Int) from rfl,wrap_nat .u32 (x:=q.1+x.toNat) (by show _<2^32;omega),
   show (65521:Int)=((65521:Nat):Int) from rfl,←Int.ofNat_tmod]
  rw [add_mk]
  refine stK_blk h1 (by simp [adlCells]) fun w2 hb2 hg2 hs2=>?_
  have hb2:Blk w2 s ty_sums_Adler (adlCells ((q.1+x.toNat)%65521,q.2)):=hb2
  have hb2d:Blk w2.drew s ty_sums_Adler (adlCells ((q.1+x.toNat)%65521,q.2)):=hb2
  refine lI (x:=(q.2:Int)) (hb2d.cells 1 _ rfl) ?_
  refine lI (x:=(((q.1+x.toNat)%65521:Nat):Int)) (hb2d.cells 0 _ rfl) ⟨by decide,?_⟩
  rw [show (q.2:Int)+(((q.1+x.toNat)%65521:Nat):Int)=((q.2+(q.1+x.toNat)%65521:Nat):Int) from rfl,wrap_nat .u32 (x:=q.2+(q.1+x.toNat)%65521) (by show _<2^32;omega),←Int.ofNat_tmod]
  rw [add_mk]
  refine stK_blk hb2d (by simp [adlCells]) fun w3 hb3 hg3 hs3=>?_
  have hb3:Blk w3 s ty_sums_Adler (adlCells (adlStep q x)):=hb3
  rw [w64i (by omega)]
  refine hI _ _ ⟨i+1,rfl,by omega,?_,?_⟩ (by simp;omega)
  ·have e:bs.take (i+1)=bs.take i++[x]:=by rw [List.take_add_one,hx];rfl
   rw [e,fold_snoc,←hq]
   exact hb3
  ·have hBd:Below w2.heap.size w2 w2.drew:=(Below.refl _ w2).drew
   exact ((hc.trans (Chg.gg hg2) fun i _ hi=>hi).trans (Chg.of_ext (S:=fun k=>k=s) hBd) fun i _ hi=>hi).trans (Chg.gg hg3) fun i _ hi=>hi
 ·have hge:=of_decide_eq_false hge
  have:i=bs.length:=by omega
  subst this
  rw [List.take_length] at h1
  exact hK w1 h1 hc
theorem AdlS_spec {s:Nat} {p:Nat×Nat} {K:Int→World→Prop} (hs:Blk w s ty_sums_Adler (adlCells p)) (hp:p.1<65521∧p.2<65521) (hK:K ((p.2*65536+p.1:Nat):Int) w.drew):c_sums_Adler_Sum (some ⟨s,0,none⟩) w K:=by
 refine call_sums_Adler_Sum _ ?_
 unfold sh_sums_Adler_Sum
 simp only [onPtr_some]
 have hsd:Blk w.drew s ty_sums_Adler (adlCells p):=hs
 refine lI (x:=(p.2:Int)) (hsd.cells 1 _ rfl) ⟨by decide,?_⟩
 refine lI (x:=(p.1:Int)) (hsd.cells 0 _ rfl) ?_
 rw [show min ((16:Int)).toNat IntKind.u32.bits=16 by decide,mul_pow_nat,wrap_nat .u32 (x:=p.2*2^16) (by show _<2^32;omega),bits_or .u32 (by show _<2^32;omega) (by show _<2^32;omega)]
 have e:p.2*2^16 ||| p.1=p.2*65536+p.1:=by
  rw [Nat.or_comm,Nat.mul_comm,add_or (by omega)]
  omega
 rw [e]
 exact hK
theorem run_adlW (s : Option Addr) (w : World) : (method (PG.types.size + Made.depth) ty_p_sums_Adler (.pointer s) "Write").run PG w = .ok (fn_sums_Adler_Write, .pointer s) w := pureRun_run _ (by kernel_rfl) w
theorem run_adlS (s : Option Addr) (w : World) : (method (PG.types.size + Made.depth) ty_p_sums_Adler (.pointer s) "Sum").run PG w = .ok (fn_sums_Adler_Sum, .pointer s) w := pureRun_run _ (by kernel_rfl) w
theorem callW {s : Option Addr} {b : Slc} {K : Int → Value → World → Prop} (h : c_sums_Adler_Write s b w K) : callI C (.iface ty_p_sums_Adler (.pointer s)) "Write" [.slice b.a b.n b.c] [(Kind.int .i64), Kind.raw] w K :=
 ⟨_,_,_,_,rfl,run_adlW s w,by kernel_rfl,h⟩
theorem callS {s : Option Addr} {K : Int → World → Prop} (h : c_sums_Adler_Sum s w K) : callI C (.iface ty_p_sums_Adler (.pointer s)) "Sum" [] [(Kind.int .u32)] w K :=
 ⟨_,_,_,_,rfl,run_adlS s w,by kernel_rfl,h⟩
theorem Of_spec {s g:Nat} {b:Slc} {bs:List UInt8} {K:Int→World→Prop} (hs:Blk w s ty_sums_Adler (adlCells (1,0))) (hg:Blk w g ty_sl_uint8 [.slice b.a b.n b.c]) (hb:Rd E_uint8 w b bs) (hne:bs≠[]→∀k,b.blk=some k→k≠s) (hl:bs.length≤1000000000000)
  (hK:∀w',Chg (fun k=>k=s) w w'→K ((adlN bs:Nat):Int) w'):c_sums_Of_sums_Adler (some ⟨s,0,none⟩) ⟨some ⟨g,0,none⟩,1,1⟩ w K:=by
 refine call_sums_Of_sums_Adler _ _ ?_
 unfold sh_sums_Of_sums_Adler
 have hgs:g≠s:=hg.ne_t hs (by decide)
 refine lpR (fun (t:Int×Unit) w1=>(t.1=0∧w1=w)∨(t.1=1∧Blk w1 s ty_sums_Adler (adlCells (adl bs))∧Chg (fun k=>k=s) w w1)) (fun t=>1-t.1.toNat) (.inl ⟨rfl,rfl⟩) ?_
 rintro ⟨i,_⟩ w1 h I hI
 dsimp only at *
 rcases h with ⟨rfl,rfl⟩ | ⟨rfl,h1,hc⟩
 ·refine cT rfl ?_
  refine ixK_at rfl (by omega) (by show (0:Int)<((1:Nat):Int);omega) ?_
  refine lSl (x:=b) ?_ ?_
  ·have:=hg.cells 0 _ rfl
   simpa [Slc.at_] using this
  ·refine callW (AdlW_spec hs (by decide) hb hne hl fun w2 hb2 hc2=>?_)
   exact hI _ _ (.inr ⟨rfl,hb2,hc2⟩) (by decide)
 ·refine cF rfl ?_
  have hl2:=adl_lt bs (1,0) (by decide) (by decide)
  refine callS (AdlS_spec h1 hl2 ?_)
  have hBd:Below w1.heap.size w1 w1.drew:=(Below.refl _ w1).drew
  exact hK _ (hc.trans (Chg.of_ext (S:=fun k=>k=s) hBd) fun i _ hi=>hi)
def bigN (bs:List UInt8):Nat:=bs.foldl (fun n b=>n*256+b.toNat) 0
theorem big4 (a b c d:UInt8):bigN [a,b,c,d]=((a.toNat*256+b.toNat)*256+c.toNat)*256+d.toNat:=by simp [bigN]
theorem Big_spec {b:Slc} {x0 x1 x2 x3:UInt8} {K:Int→World→Prop} (hb:Rd E_uint8 w b [x0,x1,x2,x3]) (hK:K ((bigN [x0,x1,x2,x3]:Nat):Int) w.drew):c_bits_Big b w K:=by
 refine call_bits_Big _ ?_
 unfold sh_bits_Big
 rw [hb.n]
 have hd:Rd E_uint8 w.drew b [x0,x1,x2,x3]:=hb.drew
 have a0:=x0.toNat_lt
 have a1:=x1.toNat_lt
 have a2:=x2.toNat_lt
 have a3:=x3.toNat_lt
 refine cF rfl ?_
 refine hd.ix (i:=0) rfl (by omega) (by show (0:Int)<((4:Nat):Int);omega) fun h0=>ldB8 (b:=x0) h0 ⟨by decide,?_⟩
 refine hd.ix (i:=1) rfl (by omega) (by show (1:Int)<((4:Nat):Int);omega) fun h1=>ldB8 (b:=x1) h1 ⟨by decide,?_⟩
 refine hd.ix (i:=2) rfl (by omega) (by show (2:Int)<((4:Nat):Int);omega) fun h2=>ldB8 (b:=x2) h2 ⟨by decide,?_⟩
 refine hd.ix (i:=3) rfl (by omega) (by show (3:Int)<((4:Nat):Int);omega) fun h3=>ldB8 (b:=x3) h3 ?_
 rw [show min ((24:Int)).toNat IntKind.u32.bits=24 by decide,show min ((16:Int)).toNat IntKind.u32.bits=16 by decide,show min ((8:Int)).toNat IntKind.u32.bits=8 by decide]
 rw [wrap_nat .u32 (x:=x0.toNat) (by show _<2^32;omega),wrap_nat .u32 (x:=x1.toNat) (by show _<2^32;omega),wrap_nat .u32 (x:=x2.toNat) (by show _<2^32;omega),wrap_nat .u32 (x:=x3.toNat) (by show _<2^32;omega),
  mul_pow_nat,mul_pow_nat,mul_pow_nat,wrap_nat .u32 (x:=x0.toNat*2^24) (by show _<2^32;omega),wrap_nat .u32 (x:=x1.toNat*2^16) (by show _<2^32;omega),wrap_nat .u32 (x:=x2.toNat*2^8) (by show _<2^32;omega)]
 have e1:x0.toNat*2^24 ||| x1.toNat*2^16=x0.toNat*2^24+x1.toNat*2^16:=by
  rw [Nat.or_comm,Nat.mul_comm x0.toNat,add_or (by omega)];omega
 have e2:(x0.toNat*2^24+x1.toNat*2^16) ||| x2.toNat*2^8=x0.toNat*2^24+x1.toNat*2^16+x2.toNat*2^8:=by
  rw [show x0.toNat*2^24+x1.toNat*2^16=2^16*(x0.toNat*2^8+x1.toNat) by omega,Nat.or_comm,add_or (by omega)];omega
 have e3:(x0.toNat*2^24+x1.toNat*2^16+x2.toNat*2^8) ||| x3.toNat=x0.toNat*2^24+x1.toNat*2^16+x2.toNat*2^8+x3.toNat:=by
  rw [show x0.toNat*2^24+x1.toNat*2^16+x2.toNat*2^8=2^8*(x0.toNat*2^16+x1.toNat*2^8+x2.toNat) by omega,Nat.or_comm,add_or (by omega)];omega
 rw [bits_or .u32 (by show _<2^32;omega) (by show _<2^32;omega),e1,bits_or .u32 (by show _<2^32;omega) (by show _<2^32;omega),e2,bits_or .u32 (by show _<2^32;omega) (by show _<2^32;omega),e3]
 rw [big4] at hK
 rw [show x0.toNat*2^24+x1.toNat*2^16+x2.toNat*2^8+x3.toNat=((x0.toNat*256+x1.toNat)*256+x2.toNat)*256+x3.toNat by omega]
 exact hK
end
end Go.Proofs.YtmagnpcgpinmcaaGreat
namespace Go.Vc
def begins (ls:List UInt8) (c n:Nat):Prop:=∃i x,ls[i]?=some x∧n≤x.toNat∧0<x.toNat∧codeK ls x.toNat i/2^(x.toNat-n)=c
end Go.Vc
namespace Go.Proofs.YtmagnpcgpinmcaaGreat
open Go.Vc Go.RowKit
set_option maxRecDepth 400000
theorem own_ne_blk {w:World} {T:Type} {E:El T} {b g:Nat} {s:Slc} {xs:List T} {t:TypeId} {vs:List Value} (h:Own E w b s xs) (h':Blk w g t vs) (hne:E.t≠t):∀k,s.blk=some k→k≠g:=fun k hk=>by
 obtain ⟨cs,hcs⟩:=h.blk_t hk
 exact hcs.ne_t h' hne
end Go.Proofs.YtmagnpcgpinmcaaGreat
namespace Go.Proofs.YtmagnpcgpinmcaaGreat
open Go.Vc Go.RowKit
set_option maxRecDepth 400000
def zh1 (c:UInt8):Bool:=c.toNat%16==8 && decide (c.toNat/16≤7)
def zh2 (a c:UInt8):Bool:=(a.toNat*256+c.toNat)%31==0 && c.toNat &&& 32==0
def zCells (d:Nat) (head tail:Slc) (s:Nat) (failed:Int):List Value:=[.pointer (some ⟨d,0,none⟩),.slice head.a head.n head.c,.slice tail.a tail.n tail.c,.iface ty_p_sums_Adler (.pointer (some ⟨s,0,none⟩)),.int .i64 0,.int .i64 failed]
section
variable {w:World} {base:Nat} {F:DF} {S:DS}
theorem zfail_spec {z d s:Nat} {head tail:Slc} {f0 e:Int} {K:Int→World→Prop} (hz:Blk w z ty_zlib_Decoder (zCells d head tail s f0)) (hK:∀w',Chg (fun k=>k=z) w w'→K e w'):c_zlib_Decoder_fail (some ⟨z,0,none⟩) e w K:=by
 refine call_zlib_Decoder_fail _ _ ?_
 unfold sh_zlib_Decoder_fail
 simp only [onPtr_some]
 rw [add_mk]
 exact stK_blk hz (by simp [zCells]) fun w1 hb1 hg1 hs1=>hK w1 (Chg.gg hg1)
theorem Done_blk {K:Bool→World→Prop} (h:Blk w F.d ty_inflate_Decoder (decCells F S 0)) (hK:K (S.c.mode==5) w):c_inflate_Decoder_Done (some ⟨F.d,0,none⟩) w K:=by
 refine call_inflate_Decoder_Done _ ?_
 unfold sh_inflate_Decoder_Done
 simp only [onPtr_some]
 refine lI (x:=((S.c.mode:Nat):Int)) (h.cells 1 _ rfl) ?_
 refine cO (fun e=>?_) (fun e=>?_)
 ·have e:S.c.mode=5:=by have:=eq_of_beq e;omega
  rw [e] at hK
  exact lI (x:=0) (h.cells 13 _ rfl) hK
 ·have e:S.c.mode≠5:=by have:=beq_eq_false_iff_ne.1 e;omega
  rw [show (S.c.mode==5)=false from beq_eq_false_iff_ne.2 e] at hK
  exact hK
theorem Used_blk {K:Int→World→Prop} (h:Blk w F.d ty_inflate_Decoder (decCells F S 0)) (h5:S.c.mode=5) (hK:K ((S.took:Nat):Int) w):c_inflate_Decoder_Used (some ⟨F.d,0,none⟩) w K:=by
 refine call_inflate_Decoder_Used _ ?_
 unfold sh_inflate_Decoder_Used
 simp only [onPtr_some]
 refine Done_blk h ?_
 exact cT (by rw [h5];rfl) (lI (x:=((S.took:Nat):Int)) (h.cells 11 _ rfl) hK)
def tailL (c:Cfg) (p:Nat) (rs:List UInt8):List UInt8:=if c.mode=5 then (rs.drop ((p+7)/8)).take 4 else []
theorem zrest {z s:Nat} {head r:Slc} {rs:List UInt8} {most:Nat} {c1:Cfg} {a1:Nat} {r0:SR} {K:Slc→Int→World→Prop}
  (hz:Blk w z ty_zlib_Decoder (zCells F.d head nilS s 0)) (hs:Blk w s ty_sums_Adler (adlCells (1,0))) (hzb:base≤z) (hsb:base≤s) (h:DecM w base F S) (f:Fed F S [] 0) (ec:S.c=cfg0) (em:S.most=most)
  (hdz:∀k,dS F k→k≠z∧k≠s) (hw0:F.wait.blk=none) (hr:Rd E_uint8 w r rs) (hrb:∀k,r.blk=some k→¬dS F k∧k≠z∧k≠s) (hl:rs.length≤1000000000) (hbase:base≤w.heap.size) (hrh:∀k,r.blk=some k→k<w.heap.size)
  (hch:Ch most rs cfg0 0 c1 a1) (hst:step1 most rs a1 c1=r0) (hr0:∀c a,r0≠.next c a)
  (hE:∀n:Nat,r0=.err n→(n=3∨n=5)→∀w',Below base w w'→K nilS n w')
  (hS:(tailL c1 a1 rs).length=4→bigN (tailL c1 a1 rs)≠adlN c1.hist→∀w',Below base w w'→K nilS 4 w')
  (hO:(∀n,r0≠.err n)→((tailL c1 a1 rs).length=4→bigN (tailL c1 a1 rs)=adlN c1.hist)→∀o tail F' S' w',Own E_uint8 w' base o c1.hist→Blk w' z ty_zlib_Decoder (zCells F'.d head tail s 0)→Blk w' F'.d ty_inflate_Decoder (decCells F' S' 0)→S'.c=c1→(c1.mode=5→S'.took=(a1+7)/8)→tail.n=(tailL c1 a1 rs).length→Below base w w'→K o 0 w') :
  onPtr (some ⟨z,0,none⟩) fun t40 =>
       ldP (t40.add 0) w fun t42 =>
       c_inflate_Decoder_Given t42 w fun t43 w5 =>
       onPtr (some ⟨z,0,none⟩) fun t46 =>
       ldP (t46.add 0) w5 fun t48 =>
       c_inflate_Decoder_Write t48 r w5 fun t50 t50_1 w6 =>
       cond (t50_1 !=(0:Int))
        (
        c_zlib_Decoder_fail (some ⟨z,0,none⟩) t50_1 w6 fun t57 w7 =>
        K (⟨none,0,0⟩:Slc) t57 w7)
        (
        onPtr (some ⟨z,0,none⟩) fun t59 =>
        ldR (t59.add 3) w6 fun t61 =>
        callI C t61 "Write" [(.slice t50.a t50.n t50.c)] [(Kind.int .i64), Kind.raw] w6 fun (t63 : Int) (t63_1 : Value) w8 =>
        onPtr (some ⟨z,0,none⟩) fun t65 =>
        ldP (t65.add 0) w8 fun t67 =>
        c_inflate_Decoder_Done t67 w8 fun t68 w9 =>
        cond (!t68)
         (K t50 0 w9)
         (
          onPtr (some ⟨z,0,none⟩) fun t73 =>
          ldP (t73.add 0) w9 fun t75 =>
          c_inflate_Decoder_Used t75 w9 fun t76 w10 =>
          slK r (some (if ((r.n:Nat):Int)<(if (0:Int)>(IntKind.i64.wrap (t76-t43)) then (0:Int) else (IntKind.i64.wrap (t76-t43))) then ((r.n:Nat):Int) else (if (0:Int)>(IntKind.i64.wrap (t76-t43)) then (0:Int) else (IntKind.i64.wrap (t76-t43))))) none 1 fun t83 =>
          onPtr (some ⟨z,0,none⟩) fun t86 =>
          ldSl (t86.add 2) w10.drew fun t88 =>
          onPtr (some ⟨z,0,none⟩) fun t93 =>
          ldSl (t93.add 2) w10.drew fun t95 =>
          slK t83 none (some (if (IntKind.i64.wrap ((4:Int)-((t95.n:Nat):Int)))<((t83.n:Nat):Int) then (IntKind.i64.wrap ((4:Int)-((t95.n:Nat):Int))) else ((t83.n:Nat):Int))) 1 fun t99 =>
          nw ty_sl_uint8 [(.slice t88.a t88.n t88.c),(.slice t99.a t99.n t99.c)] w10.drew fun t100 w11 =>
          c_slices_Concat_byte_byte (⟨(some t100),2,2⟩:Slc) w11 fun t101 w12 =>
          onPtr (some ⟨z,0,none⟩) fun t102 =>
          stK (t102.add 2) [(.slice t101.a t101.n t101.c)] w12 fun w13 =>
          joinP (σ:=Bool×Unit) (fun s_2 w14 =>
           cond s_2.1
            (
            c_zlib_Decoder_fail (some ⟨z,0,none⟩) 4 w14 fun t124 w15 =>
            K (⟨none,0,0⟩:Slc) t124 w15)
            (K t50 0 w14)) fun J3 =>
          onPtr (some ⟨z,0,none⟩) fun t105 =>
          ldSl (t105.add 2) w13.drew fun t107 =>
          cond (((t107.n:Nat):Int)==(4:Int))
           (
           onPtr (some ⟨z,0,none⟩) fun t112 =>
           ldSl (t112.add 2) w13.drew fun t114 =>
           onPtr (some ⟨z,0,none⟩) fun t117 =>
           ldR (t117.add 3) w13.drew fun t119 =>
           c_bits_Big t114 w13.drew fun t115 w16 =>
           World.cell? w16 (t117.add 3)=some t119 ∧
           callI C t119 "Sum" [] [(Kind.int .u32)] w16 fun (t120 : Int) w17 =>
           J3 ((t115 !=t120),()) w17)
           (J3 (false,()) w13.drew))):=by
 simp only [onPtr_some]
 refine ldP_of (x:=some ⟨F.d,0,none⟩) (hz.cells 0 _ rfl) ?_
 refine call_inflate_Decoder_Given _ ?_
 unfold sh_inflate_Decoder_Given
 simp only [onPtr_some]
 have hg0:S.given=0:=f.given
 refine lI (x:=((S.given:Nat):Int)) (h.blk.cells 12 _ rfl) ?_
 rw [hg0]
 refine ldP_of (x:=some ⟨F.d,0,none⟩) (hz.cells 0 _ rfl) ?_
 have below:∀{w2},Chg (dS F) w w2→Below base w w2:=fun hc=>hc.below hbase fun i hi hs=>by have:=(h.below i hs).1;omega
 refine Write_spec (bs:=rs) h f (by rw [ec];decide) hr (fun k hk=>(hrb k hk).1) (by simpa using hl) hbase (fun k hk=>by rw [hw0] at hk;cases hk) ?_ ?_
 ·intro o x p' F' S' w2 hch2 hcase hx ho hod h2 f2 em2 hto hwl hc
  rw [em,ec] at hch2
  rw [em] at hcase
  rw [ec] at hx
  have hx:S'.c.hist=x:=hx
  rw [List.nil_append] at hch2 hcase f2
  obtain ⟨rfl,rfl⟩:=hch.same hch2 (by rw [hst];exact hr0) (by
   rcases hcase with e5 | ⟨_,e⟩
   ·rw [step1_five e5];intro _ _ e;cases e
   ·rw [e];intro _ _ e;cases e)
  have hnoerr:∀n,r0≠.err n:=fun n e=>by
   rw [e] at hst
   rcases hcase with e5 | ⟨_,e'⟩
   ·rw [step1_five e5] at hst;cases hst
   ·rw [e'] at hst;cases hst
  refine cF rfl ?_
  have hz2:=hz.chg hc fun e=>(hdz _ e).1 rfl
  have hs2:=hs.chg hc fun e=>(hdz _ e).2 rfl
  refine ⟨_,hz2.cells 3 _ rfl,?_⟩
  subst hx
  have hhl:S'.c.hist.length≤1073741824:=by have:=h2.hm;have:=h2.mo;omega
  refine callW (AdlW_spec hs2 (by decide) ho.rd (fun _ k hk=>own_ne_blk ho hs2 (by decide) k hk) (by omega) fun w3 hs3 hc3=>?_)
  have hs3:Blk w3 s ty_sums_Adler (adlCells (adl S'.c.hist)):=hs3
  have hz3:=hz2.chg hc3 fun e=>hz2.ne_t hs2 (by decide) e
  have hd3:=h2.blk.chg hc3 fun e=>h2.blk.ne_t hs2 (by decide) e
  have ho3:=ho.chg hc3 fun k hk e=>own_ne_blk ho hs2 (by decide) k hk e
  have hB3:Below base w w3:=(below hc).trans (hc3.below (by have:=hc.size;omega) fun i hi e=>by omega)
  have hz3:Blk w3 z ty_zlib_Decoder (zCells F'.d head nilS s 0):=by rw [hto.d];exact hz3
  refine ldP_of (x:=some ⟨F'.d,0,none⟩) (hz3.cells 0 _ rfl) ?_
  refine Done_blk hd3 ?_
  have htl:S'.c.mode≠5→tailL S'.c a1 rs=[]:=fun e=>if_neg e
  by_cases e5:S'.c.mode=5
  ·refine cF (by rw [e5];rfl) ?_
   refine ldP_of (x:=some ⟨F'.d,0,none⟩) (hz3.cells 0 _ rfl) ?_
   have htook:=f2.took
   rw [if_pos e5] at htook
   refine Used_blk hd3 e5 ?_
   have hpl:=f2.pl
   rw [htook]
   obtain ⟨u,hu⟩:∃u,u=(a1+7)/8:=⟨_,rfl⟩
   have hul:u≤rs.length:=by omega
   rw [←hu,show ((u:Nat):Int)-((0:Nat):Int)=(u:Int) by omega,w64i (x:=(u:Int)) (by omega),hr.n]
   have ecl:(if ((rs.length:Nat):Int)<(if (0:Int)>(u:Int) then (0:Int) else (u:Int)) then ((rs.length:Nat):Int) else (if (0:Int)>(u:Int) then (0:Int) else (u:Int)))=(u:Int):=by
    rw [if_neg (show ¬(0:Int)>(u:Int) by omega),if_neg (by omega)]
   rw [ecl]
   have hr2:Rd E_uint8 w2 r rs:=hr.chg hc fun a ha e=>(hrb _ (slk.2 ⟨a,ha,rfl⟩)).1 e
   have hr3:Rd E_uint8 w3 r rs:=hr2.chg hc3 fun a ha e=>(hrb _ (slk.2 ⟨a,ha,rfl⟩)).2.2 e
   refine hr3.slK (l:=u) (m:=rs.length) rfl (.inr rfl) (.inl ⟨rfl,rfl⟩) hul (Nat.le_refl _) fun hp=>?_
   rw [List.take_length] at hp
   obtain ⟨q,hq⟩:∃q:Slc,q=⟨cut r.a u r.c E_uint8.k,rs.length-u,r.c-u⟩:=⟨_,rfl⟩
   rw [←hq] at hp ⊢
   have hzd:Blk w3.drew z ty_zlib_Decoder (zCells F'.d head nilS s 0):=hz3
   refine lSl (x:=nilS) (hzd.cells 2 _ rfl) ?_
   refine lSl (x:=nilS) (hzd.cells 2 _ rfl) ?_
   rw [hp.n,List.length_drop,show IntKind.i64.wrap ((4:Int)-((nilS.n:Nat):Int))=4 from rfl]
   obtain ⟨m,hm⟩:∃m,m=min 4 (rs.length-u):=⟨_,rfl⟩
   have em4:(if (4:Int)<((rs.length-u:Nat):Int) then (4:Int) else ((rs.length-u:Nat):Int))=(m:Int):=by split<;>omega
   rw [em4]
   refine hp.drew.slK (l:=0) (m:=m) rfl (.inl ⟨rfl,rfl⟩) (.inr rfl) (by omega) (by rw [List.length_drop];omega) fun hp2=>?_
   rw [List.drop_zero] at hp2
   have etl:(rs.drop u).take m=tailL S'.c a1 rs:=by
    rw [tailL,if_pos e5,←hu,hm]
    rcases Nat.le_total 4 (rs.length-u) with hle | hle
    ·rw [Nat.min_eq_left hle]
    ·rw [Nat.min_eq_right hle,List.take_of_length_le (by rw [List.length_drop];omega),List.take_of_length_le (by rw [List.length_drop];omega)]
   rw [etl] at hp2
   have htl4:(tailL S'.c a1 rs).length≤4:=by rw [tailL,if_pos e5,List.length_take];omega
   have hBd:Below w3.heap.size w3 w3.drew:=(Below.refl _ w3).drew
   refine ConcatB2 (Rd.nil E_uint8 w3.drew) hp2 (by simp;omega) fun t w4 ht hB4=>?_
   rw [List.nil_append] at ht
   have hsd:w3.drew.heap.size=w3.heap.size:=rfl
   have hB34:Below w3.heap.size w3 w4:=hBd.trans hB4
   have hz4:=hz3.ext hB34
   rw [add_mk]
   refine stK_blk hz4 (by simp [zCells]) fun w5 hz5 hg5 hs5'=>?_
   have hz5:Blk w5 z ty_zlib_Decoder (zCells F'.d head t s 0):=hz5
   have hc5:=Chg.gg hg5
   have ht5:=ht.chg hc5 fun k hk e=>own_ne_blk ht hz4 (by decide) k hk e
   have hs5:=(hs3.ext hB34).chg hc5 fun e=>(hs3.ext hB34).ne_t hz4 (by decide) e
   have hd5:=(hd3.ext hB34).chg hc5 fun e=>(hd3.ext hB34).ne_t hz4 (by decide) e
   have ho5:=(ho3.ext hB34).chg hc5 fun k hk e=>own_ne_blk (ho3.ext hB34) hz4 (by decide) k hk e
   have hb3:=hB3.size
   have hB5:Below base w w5:=(hB3.trans (hB34.mono (by omega))).trans (hc5.below (by have:=hB34.size;omega) fun i hi e=>by omega)
   have htn:t.n=(tailL S'.c a1 rs).length:=ht5.rd.n
   have hBd5:Below w5.heap.size w5 w5.drew:=(Below.refl _ w5).drew
   have hb5:=hB5.size
   have hB5d:Below base w w5.drew:=hB5.trans (hBd5.mono (by omega))
   rw [show ∀(K:Slc→Int→World→Prop),(fun (s_2:Bool×Unit) w14=>cond s_2.1 (c_zlib_Decoder_fail (some ⟨z,0,none⟩) 4 w14 fun t124 w15=>K ⟨none,0,0⟩ t124 w15) (K o 0 w14))=(fun (s_2:Bool×Unit) w14=>cond s_2.1 (c_zlib_Decoder_fail (some ⟨z,0,none⟩) 4 w14 fun t124 w15=>K ⟨none,0,0⟩ t124 w15) (K o 0 w14)) from fun _=>rfl]
   refine jpO fun J hJ=>?_
   refine lSl (x:=t) ((hz5.ext hBd5).cells 2 _ rfl) ?_
   rw [htn]
   refine cO (fun h4=>?_) (fun h4=>?_)
   ·have h4:(tailL S'.c a1 rs).length=4:=by have:=eq_of_beq h4;omega
    refine lSl (x:=t) ((hz5.ext hBd5).cells 2 _ rfl) ?_
    refine ⟨_,(hz5.ext hBd5).cells 3 _ rfl,?_⟩
    obtain ⟨x0,x1,x2,x3,ex⟩:∃x0 x1 x2 x3,tailL S'.c a1 rs=[x0,x1,x2,x3]:=by
     match ht:tailL S'.c a1 rs,h4 with
     | [a,b,c,d],_=>exact ⟨a,b,c,d,rfl⟩
    have ht5d:Rd E_uint8 w5.drew t [x0,x1,x2,x3]:=by rw [←ex];exact (ht5.ext hBd5).rd
    refine Big_spec ht5d ?_
    have hBdd:Below w5.drew.heap.size w5.drew w5.drew.drew:=(Below.refl _ _).drew
    have hz7:=(hz5.ext hBd5).ext hBdd
    have hs7:=(hs5.ext hBd5).ext hBdd
    refine ⟨hz7.cells 3 _ rfl,?_⟩
    have hl2:=adl_lt S'.c.hist (1,0) (by decide) (by decide)
    refine callS (AdlS_spec hs7 hl2 ?_)
    have hB8d:Below w5.heap.size w5 w5.drew.drew.drew:=hBd5.trans (hBdd.trans (Below.refl _ _).drew)
    refine hJ _ _ ?_
    dsimp only
    have esum:(((adl S'.c.hist).2*65536+(adl S'.c.hist).1:Nat):Int)=((adlN S'.c.hist:Nat):Int):=rfl
    rw [esum,←ex]
    refine cO (fun hne=>?_) (fun heq=>?_)
    ·have hne:bigN (tailL S'.c a1 rs)≠adlN S'.c.hist:=fun e=>by rw [e] at hne;simp at hne
     refine zfail_spec (hz5.ext hB8d) fun w9 hc9=>?_
     exact hS h4 hne w9 ((hB5.trans (hB8d.mono (by omega))).trans (hc9.below (by have:=hB8d.size;omega) fun i hi e=>by omega))
    ·have heq:bigN (tailL S'.c a1 rs)=adlN S'.c.hist:=by
      have:((bigN (tailL S'.c a1 rs):Nat):Int)=((adlN S'.c.hist:Nat):Int):=by simpa using heq
      omega
     exact hO hnoerr (fun _=>heq) o t F' S' _ (ho5.ext hB8d) (hz5.ext hB8d) (hd5.ext hB8d) rfl (fun _=>htook) htn (hB5.trans (hB8d.mono (by omega)))
   ·have h4:(tailL S'.c a1 rs).length≠4:=by have:=beq_eq_false_iff_ne.1 h4;omega
    refine hJ _ _ ?_
    dsimp only
    exact cF rfl (hO hnoerr (fun h=>absurd h h4) o t F' S' _ (ho5.ext hBd5) (hz5.ext hBd5) (hd5.ext hBd5) rfl (fun _=>htook) htn hB5d)
  ·have:(S'.c.mode==5)=false:=beq_eq_false_iff_ne.2 e5
   rw [this]
   refine cT rfl ?_
   have et:=htl e5
   refine hO hnoerr (fun h=>by rw [et] at h;cases h) o nilS F' S' w3 ho3 hz3 hd3 rfl (fun h=>absurd h e5) (by rw [et];rfl) hB3
 ·intro n c' p' S' w2 hn hch2 hst2 hf _ hc
  rw [em,ec] at hch2
  rw [em] at hst2
  rw [List.nil_append] at hch2 hst2
  obtain ⟨rfl,rfl⟩:=hch.same hch2 (by rw [hst];exact hr0) (by rw [hst2];intro _ _ e;cases e)
  refine cT (by
           have:((n:Nat):Int)≠0:=by omega
           simpa using this) ?_
  have hz2:=hz.chg hc fun e=>(hdz _ e).1 rfl
  have hb2:=(below hc).size
  refine zfail_spec hz2 fun w3 hc3=>hE n (by rw [←hst,hst2]) hn w3 ((below hc).trans (hc3.below (by have:=hc.size;omega) fun i hi e=>by omega))
end
end Go.Proofs.YtmagnpcgpinmcaaGreat
namespace Go.Proofs.YtmagnpcgpinmcaaGreat
open Go.Vc Go.RowKit
set_option maxRecDepth 400000
def zhN (hs:List UInt8) (c:UInt8):Bool:=match hs with | []=>zh1 c | a::_=>zh2 a c
section
variable {w:World} {base:Nat} {F:DF} {S:DS}
theorem zbegin_spec {z d s:Nat} {head:Slc} {hs:List UInt8} {c:UInt8} {K:Bool→World→Prop} (hz:Blk w z ty_zlib_Decoder (zCells d head nilS s 0)) (hh:Own E_uint8 w base head hs) (hbase:base≤w.heap.size) (hl:hs.length≤1)
  (hK:∀head' w',Own E_uint8 w' base head' (hs++[c])→Blk w' z ty_zlib_Decoder (zCells d head' nilS s 0)→Chg (fun k=>k=z∨head.blk=some k) w w'→(head'.blk=head.blk∨∃k,head'.blk=some k∧w.heap.size≤k)→K (zhN hs c) w'):c_zlib_Decoder_begin (some ⟨z,0,none⟩) (c.toNat:Int) w K:=by
 refine call_zlib_Decoder_begin _ _ ?_
 unfold sh_zlib_Decoder_begin
 simp only [onPtr_some]
 refine lSl (x:=head) (hz.cells 1 _ rfl) ?_
 refine apB1 (c:=c) rfl hh hbase (by omega) fun r w2 ho2 hc2 hq=>?_
 have hz2:=hz.chg hc2 fun e=>own_ne_blk hh hz (by decide) z e rfl
 rw [add_mk]
 refine stK_blk hz2 (by simp [zCells]) fun w3 hz3 hg3 hs3=>?_
 have hz3:Blk w3 z ty_zlib_Decoder (zCells d r nilS s 0):=hz3
 have ho3:=ho2.chg (Chg.gg hg3) (own_ne_blk ho2 hz2 (by decide))
 have hc3:Chg (fun k=>k=z∨head.blk=some k) w w3:=(hc2.mono fun i _ hi=>.inr hi).trans (Chg.gg hg3) fun i _ hi=>.inl hi
 have hK:=hK r w3 ho3 hz3 hc3 hq
 refine lSl (x:=r) (hz3.cells 1 _ rfl) ?_
 have hrn:=ho3.rd.n
 rw [hrn]
 have c8:=c.toNat_lt
 match hs,hl with
 | [],_ =>
  refine cT rfl ?_
  rw [show (15:Int)=((15:Nat):Int) from rfl,bits_and .u8 (by show _<2^8;omega) (by decide),Nat.and_two_pow_sub_one_eq_mod c.toNat 4]
  have hK:K (zh1 c) w3:=hK
  unfold zh1 at hK
  cases h:(c.toNat%16==8) with
  | true =>
   have h':=eq_of_beq h
   refine cT (by rw [show (2:Nat)^4=16 from rfl,h'];rfl) ⟨by decide,?_⟩
   rw [show min ((4:Int)).toNat IntKind.u8.bits=4 by decide,fdiv_nat,show (2:Nat)^4=16 from rfl]
   rw [h,Bool.true_and] at hK
   have e:decide (((c.toNat/16:Nat):Int)≤7)=decide (c.toNat/16≤7):=by
    by_cases hh:c.toNat/16≤7
    ·rw [decide_eq_true hh,decide_eq_true (by omega)]
    ·rw [decide_eq_false hh,decide_eq_false (by omega)]
   rw [e]
   exact hK
  | false =>
   have h':=beq_eq_false_iff_ne.1 h
   rw [h,Bool.false_and] at hK
   exact cF (beq_eq_false_iff_ne.2 (by rw [show (2:Nat)^4=16 from rfl];omega)) hK
 | [a],_ =>
  have a8:=a.toNat_lt
  refine cF rfl ?_
  refine lSl (x:=r) (hz3.cells 1 _ rfl) ?_
  refine ho3.rd.ix (i:=0) rfl (by omega) (by show (0:Int)<((2:Nat):Int);omega) fun h0=>?_
  refine ldB8 (b:=a) h0 ⟨by decide,by decide,?_⟩
  rw [show min ((8:Int)).toNat IntKind.i64.bits=8 by decide,wrap_nat .i64 (x:=a.toNat) (by show _<2^63;omega),wrap_nat .i64 (x:=c.toNat) (by show _<2^63;omega),mul_pow_nat,wrap_nat .i64 (x:=a.toNat*2^8) (by show _<2^63;omega),bits_or .i64 (by show _<2^63;omega) (by show _<2^63;omega)]
  have e:a.toNat*2^8 ||| c.toNat=a.toNat*256+c.toNat:=by
   rw [Nat.or_comm,Nat.mul_comm,add_or (by omega)];omega
  rw [e,show (31:Int)=((31:Nat):Int) from rfl,←Int.ofNat_tmod]
  have hK:K (zh2 a c) w3:=hK
  unfold zh2 at hK
  cases h:((a.toNat*256+c.toNat)%31==0) with
  | true =>
   have h':=eq_of_beq h
   refine cT (by rw [h'];rfl) ?_
   rw [show (32:Int)=((32:Nat):Int) from rfl,bits_and .u8 (by show _<2^8;omega) (by decide)]
   rw [h,Bool.true_and] at hK
   have e2:((((c.toNat &&& 32:Nat):Int))==(0:Int))=(c.toNat &&& 32==0):=by
    cases hh:(c.toNat &&& 32==0) with
    | true=>rw [eq_of_beq hh];rfl
    | false=>exact beq_eq_false_iff_ne.2 (by have:=beq_eq_false_iff_ne.1 hh;omega)
   rw [e2]
   exact hK
  | false =>
   have h':=beq_eq_false_iff_ne.1 h
   rw [h,Bool.false_and] at hK
   exact cF (beq_eq_false_iff_ne.2 (by omega)) hK
 | _::_::_,hl=>exact absurd hl (by simp)
def headOK:List UInt8→Bool
 | []=>true
 | [a]=>zh1 a
 | a::b::_=>zh1 a && zh2 a b
theorem headOK_take (bs:List UInt8):headOK (bs.take 2)=headOK bs:=by
 match bs with
 | []=>rfl
 | [a]=>rfl
 | a::b::r=>rfl
theorem headOK_snoc {bs:List UInt8} {j:Nat} {x:UInt8} (hj:j≤1) (hx:bs[j]?=some x) (h:headOK (bs.take j)=true):headOK (bs.take (j+1))=zhN (bs.take j) x:=by
 match j,hj,bs,hx with
 | 0,_,b::r,hx=>simp at hx;subst hx;rfl
 | 1,_,a::b::r,hx =>
  simp at hx
  subst hx
  have h:zh1 a=true:=h
  show (zh1 a && zh2 a b)=_
  rw [h,Bool.true_and]
  rfl
theorem headOK_bad {bs:List UInt8} {j:Nat} (hj:j≤2) (h:headOK (bs.take j)=false):headOK bs=false:=by
 match j,hj,bs with
 | 0,_,_=>cases h
 | 1,_,[]=>cases h
 | 1,_,[a]=>exact h
 | 1,_,a::b::r =>
  have h:zh1 a=false:=h
  show (zh1 a && zh2 a b)=false
  rw [h,Bool.false_and]
 | 2,_,bs=>rw [←headOK_take];exact h
theorem zWrite_fresh {z s:Nat} {b:Slc} {bs:List UInt8} {most:Nat} {c1:Cfg} {a1:Nat} {r0:SR} {K:Slc→Int→World→Prop}
  (hz:Blk w z ty_zlib_Decoder (zCells F.d nilS nilS s 0)) (hs:Blk w s ty_sums_Adler (adlCells (1,0))) (hzb:base≤z) (hsb:base≤s) (h:DecM w base F S) (f:Fed F S [] 0) (ec:S.c=cfg0) (em:S.most=most)
  (hdz:∀k,dS F k→k≠z∧k≠s) (hw0:F.wait.blk=none) (hr:Rd E_uint8 w b bs) (hrb:∀k,b.blk=some k→¬dS F k∧k≠z∧k≠s) (hl:bs.length≤1000000000) (hbase:base≤w.heap.size) (hrh:∀k,b.blk=some k→k<w.heap.size)
  (hch:Ch most (bs.drop 2) cfg0 0 c1 a1) (hst:step1 most (bs.drop 2) a1 c1=r0) (hr0:∀c a,r0≠.next c a)
  (hH:headOK bs=false→∀w',Below base w w'→K nilS 3 w')
  (hE:headOK bs=true→∀n:Nat,r0=.err n→(n=3∨n=5)→∀w',Below base w w'→K nilS n w')
  (hS:headOK bs=true→(tailL c1 a1 (bs.drop 2)).length=4→bigN (tailL c1 a1 (bs.drop 2))≠adlN c1.hist→∀w',Below base w w'→K nilS 4 w')
  (hO:headOK bs=true→(∀n,r0≠.err n)→((tailL c1 a1 (bs.drop 2)).length=4→bigN (tailL c1 a1 (bs.drop 2))=adlN c1.hist)→∀o head tail F' S' w',Own E_uint8 w' base o c1.hist→Blk w' z ty_zlib_Decoder (zCells F'.d head tail s 0)→Blk w' F'.d ty_inflate_Decoder (decCells F' S' 0)→S'.c=c1→(c1.mode=5→S'.took=(a1+7)/8)→tail.n=(tailL c1 a1 (bs.drop 2)).length→head.n=min 2 bs.length→Below base w w'→K o 0 w') :
  c_zlib_Decoder_Write (some ⟨z,0,none⟩) b w K:=by
 refine call_zlib_Decoder_Write _ _ ?_
 unfold sh_zlib_Decoder_Write
 rw [onPtr_some]
 refine lI (x:=0) (hz.cells 5 _ rfl) (cF rfl ?_)
 refine loopP_rule_w (fun m (t:Slc×Unit) w1=>∃(j:Nat) (head:Slc),m=bs.length-j∧j≤2∧j≤bs.length∧Own E_uint8 w1 base head (bs.take j)∧(∀k,head.blk=some k→w.heap.size≤k)∧Blk w1 z ty_zlib_Decoder (zCells F.d head nilS s 0)∧Rd E_uint8 w t.1 (bs.drop j)∧(∀k,t.1.blk=some k→b.blk=some k)∧headOK (bs.take j)=true∧Chg (fun k=>k=z) w w1) bs.length
  ⟨0,nilS,rfl,by omega,by omega,Own.nil _ _ _,fun k hk=>(by cases hk),hz,hr,fun k hk=>hk,rfl,Chg.refl _ _⟩ ?_
 rintro m ⟨t,_⟩ w1 ⟨j,head,rfl,hj,hjl,hh1,hhb,hz1,ht,htb,hok,hc1⟩ I hI
 dsimp only at *
 have hs1:=hc1.size
 have hdl:(bs.drop j).length=bs.length-j:=List.length_drop
 have htn:=ht.n
 have hB1:Below base w w1:=hc1.below hbase fun i hi e=>by omega
 have rest:=fun (ed:bs.drop j=bs.drop 2) (hokb:headOK bs=true) (hhn:head.n=min 2 bs.length) =>
  zrest (w:=w1) (base:=base) (F:=F) (S:=S) (z:=z) (s:=s) (head:=head) (r:=t) (rs:=bs.drop 2) (most:=most) (c1:=c1) (a1:=a1) (r0:=r0) (K:=K)
   hz1 (hs.chg hc1 fun e=>hs.ne_t hz (by decide) e) hzb hsb
   (h.chg hc1 (fun k hk e=>by
    rcases hk with hk | hk
    ·exact (hdz k hk).1 e
    ·rw [hw0] at hk;cases hk) (fun k hk _=>by subst hk;exact ⟨_,_,hz,by decide,by decide⟩)) f ec em hdz hw0
   (by rw [←ed];exact ht.chg hc1 fun a ha e=>(hrb _ (htb _ (slk.2 ⟨a,ha,rfl⟩))).2.1 e) (fun k hk=>hrb k (htb k hk)) (by rw [←ed];omega) (by omega) (fun k hk=>by have:=hrh k (htb k hk);omega) hch hst hr0
   (fun n hn h35 w' hB=>hE hokb n hn h35 w' (hB1.trans hB)) (fun h4 hne w' hB=>hS hokb h4 hne w' (hB1.trans hB))
   (fun he ht4 o tail F' S' w' ho hzz hdd hcc htk htn' hB=>hO hokb he ht4 o head tail F' S' w' ho hzz hdd hcc htk htn' hhn (hB1.trans hB))
 have ends:(j=2∨j=bs.length)→bs.drop j=bs.drop 2∧headOK bs=true∧head.n=min 2 bs.length:=fun hend=>by
  refine ⟨?_,?_,?_⟩
  ·rcases hend with rfl | rfl
   ·rfl
   ·rw [List.drop_length,List.drop_eq_nil_of_le (by omega)]
  ·rcases hend with rfl | rfl
   ·rw [←headOK_take];exact hok
   ·rwa [List.take_length] at hok
  ·rw [hh1.rd.n,List.length_take];omega
 refine jpO fun J hJ=>?_
 rw [onPtr_some]
 refine lSl (x:=head) (hz1.cells 1 _ rfl) ?_
 have hhl:=hh1.rd.n
 rw [List.length_take,Nat.min_eq_left hjl] at hhl
 rw [hhl]
 refine cO (fun h2=>?_) (fun h2=>?_)
 ·have h2:j≤1:=by have:=of_decide_eq_true h2;omega
  refine cO (fun hp=>hJ _ _ ?_) (fun hp=>?_)
  ·have hp:=of_decide_eq_true hp
   have hjl':j<bs.length:=by omega
   have hx:bs[j]?=some bs[j]:=List.getElem?_eq_getElem hjl'
   have ht1:Rd E_uint8 w1 t (bs.drop j):=ht.chg hc1 fun a ha e=>(hrb _ (htb _ (slk.2 ⟨a,ha,rfl⟩))).2.1 e
   refine ht1.ix (i:=0) rfl (by omega) (by omega) fun hc=>?_
   have e0:∀h,(bs.drop j)[((0:Int)).toNat]'h=bs[j]:=fun hh=>by
    have:((0:Int)).toNat=0:=rfl
    simp only [this,List.getElem_drop,Nat.add_zero]
   rw [e0] at hc
   refine ldB8 (b:=bs[j]) hc ?_
   refine zbegin_spec hz1 hh1 (by omega) (by rw [List.length_take];omega) fun head' w2 hh2 hz2 hc2 hq=>?_
   have hc12:Chg (fun k=>k=z) w w2:=hc1.trans hc2 fun i hi hi2=>by
    rcases hi2 with e | e
    ·exact e
    ·have:=hhb i e;omega
   have et:bs.take (j+1)=bs.take j++[bs[j]]:=by rw [List.take_add_one,hx];rfl
   rw [←headOK_snoc h2 hx hok]
   cases hb:headOK (bs.take (j+1)) with
   | false =>
    refine cT rfl ?_
    refine zfail_spec hz2 fun w3 hc3=>hH (headOK_bad (by omega) hb) w3 ?_
    exact (hc12.below hbase fun i hi e=>by omega).trans (hc3.below (by have:=hc12.size;omega) fun i hi e=>by omega)
   | true =>
    refine cF rfl ?_
    refine ht.slK (l:=1) (m:=(bs.drop j).length) rfl (.inr rfl) (.inl ⟨rfl,rfl⟩) (by omega) (Nat.le_refl _) fun hp2=>?_
    rw [List.take_length,List.drop_drop] at hp2
    refine hI (bs.length-(j+1)) _ w2 ⟨j+1,head',rfl,by omega,by omega,by rw [et];exact hh2,fun k hk=>?_,hz2,hp2,fun k hk=>?_,hb,hc12⟩ (by omega)
    ·rcases hq with e | ⟨k',e,hk'⟩
     ·exact hhb k (by rw [←e];exact hk)
     ·rw [e] at hk;cases hk;omega
    ·obtain ⟨a,ha,e⟩:=slk.1 hk
     obtain ⟨a',ha',e'⟩:=cut_block ha
     exact htb k (slk.2 ⟨a',ha',by rw [←e',e]⟩)
  ·have hp:=of_decide_eq_false hp
   obtain ⟨e1,e2,e3⟩:=ends (.inr (by omega))
   exact rest e1 e2 e3
 ·have h2:=of_decide_eq_false h2
  obtain ⟨e1,e2,e3⟩:=ends (.inl (by omega))
  exact rest e1 e2 e3
def zend (bs:List UInt8) (c1:Cfg) (a1:Nat):Nat:=if (tailL c1 a1 (bs.drop 2)).length=4 then (if bigN (tailL c1 a1 (bs.drop 2))=adlN c1.hist then 0 else 4) else 2
def zerr (bs:List UInt8) (c1:Cfg) (a1:Nat) (r0:SR):Nat :=
 if headOK bs=false then 3
 else match r0 with
  | .err n=>n
  | .short=>zend bs c1 a1
  | .next _ _=>zend bs c1 a1
theorem Unpack_spec {b:Slc} {bs:List UInt8} {most:Nat} {c1:Cfg} {a1:Nat} {r0:SR} {K:Slc→Int→Int→World→Prop} (hm:most≤1073741824) (hr:Rd E_uint8 w b bs) (hrh:∀k,b.blk=some k→k<w.heap.size) (hl:bs.length≤1000000000)
  (hch:Ch most (bs.drop 2) cfg0 0 c1 a1) (hst:step1 most (bs.drop 2) a1 c1=r0) (hr0:∀c a,r0≠.next c a)
  (hK1:zerr bs c1 a1 r0=0→∀o w',Own E_uint8 w' w.heap.size o c1.hist→Below w.heap.size w w'→K o ((6+(a1+7)/8:Nat):Int) 0 w')
  (hK2:∀n,zerr bs c1 a1 r0=n→n≠0→∀w',Below w.heap.size w w'→K nilS 0 n w'):c_zlib_Unpack b most w K:=by
 refine call_zlib_Unpack _ _ ?_
 unfold sh_zlib_Unpack
 refine call_zlib_New _ ?_
 unfold sh_zlib_New
 refine DecNew_spec hm fun F S w1 hd h f ec em hS hw0 hB1=>cF rfl ?_
 have hs1:=hB1.size
 have hdl:=h.blk.lt
 refine call_sums_NewAdler ?_
 unfold sh_sums_NewAdler
 refine nwb fun w2 hs2 hB2 hz2=>?_
 obtain ⟨s,hs⟩:∃s,s=w1.heap.size:=⟨_,rfl⟩
 rw [←hs] at hs2 ⊢
 refine nwb fun w3 hz3 hB3 hz3'=>?_
 obtain ⟨z,hz⟩:∃z,z=w2.heap.size:=⟨_,rfl⟩
 rw [←hz] at hz3 ⊢
 refine cF rfl ?_
 have hs2:Blk w2 s ty_sums_Adler (adlCells (1,0)):=hs2
 have hz3:Blk w3 z ty_zlib_Decoder (zCells F.d nilS nilS s 0):=hz3
 have hB03:Below w.heap.size w w3:=hB1.trans ((hB2.mono hs1).trans (hB3.mono (by omega)))
 have hs03:=hB03.size
 have hb3:∀{w'},Below w.heap.size w3 w'→Below w.heap.size w w':=fun hB=>hB03.trans hB
 have err:∀n:Nat,n≠0→zerr bs c1 a1 r0=n→∀w',Below w.heap.size w3 w'→(cond ((n:Int) !=(0:Int)) (K (⟨none,0,0⟩:Slc) 0 n w') (c_zlib_Decoder_Done (some ⟨z,0,none⟩) w' fun t30 w3=>cond (!t30) (K (⟨none,0,0⟩:Slc) 0 2 w3) (c_zlib_Decoder_Used (some ⟨z,0,none⟩) w3 fun t34 w4=>K nilS t34 0 w4))):=fun n hn he w' hB=>by
  refine cT (by
           have:((n:Nat):Int)≠0:=by omega
           simpa using this) (hK2 n he hn w' (hb3 hB))
 refine zWrite_fresh (base:=w.heap.size) (bs:=bs) (most:=most) (c1:=c1) (a1:=a1) (r0:=r0) hz3 (hs2.ext hB3) (by omega) (by omega) ?_ f ec em (fun k hk=>by have:=hS k hk;omega) hw0 (hr.ext hB03) (fun k hk=>?_) hl hs03 (fun k hk=>by have:=hrh k hk;omega) hch hst hr0 ?_ ?_ ?_ ?_
 ·have h2:=(h.ext hB2).ext hB3
  exact ⟨h2.blk,by omega,h2.ring.base (by omega),h2.out.base (by omega),h2.wait,(fun e=>by rw [ec] at e;cases e),h2.ne,h2.wn,h2.m5,h2.mo,h2.ho,h2.hm,h2.hl,h2.hw,h2.hs,h2.ht⟩
 ·have:=hrh k hk
  exact ⟨fun hk2=>by have:=hS k hk2;omega,by omega,by omega⟩
 ·intro hb w' hB
  exact err 3 (by decide) (by rw [zerr.eq_def,if_pos hb]) w' hB
 ·intro hb n hn h35 w' hB
  exact err n (by omega) (by rw [zerr.eq_def,if_neg (by rw [hb];decide),hn]) w' hB
 ·intro hb h4 hne w' hB
  have hnr:∀n,r0≠.err n:=fun n e=>by
   have h5:c1.mode=5:=by
    by_cases h5:c1.mode=5
    ·exact h5
    ·rw [tailL,if_neg h5] at h4;cases h4
   rw [step1_five h5] at hst
   rw [e] at hst
   cases hst
  refine err 4 (by decide) ?_ w' hB
  rw [zerr.eq_def,if_neg (by rw [hb];decide)]
  cases r0 with
  | next c a=>exact absurd rfl (hr0 c a)
  | err n=>exact absurd rfl (hnr n)
  | short=>show zend bs c1 a1=_;rw [zend,if_pos h4,if_neg hne]
 ·intro hb hnr hsum o head tail F' S' w' ho hzz hdd hcc htk htn hhn hB
  have ez:zerr bs c1 a1 r0=if (tailL c1 a1 (bs.drop 2)).length=4 then 0 else 2:=by
   rw [zerr.eq_def,if_neg (by rw [hb];decide)]
   cases r0 with
   | next c a=>exact absurd rfl (hr0 c a)
   | err n=>exact absurd rfl (hnr n)
   | short =>
    show zend bs c1 a1=_
    rw [zend]
    split
    ·next h4=>rw [if_pos (hsum h4)]
    ·rfl
  refine cF rfl ?_
  refine call_zlib_Decoder_Done _ ?_
  unfold sh_zlib_Decoder_Done
  simp only [onPtr_some]
  refine lI (x:=0) (hzz.cells 5 _ rfl) (cT rfl ?_)
  refine lSl (x:=tail) (hzz.cells 2 _ rfl) ?_
  rw [htn]
  by_cases h4:(tailL c1 a1 (bs.drop 2)).length=4
  ·rw [if_pos h4] at ez
   have h5:c1.mode=5:=by
    by_cases h5:c1.mode=5
    ·exact h5
    ·rw [tailL,if_neg h5] at h4;cases h4
   refine cF (by rw [h4];rfl) ?_
   refine call_zlib_Decoder_Used _ ?_
   unfold sh_zlib_Decoder_Used
   simp only [onPtr_some]
   have hBd:Below w'.heap.size w' w'.drew:=(Below.refl _ w').drew
   refine lSl (x:=head) ((hzz.ext hBd).cells 1 _ rfl) ?_
   refine ldP_of (x:=some ⟨F'.d,0,none⟩) ((hzz.ext hBd).cells 0 _ rfl) ?_
   refine lSl (x:=tail) ((hzz.ext hBd).cells 2 _ rfl) ?_
   refine Used_blk (hdd.ext hBd) (by rw [hcc];exact h5) ⟨(hzz.ext hBd).cells 2 _ rfl,(hzz.ext hBd).cells 1 _ rfl,?_⟩
   have hal:a1≤8*(bs.drop 2).length:=(hch.le (Nat.zero_le _)).1
   rw [List.length_drop] at hal
   have hb2:2≤bs.length:=by
    rcases Nat.lt_or_ge bs.length 2 with hlt | hge
    ·exfalso
     rw [tailL,if_pos h5,List.length_take,List.length_drop,List.length_drop] at h4
     omega
    ·exact hge
   rw [htk h5,htn,h4,hhn,Nat.min_eq_left hb2,w64i (x:=((2:Nat):Int)+(((a1+7)/8:Nat):Int)) (by omega),w64i (by omega)]
   have e:((2:Nat):Int)+(((a1+7)/8:Nat):Int)+((4:Nat):Int)=((6+(a1+7)/8:Nat):Int):=by omega
   rw [e]
   have hs':=hB.size
   exact hK1 ez o _ (ho.ext hBd) (hb3 (hB.trans (hBd.mono (by omega))))
  ·rw [if_neg h4] at ez
   refine cT (by rw [show ((((tailL c1 a1 (bs.drop 2)).length:Nat):Int)==4)=false from beq_eq_false_iff_ne.2 (by omega)];rfl) ?_
   exact hK2 2 ez (by decide) w' (hb3 hB)
def be4 (n:Nat):List UInt8:=[UInt8.ofNat (n/2^24),UInt8.ofNat (n/2^16),UInt8.ofNat (n/2^8),UInt8.ofNat n]
theorem big_be4 {n:Nat} (h:n<2^32):bigN (be4 n)=n:=by
 unfold be4
 rw [big4,UInt8.toNat_ofNat',UInt8.toNat_ofNat',UInt8.toNat_ofNat',UInt8.toNat_ofNat']
 omega
theorem wrap8_of (n:Nat):IntKind.u8.wrap (n:Int)=(((UInt8.ofNat n).toNat:Nat):Int):=by
 rw [wrap8_u8]
 show (((UInt8.ofNat ((n:Int)%256).toNat).toNat:Nat):Int)=_
 rw [UInt8.toNat_ofNat',UInt8.toNat_ofNat']
 omega
def packL (body bs:List UInt8):List UInt8:=[120,1]++body++be4 (adlN bs)
theorem Pack_spec {b:Slc} {bs:List UInt8} {fixed:Bool} {K:Slc→World→Prop} (hb:Rd E_uint8 w b bs) (hl:bs.length≤1000000000)
  (hK:∀r body w',Own E_uint8 w' w.heap.size r (packL body bs)→(fixed=false→body=storeL bs)→(fixed=true→le body=(fixedN bs).1∧body.length=((fixedN bs).2+7)/8)→Below w.heap.size w w'→K r w'):c_zlib_Pack b fixed w K:=by
 refine call_zlib_Pack _ _ ?_
 unfold sh_zlib_Pack
 have hsl:=storeL_length _ bs (Nat.le_refl _)
 refine Store_spec hb hl fun t w1 ho1 hB1=>?_
 have hs1:=hB1.size
 refine jpO fun J hJ=>?_
 have go:∀(x:Slc) body w2,Own E_uint8 w2 w.heap.size x body→Below w.heap.size w w2→body.length≤100000000000→(fixed=false→body=storeL bs)→(fixed=true→le body=(fixedN bs).1∧body.length=((fixedN bs).2+7)/8)→J (x,()) w2:=fun x body w2 hx hB hbd h0 h1=>hJ _ _ (by
  clear hJ
  dsimp only
  have hs2:=hB.size
  refine call_sums_NewAdler ?_
  unfold sh_sums_NewAdler
  refine nwb fun w3 hb3 hB3 hs3=>?_
  have hb3:Blk w3 w2.heap.size ty_sums_Adler (adlCells (1,0)):=hb3
  refine nwb fun w4 hb4 hB4 hs4=>?_
  have hB04:Below w.heap.size w w4:=(hB.trans (hB3.mono hs2)).trans (hB4.mono (by omega))
  refine Of_spec (hb3.ext hB4) hb4 (hb.ext hB04) (fun hne k hk=>by have:=Rd.blk_lt hb hne k hk;omega) (by omega) fun w5 hc5=>?_
  have hBw5:Below w.heap.size w4 w5:=hc5.below (by omega) fun i hi e=>by omega
  have hB24:Below w2.heap.size w2 w4:=hB3.trans (hB4.mono (by omega))
  have hx5:=(hx.ext hB24).chg hc5 fun k hk e=>by have:=(hx.lt k hk).2;omega
  have hB05:=hB04.trans hBw5
  have hs5:=hB05.size
  refine nwb fun w6 hb6 hB6 hs6=>⟨by decide,by decide,by decide,?_⟩
  have hsum:=adlN_lt bs
  rw [show min ((24:Int)).toNat IntKind.u32.bits=24 by decide,show min ((16:Int)).toNat IntKind.u32.bits=16 by decide,show min ((8:Int)).toNat IntKind.u32.bits=8 by decide,fdiv_nat,fdiv_nat,fdiv_nat,wrap8_of,wrap8_of,wrap8_of,wrap8_of]
  refine nwb fun w7 hb7 hB7 hs7=>?_
  have r1:Rd E_uint8 w6 ⟨some ⟨w5.heap.size,0,none⟩,2,2⟩ [120,1]:=rd_lits (E:=E_uint8) (ys:=[120,1]) hb6 (by decide) rfl
  have r3:Rd E_uint8 w7 ⟨some ⟨w6.heap.size,0,none⟩,4,4⟩ (be4 (adlN bs)):=rd_lits (E:=E_uint8) (ys:=be4 (adlN bs)) hb7 (by show 4≤maxLen;simp [maxLen]) rfl
  refine ConcatB3 (r1.ext hB7) ((hx5.ext hB6).ext hB7).rd r3 (by show 2+body.length+4≤_;omega) fun r w8 ho8 hB8=>?_
  have hB57:Below w.heap.size w5 w7:=(hB6.mono hs5).trans (hB7.mono (by omega))
  exact hK r body w8 (ho8.base (by omega)) h0 h1 ((hB05.trans hB57).trans (hB8.mono (by omega))))
 cases fixed with
 | true =>
  refine cT rfl ?_
  refine Fixed_spec (hb.ext hB1) hl fun r ys w2 ho2 hle2 hlen2 hB2=>?_
  have:=fixedN_le bs
  exact go r ys w2 (ho2.base hs1) (hB1.trans (hB2.mono hs1)) (by omega) (fun e=>by cases e) fun _=>⟨hle2,hlen2⟩
 | false =>
  exact cF rfl (go t _ w1 ho1 hB1 (by omega) (fun _=>rfl) fun e=>by cases e)
end
end Go.Proofs.YtmagnpcgpinmcaaGreat
set_option linter.unusedVariables false
namespace Go.Proofs.YtmagnpcgpinmcaaGreat
open Go.Vc
structure ChL where
 kind:List UInt8
 data:List UInt8
def signL:List UInt8:=[137,80,78,71,13,10,26,10]
def ihdrL:List UInt8:=[73,72,68,82]
def plteL:List UInt8:=[80,76,84,69]
def trnsL:List UInt8:=[116,82,78,83]
def idatL:List UInt8:=[73,68,65,84]
def iendL:List UInt8:=[73,69,78,68]
def letterP (c:UInt8):Bool:=decide (65≤c.toNat∧c.toNat≤90∨97≤c.toNat∧c.toNat≤122)
inductive ChR where
 | err (n:Nat)
 | ok (c:ChL) (n:Nat)
def chunkP (b:List UInt8):ChR :=
 if b.length<4 then .err 2
 else if bigN (b.take 4)>2147483647 then .err 3
 else if b.length<8 then .err 2
 else if ((b.take 8).drop 4).all letterP=false then .err 3
 else if bigN (b.take 4)+12>b.length then .err 2
 else if crcN ((b.take (8+bigN (b.take 4))).drop 4)≠bigN ((b.drop (8+bigN (b.take 4))).take 4) then .err 4
 else .ok ⟨(b.take 8).drop 4,(b.take (8+bigN (b.take 4))).drop 8⟩ (12+bigN (b.take 4))
def signP (b:List UInt8):Nat:=if b.take 8≠signL.take b.length then 3 else if b.length<8 then 2 else 0
def chunksF (one:Bool):Nat→List UInt8→Nat×List ChL
 | 0,_=>(2,[])
 | f+1,b=>match chunkP b with
  | .err n=>(n,[])
  | .ok c n=>if one || decide (c.kind=iendL) then (0,[c]) else ((chunksF one f (b.drop n)).1,c::(chunksF one f (b.drop n)).2)
def chunksP (one:Bool) (b:List UInt8):Nat×List ChL :=
 if signP b≠0 then (signP b,[]) else if (chunksF one b.length (b.drop 8)).1≠0 then ((chunksF one b.length (b.drop 8)).1,[]) else (0,(chunksF one b.length (b.drop 8)).2)
def samplesOf (color:Int):Nat:=if color=0∨color=3 then 1 else if color=2 then 3 else if color=4 then 2 else if color=6 then 4 else 0
def depthOk (h:T_png_Head):Bool:=decide (h.Depth=8∨h.Depth=16∧h.Color≠3∨(h.Color=0∨h.Color=3)∧(h.Depth=1∨h.Depth=2∨h.Depth=4))
def checkP (h:T_png_Head):Nat :=
 if h.W<1∨h.W>16384∨h.H<1∨h.H>16384 then 1
 else if samplesOf h.Color=0∨depthOk h=false∨h.Lace<0∨h.Lace>1 then 8 else 0
def headZ:T_png_Head:=⟨0,0,0,0,0⟩
def headOf (d:List UInt8):T_png_Head:=⟨(bigN (d.take 4):Nat),(bigN ((d.drop 4).take 4):Nat),((d[8]?.getD 0).toNat:Nat),((d[9]?.getD 0).toNat:Nat),((d[12]?.getD 0).toNat:Nat)⟩
def headP (c:ChL):Nat×T_png_Head :=
 if c.kind≠ihdrL∨c.data.length≠13∨c.data[10]?.getD 0≠0∨c.data[11]?.getD 0≠0 then (3,headZ)
 else if checkP (headOf c.data)≠0 then (checkP (headOf c.data),headZ) else (0,headOf c.data)
def infoP (b:List UInt8):Nat×T_png_Head :=
 match chunksP true b with
 | (0,c::_)=>headP c
 | (e,_)=>(e,headZ)
structure FilL where
 h:T_png_Head
 pal:List UInt8
 hasP:Bool
 tr:List UInt8
 hasT:Bool
 data:List UInt8
 hasD:Bool
 wasD:Bool
def fil0 (h:T_png_Head):FilL:=⟨h,[],false,[],false,[],false,false⟩
def plteOk (f:FilL) (d:List UInt8):Bool :=
 !(f.hasP || f.hasD || decide (f.h.Color=0) || decide (f.h.Color=4) || decide (d.length%3≠0) || decide (d.length/3<1) || decide (d.length/3>256) || (decide (f.h.Color=3) && decide (d.length/3>2^f.h.Depth.toNat)))
def trnsOk (f:FilL) (d:List UInt8):Bool :=
 !f.hasT && !f.hasD && (if f.h.Color=0 then decide (d.length=2) else if f.h.Color=2 then decide (d.length=6) else if f.h.Color=3 then f.hasP && decide (d.length≤f.pal.length/3) else false)
def takeP (f:FilL) (c:ChL):Nat×FilL :=
 if c.kind=ihdrL then (3,f)
 else if c.kind=plteL then (if plteOk f c.data then (0,{ f with wasD:=false,pal:=c.data,hasP:=true }) else (3,f))
 else if c.kind=trnsL then (if trnsOk f c.data then (0,{ f with wasD:=false,tr:=c.data,hasT:=true }) else (3,f))
 else if c.kind=idatL then (if !f.hasD || f.wasD then (0,{ f with wasD:=true,hasD:=true,data:=f.data++c.data }) else (3,f))
 else if c.kind=iendL then (if c.data=[] then (0,{ f with wasD:=false }) else (3,f))
 else if (c.kind[0]?.getD 0).toNat≤90 then (8,f) else (0,{ f with wasD:=false })
def takeAll (f:FilL):List ChL→Nat×FilL
 | []=>(0,f)
 | c::l=>if (takeP f c).1≠0 then ((takeP f c).1,f) else takeAll (takeP f c).2 l
def readCh (c:ChL) (l:List ChL) (pixels:Int):Nat×FilL :=
 if (headP c).1≠0 then ((headP c).1,fil0 headZ)
 else if (headP c).2.W*(headP c).2.H>pixels∨(headP c).2.W*(headP c).2.H>67108864 then (5,fil0 headZ)
 else if (takeAll (fil0 (headP c).2) l).1≠0 then ((takeAll (fil0 (headP c).2) l).1,fil0 headZ)
 else if (takeAll (fil0 (headP c).2) l).2.hasD=false∨(headP c).2.Color=3∧(takeAll (fil0 (headP c).2) l).2.hasP=false then (3,fil0 headZ)
 else (0,(takeAll (fil0 (headP c).2) l).2)
def readAll (b:List UInt8) (pixels:Int):Nat×FilL :=
 match chunksP false b with
 | (0,c::l)=>readCh c l pixels
 | (e,_)=>(e,fil0 headZ)
def passesP (lace:Int):List PassP:=if lace=1 then passesL else onePass
def rowsOf (W H:Nat) (p:PassP):List (PassP×Nat×Nat):=(List.range (sizeP p W H).2).map fun y=>(p,y,(sizeP p W H).1)
def rowsL (h:T_png_Head):List (PassP×Nat×Nat):=(passesP h.Lace).flatMap (rowsOf h.W.toNat h.H.toNat)
def rowB (h:T_png_Head) (w:Nat):Nat:=rowP w (samplesOf h.Color) h.Depth
def needP (h:T_png_Head):Nat:=((rowsL h).map fun r=>1+rowB h r.2.2).sum
def scaleP (v n b:Nat):Nat:=if n<1∨v>n then 0 else (v*b+n/2)/n
def eightP (d:Int) (v:Nat):UInt8:=if d=8 then UInt8.ofNat v else if d=16 then UInt8.ofNat (v/256) else UInt8.ofNat (scaleP v (2^d.toNat-1) 255)
def trSame (f:FilL) (s:List Nat) (n:Nat):Bool:=(List.range n).all fun i=>decide (s[i]?.getD 0=((f.tr[2*i]?.getD 0).toNat*256+(f.tr[2*i+1]?.getD 0).toNat)%2^f.h.Depth.toNat)
def colorP (f:FilL) (s:List Nat):Option (List UInt8) :=
 let e:=fun i=>eightP f.h.Depth (s[i]?.getD 0)
 if f.h.Color=3 then
  (
   if 3*s[0]?.getD 0≥f.pal.length then none
   else some [f.pal[3*s[0]?.getD 0]?.getD 0,f.pal[3*s[0]?.getD 0+1]?.getD 0,f.pal[3*s[0]?.getD 0+2]?.getD 0,if s[0]?.getD 0<f.tr.length then f.tr[s[0]?.getD 0]?.getD 0 else 255])
 else
  let a:UInt8:=if f.hasT && trSame f s s.length then 0 else if f.h.Color=4∨f.h.Color=6 then e (s.length-1) else 255
  some (if f.h.Color=0∨f.h.Color=4 then [e 0,e 0,e 0,a] else [e 0,e 1,e 2,a])
def set4 (m:List UInt8) (k:Nat) (c:List UInt8):List UInt8:=m.take k++c++m.drop (k+4)
def pixAt (W:Nat) (p:PassP) (y x:Nat):Nat:=4*((p.y+y*p.dy)*W+p.x+x*p.dx)
def putRow (f:FilL) (p:PassP) (y:Nat) (s:List Nat):Nat→List UInt8→Option (List UInt8)
 | 0,m=>some m
 | x+1,m=>match putRow f p y s x m with
  | none=>none
  | some m=>(colorP f ((s.drop (samplesOf f.h.Color*x)).take (samplesOf f.h.Color))).map (set4 m (pixAt f.h.W.toNat p y x))
structure PxS where
 b:List UInt8
 ahead:List UInt8
 m:List UInt8
def pStepN (h:T_png_Head):Nat:=(samplesOf h.Color*h.Depth.toNat+7)/8
def aheadOf (y:Nat) (a:List UInt8):List UInt8:=if y=0 then [] else a
def rowStep (f:FilL) (r:PassP×Nat×Nat) (s:PxS):Option PxS :=
 match s.b with
 | []=>none
 | k::b =>
  if k.toNat>4 then none
  else
   let row:=undoP k.toNat (b.take (rowB f.h r.2.2)) (aheadOf r.2.1 s.ahead) (pStepN f.h)
   (putRow f r.1 r.2.1 (samplesP row f.h.Depth.toNat (samplesOf f.h.Color*r.2.2)) r.2.2 s.m).map fun m=>⟨b.drop (rowB f.h r.2.2),row,m⟩
def rowsRun (f:FilL):List (PassP×Nat×Nat)→PxS→Option PxS
 | [],s=>some s
 | r::l,s=>match rowStep f r s with
  | none=>none
  | some s'=>rowsRun f l s'
def pixelsP (f:FilL) (x:List UInt8):Option (List UInt8) :=
 (rowsRun f (rowsL f.h) ⟨x,[],List.replicate (4*f.h.W.toNat*f.h.H.toNat) 0⟩).map (·.m)
def kind4 (k:List UInt8):List UInt8:=k.take 4++List.replicate (4-k.length) 0
def layC (c:ChL):List UInt8:=be4 c.data.length++(kind4 c.kind++c.data)++be4 (crcN (kind4 c.kind++c.data))
def layP (l:List ChL):List UInt8:=signL++l.flatMap layC
def kindOf (kind:Int):Nat:=if kind<0∨kind>4 then 0 else kind.toNat
def rowPix (W:Nat) (P:List UInt8) (r:PassP×Nat×Nat) (n:Nat):List UInt8:=(List.range n).flatMap fun x=>(P.drop (pixAt W r.1 r.2.1 x)).take 4
def encRow (W:Nat) (P:List UInt8) (kind:Nat) (s:List UInt8×List UInt8) (r:PassP×Nat×Nat):List UInt8×List UInt8 :=
 (s.1++[UInt8.ofNat kind]++doP kind (rowPix W P r r.2.2) (aheadOf r.2.1 s.2) 4,rowPix W P r r.2.2)
def encHead (W H:Nat) (lace:Bool):T_png_Head:=⟨W,H,8,6,if lace then 1 else 0⟩
def encAll (W H:Nat) (P:List UInt8) (lace:Bool) (kind:Int):List UInt8:=((rowsL (encHead W H lace)).foldl (encRow W P (kindOf kind)) ([],[])).1
def encCh (W H:Nat) (P:List UInt8) (lace:Bool) (kind:Int):List ChL :=
 [⟨ihdrL,be4 W++be4 H++[8,6,0,0,if lace then 1 else 0]⟩,⟨idatL,packL (storeL (encAll W H P lace kind)) (encAll W H P lace kind)⟩,⟨iendL,[]⟩]
def encodeP (W H:Nat) (P:List UInt8) (lace:Bool) (kind:Int):List UInt8:=layP (encCh W H P lace kind)
end Go.Proofs.YtmagnpcgpinmcaaGreat
set_option linter.unusedVariables false
namespace Go.Proofs.YtmagnpcgpinmcaaGreat
open Go.Vc Go.RowKit
set_option maxRecDepth 400000
abbrev fn_sums_Crc_Sum:Nat:=256
abbrev fn_sums_Crc_Write:Nat:=257
def crcCells (v:Nat):List Value:=[.int .u32 (v:Int)]
def halfCells:List Value:=halfT.map fun (v:Nat)=>Value.int .u32 (v:Int)
theorem halfT_lt:∀i:Nat,i<16→halfT[i]?.getD 0<2^32:=by decide +kernel
theorem crcS_snoc (v:Nat) (bs:List UInt8) (b:UInt8):crcS v (bs++[b])=byteC (crcS v bs) b:=by unfold crcS;rw [List.foldl_append];rfl
theorem and15 (v:Nat):v &&& 15=v%16:=by
 have:=Nat.and_two_pow_sub_one_eq_mod v 4
 simpa using this
section
variable {w:World}
theorem CrcW_spec {s:Nat} {v:Nat} {b:Slc} {bs:List UInt8} {K:Int→Value→World→Prop} (hs:Blk w s ty_sums_Crc (crcCells v)) (hv:v<2^32) (hb:Rd E_uint8 w b bs) (hne:bs≠[]→∀k,b.blk=some k→k≠s) (hl:bs.length≤1000000000000)
  (hK:∀w',Blk w' s ty_sums_Crc (crcCells (crcS v bs))→Chg (fun k=>k=s) w w'→K ((bs.length:Nat):Int) .nilIface w'):c_sums_Crc_Write (some ⟨s,0,none⟩) b w K:=by
 refine call_sums_Crc_Write _ _ ?_
 unfold sh_sums_Crc_Write
 simp only [onPtr_some]
 rw [hb.n]
 refine nwb fun w1 hf1 hB1 hs1=>?_
 refine stK_blk hf1 (by simp) fun w2 hf2 hg2 hs2=>?_
 have hsl:=hs.lt
 obtain ⟨hn,hhn⟩:∃hn,hn=w.heap.size:=⟨_,rfl⟩
 rw [←hhn] at hf2 hg2 ⊢
 have hf2:Blk w2 hn ty_16_uint32 halfCells:=hf2
 have hsn:s≠hn:=by omega
 have hB2:Below w.heap.size w w2:=hB1.grown hg2 (by omega) fun k hk=>by cases hk;omega
 have hs2:Blk w2 s ty_sums_Crc (crcCells v):=hs.ext hB2
 have hb2:Rd E_uint8 w2 b bs:=hb.ext hB2
 clear hf1 hB1
 refine lpR (fun (t:Int×Unit) w3=>∃i:Nat,t.1=i∧i≤bs.length∧Blk w3 s ty_sums_Crc (crcCells (crcS v (bs.take i)))∧Blk w3 hn ty_16_uint32 halfCells∧Chg (fun k=>k=s) w2 w3) (fun t=>bs.length-t.1.toNat) ⟨0,rfl,by omega,hs2,hf2,Chg.refl _ _⟩ ?_
 rintro ⟨i,_⟩ w3 ⟨i,rfl,hi,h3,hf3,hc⟩ I hI
 dsimp only at *
 refine cO (fun hlt=>?_) (fun hge=>?_)
 ·have hlt:=of_decide_eq_true hlt
  have hil:i<bs.length:=by omega
  obtain ⟨x,hx,hxs⟩:=get_of (xs:=bs) (k:=i) hil
  have hbn:bs≠[]:=fun e=>by rw [e] at hil;exact absurd hil (Nat.not_lt_zero _)
  have hb3:Rd E_uint8 w3 b bs:=hb2.chg hc fun a ha e=>hne hbn _ (slk.2 ⟨a,ha,rfl⟩) e
  refine hb3.ix (i:=(i:Int)) rfl (by omega) (by omega) fun hcx=>?_
  rw [hxs] at hcx
  refine ldB8 (b:=x) hcx ?_
  obtain ⟨q,hq⟩:∃q,q=crcS v (bs.take i):=⟨_,rfl⟩
  rw [←hq] at h3
  have hql:q<2^32:=hq ▸ crcS_lt _ hv
  have h8:=x.toNat_lt
  have hxl:=xorb_lt hql x
  refine lI (x:=(q:Int)) (h3.cells 0 _ rfl) ?_
  rw [wrap_nat .u32 (x:=x.toNat) (by show _<2^32;omega),bits_xor .u32 hql (by show _<2^32;omega),add_zero]
  have nib:∀{u:Nat} {wa:World} {J:World→Prop},u<2^32→Blk wa s ty_sums_Crc (crcCells u)→Blk wa hn ty_16_uint32 halfCells→(∀w',Blk w' s ty_sums_Crc (crcCells (nibC u))→Blk w' hn ty_16_uint32 halfCells→Chg (fun k=>k=s) wa w'→J w') →
    ldI .u32 (⟨s,0,none⟩:Addr) wa.drew fun t29=>0≤(4:Int)∧ldI .u32 (⟨s,0,none⟩:Addr) wa.drew fun t34=>ixA (⟨hn,0,none⟩:Addr) 16 (bitsR .and .u32 t34 (15:Int)) 1 fun t36=>ldI .u32 t36 wa.drew fun t37 =>
     stK (⟨s,0,none⟩:Addr) [(.int .u32 (bitsR .xor .u32 (t29.fdiv (2^(min (4:Int).toNat IntKind.u32.bits))) t37))] wa.drew J:=by
   intro u wa J hu ha hfa hJ
   have had:Blk wa.drew s ty_sums_Crc (crcCells u):=ha
   have hfd:Blk wa.drew hn ty_16_uint32 halfCells:=hfa
   refine lI (x:=(u:Int)) (had.cell 0 rfl) ⟨by decide,lI (x:=(u:Int)) (had.cell 0 rfl) ?_⟩
   rw [show (15:Int)=((15:Nat):Int) from rfl,bits_and .u32 hu (by decide),and15]
   have h16:u%16<16:=Nat.mod_lt _ (by decide)
   refine ⟨⟨by omega,by show ((u%16:Nat):Int)<((16:Nat):Int);omega⟩,?_⟩
   rw [Int.toNat_natCast,Nat.mul_one]
   have hcell:halfCells[u%16]?=some (.int .u32 ((halfT[u%16]?.getD 0:Nat):Int)):=by
    unfold halfCells
    rw [List.getElem?_map,List.getElem?_eq_getElem (show u%16<halfT.length from h16)]
    rfl
   refine lI (x:=((halfT[u%16]?.getD 0:Nat):Int)) (hfd.cells _ _ hcell) ?_
   rw [show min ((4:Int)).toNat IntKind.u32.bits=4 by decide,fdiv_nat,bits_xor .u32 (by show _<2^32;omega) (halfT_lt _ h16)]
   refine stK_blk had (by simp [crcCells]) fun w' hb' hg' hs'=>hJ w' hb' (hfd.grown hg' (fun e=>by have:=Option.some.inj e;omega)) ?_
   have hBd:Below wa.heap.size wa wa.drew:=(Below.refl _ wa).drew
   exact (Chg.of_ext (S:=fun k=>k=s) hBd).trans (Chg.gg hg') fun i _ hi=>hi
  refine stK_blk h3 (by simp [crcCells]) fun w4 hb4 hg4 hs4=>?_
  have hb4:Blk w4 s ty_sums_Crc (crcCells (q ^^^ x.toNat)):=hb4
  have hf4:=hf3.grown hg4 (fun e=>by have:=Option.some.inj e;omega)
  refine nib hxl hb4 hf4 fun w5 hb5 hf5 hc5=>?_
  refine nib (nibC_lt hxl) hb5 hf5 fun w6 hb6 hf6 hc6=>?_
  rw [w64i (by omega)]
  refine hI _ _ ⟨i+1,rfl,by omega,?_,hf6,((hc.trans (Chg.gg hg4) fun i _ hi=>hi).trans hc5 fun i _ hi=>hi).trans hc6 fun i _ hi=>hi⟩ (by simp;omega)
  have e:bs.take (i+1)=bs.take i++[x]:=by rw [List.take_add_one,hx];rfl
  rw [e,crcS_snoc,←hq]
  exact hb6
 ·have hge:=of_decide_eq_false hge
  have:i=bs.length:=by omega
  subst this
  rw [List.take_length] at h3
  exact hK w3 h3 ((Chg.of_ext hB2).trans hc fun i _ hi=>hi)
theorem CrcS_spec {s:Nat} {v:Nat} {K:Int→World→Prop} (hs:Blk w s ty_sums_Crc (crcCells v)) (hv:v<2^32) (hK:K ((v ^^^ 4294967295:Nat):Int) w):c_sums_Crc_Sum (some ⟨s,0,none⟩) w K:=by
 refine call_sums_Crc_Sum _ ?_
 unfold sh_sums_Crc_Sum
 simp only [onPtr_some]
 refine lI (x:=(v:Int)) (hs.cells 0 _ rfl) ?_
 rw [show (4294967295:Int)=((4294967295:Nat):Int) from rfl,bits_xor .u32 (by decide) hv,Nat.xor_comm]
 exact hK
theorem run_crcW (s : Option Addr) (w : World) : (method (PG.types.size + Made.depth) ty_p_sums_Crc (.pointer s) "Write").run PG w = .ok (fn_sums_Crc_Write, .pointer s) w := pureRun_run _ (by kernel_rfl) w
theorem run_crcS (s : Option Addr) (w : World) : (method (PG.types.size + Made.depth) ty_p_sums_Crc (.pointer s) "Sum").run PG w = .ok (fn_sums_Crc_Sum, .pointer s) w := pureRun_run _ (by kernel_rfl) w
theorem callCW {s : Option Addr} {b : Slc} {K : Int → Value → World → Prop} (h : c_sums_Crc_Write s b w K) : callI C (.iface ty_p_sums_Crc (.pointer s)) "Write" [.slice b.a b.n b.c] [(Kind.int .i64), Kind.raw] w K :=
 ⟨_,_,_,_,rfl,run_crcW s w,by kernel_rfl,h⟩
theorem callCS {s : Option Addr} {K : Int → World → Prop} (h : c_sums_Crc_Sum s w K) : callI C (.iface ty_p_sums_Crc (.pointer s)) "Sum" [] [(Kind.int .u32)] w K :=
 ⟨_,_,_,_,rfl,run_crcS s w,by kernel_rfl,h⟩
theorem OfC_spec {s g:Nat} {b:Slc} {bs:List UInt8} {K:Int→World→Prop} (hs:Blk w s ty_sums_Crc (crcCells 4294967295)) (hg:Blk w g ty_sl_uint8 [.slice b.a b.n b.c]) (hb:Rd E_uint8 w b bs) (hne:bs≠[]→∀k,b.blk=some k→k≠s) (hl:bs.length≤1000000000000)
  (hK:∀w',Chg (fun k=>k=s) w w'→K ((crcN bs:Nat):Int) w'):c_sums_Of_sums_Crc (some ⟨s,0,none⟩) ⟨some ⟨g,0,none⟩,1,1⟩ w K:=by
 refine call_sums_Of_sums_Crc _ _ ?_
 unfold sh_sums_Of_sums_Crc
 refine lpR (fun (t:Int×Unit) w1=>(t.1=0∧w1=w)∨(t.1=1∧Blk w1 s ty_sums_Crc (crcCells (crcS 4294967295 bs))∧Chg (fun k=>k=s) w w1)) (fun t=>1-t.1.toNat) (.inl ⟨rfl,rfl⟩) ?_
 rintro ⟨i,_⟩ w1 h I hI
 dsimp only at *
 rcases h with ⟨rfl,rfl⟩ | ⟨rfl,h1,hc⟩
 ·refine cT rfl ?_
  refine ixK_at rfl (by omega) (by show (0:Int)<((1:Nat):Int);omega) ?_
  refine lSl (x:=b) ?_ ?_
  ·have:=hg.cells 0 _ rfl
   simpa [Slc.at_] using this
  ·refine callCW (CrcW_spec hs (by decide) hb hne hl fun w2 hb2 hc2=>?_)
   exact hI _ _ (.inr ⟨rfl,hb2,hc2⟩) (by decide)
 ·refine cF rfl ?_
  exact callCS (CrcS_spec h1 (crcS_lt _ (by decide)) (hK _ hc))
theorem CrcOf {b:Slc} {bs:List UInt8} {K:Int→World→Prop} (hb:Rd E_uint8 w b bs) (hl:bs.length≤1000000000000) (hK:∀w',Below w.heap.size w w'→K ((crcN bs:Nat):Int) w') :
  c_sums_NewCrc w fun t38 w9=>nw ty_sl_uint8 [(.slice b.a b.n b.c)] w9 fun t42 w10=>c_sums_Of_sums_Crc t38 (⟨(some t42),1,1⟩:Slc) w10 K:=by
 refine call_sums_NewCrc ?_
 unfold sh_sums_NewCrc
 refine nwb fun w1 h1 hB1 hs1=>nwb fun w2 h2 hB2 hs2=>?_
 have hB12:=hB1.trans (hB2.mono (by omega))
 refine OfC_spec (h1.ext hB2) h2 (hb.ext hB12) (fun hne k hk e=>?_) hl fun w3 hc3=>hK w3 (hB12.trans (hc3.below (by omega) fun i hi e=>by omega))
 have:=Rd.blk_lt hb hne k hk
 omega
theorem CrcOf2 {b:Slc} {bs:List UInt8} {K:Int→World→Prop} (hb:Rd E_uint8 w b bs) (hl:bs.length≤1000000000000) (hK:∀w',Below w.heap.size w w'→K ((crcN bs:Nat):Int) w') :
  nw ty_sl_uint8 [(.slice b.a b.n b.c)] w fun t42 w9=>c_sums_NewCrc w9 fun t38 w10=>c_sums_Of_sums_Crc t38 (⟨(some t42),1,1⟩:Slc) w10 K:=by
 refine nwb fun w1 h1 hB1 hs1=>?_
 refine call_sums_NewCrc ?_
 unfold sh_sums_NewCrc
 refine nwb fun w2 h2 hB2 hs2=>?_
 have hB12:=hB1.trans (hB2.mono (by omega))
 refine OfC_spec h2 (h1.ext hB2) (hb.ext hB12) (fun hne k hk e=>?_) hl fun w3 hc3=>hK w3 (hB12.trans (hc3.below (by omega) fun i hi e=>by omega))
 have:=Rd.blk_lt hb hne k hk
 omega
theorem big_or {x0 x1 x2 x3:Nat} (a0:x0<256) (a1:x1<256) (a2:x2<256) (a3:x3<256) :
  bitsR .or .u32 (bitsR .or .u32 (bitsR .or .u32 (IntKind.u32.wrap ((IntKind.u32.wrap (x0:Int))*2^(min (24:Int).toNat IntKind.u32.bits))) (IntKind.u32.wrap ((IntKind.u32.wrap (x1:Int))*2^(min (16:Int).toNat IntKind.u32.bits)))) (IntKind.u32.wrap ((IntKind.u32.wrap (x2:Int))*2^(min (8:Int).toNat IntKind.u32.bits)))) (IntKind.u32.wrap (x3:Int))=(((x0*256+x1)*256+x2)*256+x3:Nat):=by
 rw [show min ((24:Int)).toNat IntKind.u32.bits=24 by decide,show min ((16:Int)).toNat IntKind.u32.bits=16 by decide,show min ((8:Int)).toNat IntKind.u32.bits=8 by decide]
 rw [wrap_nat .u32 (x:=x0) (by show _<2^32;omega),wrap_nat .u32 (x:=x1) (by show _<2^32;omega),wrap_nat .u32 (x:=x2) (by show _<2^32;omega),wrap_nat .u32 (x:=x3) (by show _<2^32;omega),
  mul_pow_nat,mul_pow_nat,mul_pow_nat,wrap_nat .u32 (x:=x0*2^24) (by show _<2^32;omega),wrap_nat .u32 (x:=x1*2^16) (by show _<2^32;omega),wrap_nat .u32 (x:=x2*2^8) (by show _<2^32;omega)]
 have e1:x0*2^24 ||| x1*2^16=x0*2^24+x1*2^16:=by
  rw [Nat.or_comm,Nat.mul_comm x0,add_or (by omega)];omega
 have e2:(x0*2^24+x1*2^16) ||| x2*2^8=x0*2^24+x1*2^16+x2*2^8:=by
  rw [show x0*2^24+x1*2^16=2^16*(x0*2^8+x1) by omega,Nat.or_comm,add_or (by omega)];omega
 have e3:(x0*2^24+x1*2^16+x2*2^8) ||| x3=x0*2^24+x1*2^16+x2*2^8+x3:=by
  rw [show x0*2^24+x1*2^16+x2*2^8=2^8*(x0*2^16+x1*2^8+x2) by omega,Nat.or_comm,add_or (by omega)];omega
 rw [bits_or .u32 (by show _<2^32;omega) (by show _<2^32;omega),e1,bits_or .u32 (by show _<2^32;omega) (by show _<2^32;omega),e2,bits_or .u32 (by show _<2^32;omega) (by show _<2^32;omega),e3]
 congr 1
 omega
theorem four_of {bs:List UInt8} (h:4≤bs.length):∃x0 x1 x2 x3 r,bs=x0::x1::x2::x3::r:=by
 match bs,h with
 | x0::x1::x2::x3::r,_=>exact ⟨x0,x1,x2,x3,r,rfl⟩
theorem BigG {b:Slc} {bs:List UInt8} {K:Int→World→Prop} (hb:Rd E_uint8 w b bs) (h4:4≤bs.length) (hK:K ((bigN (bs.take 4):Nat):Int) w.drew):c_bits_Big b w K:=by
 obtain ⟨x0,x1,x2,x3,r,rfl⟩:=four_of h4
 refine call_bits_Big _ ?_
 unfold sh_bits_Big
 rw [hb.n]
 have hd:Rd E_uint8 w.drew b _:=hb.drew
 simp only [List.length_cons] at h4 ⊢
 refine cF (decide_eq_false (by omega)) ?_
 refine hd.ix (i:=0) rfl (by omega) (by simp only [List.length_cons];omega) fun h0=>ldB8 (b:=x0) h0 ⟨by decide,?_⟩
 refine hd.ix (i:=1) rfl (by omega) (by simp only [List.length_cons];omega) fun h1=>ldB8 (b:=x1) h1 ⟨by decide,?_⟩
 refine hd.ix (i:=2) rfl (by omega) (by simp only [List.length_cons];omega) fun h2=>ldB8 (b:=x2) h2 ⟨by decide,?_⟩
 refine hd.ix (i:=3) rfl (by omega) (by simp only [List.length_cons];omega) fun h3=>ldB8 (b:=x3) h3 ?_
 rw [big_or x0.toNat_lt x1.toNat_lt x2.toNat_lt x3.toNat_lt,←big4]
 exact hK
theorem bigN_lt {bs:List UInt8} (h:bs.length≤4):bigN bs<2^32:=by
 have key:∀(l:List UInt8) (n:Nat),(l.foldl (fun n b=>n*256+b.toNat) n)<(n+1)*256^l.length:=by
  intro l
  induction l with
  | nil=>intro n;simp
  | cons x r ih =>
   intro n
   have h1:=ih (n*256+x.toNat)
   have hx:=x.toNat_lt
   rw [List.foldl_cons,List.length_cons,Nat.pow_succ]
   refine Nat.lt_of_lt_of_le h1 ?_
   rw [Nat.mul_comm (256^r.length) 256,←Nat.mul_assoc]
   exact Nat.mul_le_mul_right _ (by omega)
 have:=key bs 0
 have h2:256^bs.length≤256^4:=Nat.pow_le_pow_right (by decide) h
 unfold bigN
 omega
end
end Go.Proofs.YtmagnpcgpinmcaaGreat
set_option linter.unusedVariables false
namespace Go.Proofs.YtmagnpcgpinmcaaGreat
open Go.Vc Go.RowKit
set_option maxRecDepth 400000
theorem putL_all {zs vs:List Value} (hl:vs.length=zs.length):putL zs 0 vs=vs:=by
 refine List.ext_getElem? fun m=>?_
 rw [putL_get vs zs 0 m (by omega)]
 by_cases hm:m<vs.length
 ·rw [if_pos (by omega)];rfl
 ·rw [if_neg (by omega),List.getElem?_eq_none (by omega),List.getElem?_eq_none (by omega)]
theorem all_of {g:Nat} {t:TypeId} {vs us:List Value} {w:World} {K:World→Prop} (h:Blk w g t vs) (hl:us.length=vs.length) (hK:∀w',Blk w' g t us→Chg (fun k=>k=g) w w'→w'.heap.size=w.heap.size→K w'):stK ⟨g,0,none⟩ us w K :=
 stK_blk h (by omega) fun w' hb hg hs=>hK w' (by rw [putL_all hl] at hb;exact hb) (Chg.gg hg) hs
theorem res_of {r:Rep} {g:Nat} {t:TypeId} {vs us:List Value} {x:r.T} {w:World} {K:r.T→World→Prop} (h:Blk w g t vs) (hus:r.cells x=us) (hl:us.length=vs.length) (hK:∀w',Chg (fun k=>k=g) w w'→w'.heap.size=w.heap.size→K x w') :
  stK ⟨g,0,none⟩ us w fun w'=>ldS r ⟨g,0,none⟩ w' fun y=>K y w' :=
 all_of h hl fun w' hb hc hs=>ldS_of (x:=x) (by rw [hus];exact hb.cells) (hK w' hc hs)
theorem bdw (w:World):Below w.heap.size w w.drew:=(Below.refl _ w).drew
theorem b1o {w w1 w2:World} {g:Nat} (h:Below w.heap.size w w1) (hc:Chg (fun k=>k=g) w1 w2) (hg:w.heap.size≤g):Below w.heap.size w w2 :=
 h.trans (hc.below h.size fun i hi e=>by omega)
theorem bT {w w1 w2:World} (h:Below w.heap.size w w1) (h2:Below w1.heap.size w1 w2):Below w.heap.size w w2:=h.trans (h2.mono h.size)
structure ChA (w:World) (x:T_png_Chunk) (c:ChL):Prop where
 kind:x.Kind=strB c.kind
 data:Rd E_uint8 w x.Data c.data
theorem ChA.ext {w w':World} {x:T_png_Chunk} {c:ChL} (h:ChA w x c) (hB:Below w.heap.size w w'):ChA w' x c:=⟨h.kind,h.data.ext hB⟩
structure ChO (w:World) (b:Nat) (x:T_png_Chunk) (c:ChL):Prop where
 kind:x.Kind=strB c.kind
 data:Go.Vc.Own E_uint8 w b x.Data c.data
theorem ChO.a {w:World} {b:Nat} {x:T_png_Chunk} {c:ChL} (h:ChO w b x c):ChA w x c:=⟨h.kind,h.data.rd⟩
theorem ChO.ext {w w':World} {b:Nat} {x:T_png_Chunk} {c:ChL} (h:ChO w b x c) (hB:Below w.heap.size w w'):ChO w' b x c:=⟨h.kind,h.data.ext hB⟩
theorem ChO.base {w:World} {b b':Nat} {x:T_png_Chunk} {c:ChL} (h:ChO w b x c) (hb:b'≤b):ChO w b' x c:=⟨h.kind,h.data.base hb⟩
theorem ChO.chg {S:Nat→Prop} {w w':World} {b:Nat} {x:T_png_Chunk} {c:ChL} (h:ChO w b x c) (hc:Chg S w w') (hs:∀k,x.Data.blk=some k→¬S k):ChO w' b x c:=⟨h.kind,h.data.chg hc hs⟩
theorem letter_or:∀x:Nat,x<256→((x ||| 32)<97∨(x ||| 32)>122↔¬(65≤x∧x≤90∨97≤x∧x≤122)):=by decide +kernel
section
variable {w:World}
theorem letters1_spec {x:UInt8} {K:Bool→World→Prop} (hK:K (!letterP x) w):c_png_letters_1 (x.toNat:Int) w K:=by
 refine call_png_letters_1 _ ?_
 unfold sh_png_letters_1
 have h8:=x.toNat_lt
 rw [show (32:Int)=((32:Nat):Int) from rfl,bits_or .u8 (by show _<2^8;omega) (by decide)]
 have h:=letter_or x.toNat h8
 refine cO (fun h1=>?_) fun h1=>?_
 ·have h1:=of_decide_eq_true h1
  have:letterP x=false:=decide_eq_false (h.1 (.inl (by omega)))
  rw [this] at hK
  exact hK
 ·have h1:=of_decide_eq_false h1
  by_cases h2:(x.toNat ||| 32)>122
  ·have:letterP x=false:=decide_eq_false (h.1 (.inr h2))
   rw [this] at hK
   rw [decide_eq_true (by omega)]
   exact hK
  ·have:letterP x=true:=decide_eq_true (Classical.not_not.1 fun e=>by have:=h.2 e;omega)
   rw [this] at hK
   rw [decide_eq_false (by omega)]
   exact hK
theorem letters_spec {s:Slc} {bs:List UInt8} {K:Bool→World→Prop} (hs:Rd E_uint8 w s bs) (hl:bs.length≤1000000) (hK:K (bs.all letterP) w):c_png_letters s w K:=by
 refine call_png_letters _ ?_
 unfold sh_png_letters
 refine call_slices_ContainsFunc_byte_byte _ _ ?_
 unfold sh_slices_ContainsFunc_byte_byte
 refine call_slices_IndexFunc_byte_byte _ _ ?_
 unfold sh_slices_IndexFunc_byte_byte
 rw [hs.n]
 refine lpR (fun (st:Int×Unit) w1=>w1=w∧∃i:Nat,st.1=i∧i≤bs.length∧(bs.take i).all letterP=true) (fun st=>bs.length-st.1.toNat) ⟨rfl,0,rfl,by omega,rfl⟩ ?_
 rintro ⟨i,u⟩ w1 ⟨rfl,m,hi,hm,hno⟩ I hI
 dsimp only at hi ⊢
 subst hi
 by_cases hlt:m<bs.length
 ·refine cT (decide_eq_true (by omega)) ?_
  obtain ⟨x,hx,hxs⟩:=get_of (xs:=bs) (k:=m) hlt
  refine hs.ix (i:=(m:Int)) (k:=1) rfl (by omega) (by omega) fun hcell=>?_
  rw [hxs] at hcell
  refine ldB8 (b:=x) hcell (callR_plain (by kernel_rfl) ?_)
  refine Calls.mono (letters1_spec (x:=x) (K:=fun t16 w2=>cond t16 (K (!(decide ((m:Int)≥(0:Int)))) w2) (I ((IntKind.i64.wrap ((m:Int)+(1:Int))),()) w2)) ?_) ?_
  ·cases hxl:letterP x with
   | false =>
    have:bs.all letterP=false:=by
     rw [List.all_eq_false]
     exact ⟨x,List.mem_of_getElem? hx,by rw [hxl];simp⟩
    rw [this] at hK
    refine cT rfl ?_
    rw [decide_eq_true (by omega)]
    exact hK
   | true =>
    refine cF rfl ?_
    rw [w64i (by omega)]
    refine hI _ _ ⟨rfl,m+1,rfl,by omega,?_⟩ (by simp;omega)
    rw [List.take_add_one,hx,List.all_append,hno]
    simp [hxl]
  ·rintro e w' ⟨r,rfl,hk⟩
   exact ⟨r,rfl,hk⟩
 ·refine cF (decide_eq_false (by omega)) ?_
  obtain rfl:m=bs.length:=by omega
  rw [List.take_length] at hno
  rw [hno] at hK
  exact hK
theorem chunk_spec {b:Slc} {bs:List UInt8} {K:T_png_Chunk→Int→Int→World→Prop} (hb:Rd E_uint8 w b bs) (hl:bs.length≤1000000000)
  (hE:∀n x w',chunkP bs=.err n→n≠0→Below w.heap.size w w'→K x 0 n w')
  (hO:∀c n x w',chunkP bs=.ok c n→ChO w' w.heap.size x c→Below w.heap.size w w'→12≤n→n≤bs.length→K x n 0 w'):c_png_chunk b w K:=by
 refine call_png_chunk _ ?_
 unfold sh_png_chunk
 rw [hb.n]
 refine nwb fun w1 h1 hB1 hs1=>?_
 have hend:∀(n:Nat) w2,chunkP bs=.err n→n≠0→Below w.heap.size w w2→Below w1.heap.size w1 w2→stK ⟨w.heap.size,0,none⟩ [(.string (⟨#[]⟩:ByteArray)),(.slice none 0 0)] w2 fun w3=>ldS T_png_Chunk.rep ⟨w.heap.size,0,none⟩ w3 fun r=>K r 0 n w3:=by
  intro n w2 hc hn hB hB'
  exact res_of (r:=T_png_Chunk.rep) (x:=⟨⟨#[]⟩,⟨none,0,0⟩⟩) (h1.ext hB') rfl rfl fun w3 hc3 hs3=>hE n _ w3 hc hn (b1o hB hc3 (Nat.le_refl _))
 refine cO (fun h4=>?_) fun h4=>?_
 ·have h4:=of_decide_eq_true h4
  exact hend 2 w1 (by unfold chunkP;rw [if_pos (by omega)]) (by decide) hB1 (Below.refl _ _)
 have h4:=of_decide_eq_false h4
 have h4':¬bs.length<4:=by omega
 have hb1:=hb.ext hB1
 refine BigG hb1 (by omega) ?_
 have hB3:Below w.heap.size w w1.drew:=bT hB1 (bdw _)
 have hB3':Below w1.heap.size w1 w1.drew:=bdw _
 obtain ⟨w3,hw3⟩:∃w3,w3=w1.drew:=⟨_,rfl⟩
 rw [←hw3] at hB3 hB3' ⊢
 have hnl:=bigN_lt (bs:=bs.take 4) (by rw [List.length_take];omega)
 obtain ⟨n,hn⟩:∃n,n=bigN (bs.take 4):=⟨_,rfl⟩
 rw [←hn] at hnl ⊢
 rw [w64i (x:=(n:Int)) (by omega)]
 refine cO (fun h5=>?_) fun h5=>?_
 ·have h5:=of_decide_eq_true h5
  exact hend 3 w3 (by unfold chunkP;rw [if_neg h4',←hn,if_pos (by omega)]) (by decide) hB3 hB3'
 have h5:=of_decide_eq_false h5
 have h5':¬n>2147483647:=by omega
 refine cO (fun h6=>?_) fun h6=>?_
 ·have h6:=of_decide_eq_true h6
  exact hend 2 w3 (by unfold chunkP;rw [if_neg h4',←hn,if_neg h5',if_pos (by omega)]) (by decide) hB3 hB3'
 have h6:=of_decide_eq_false h6
 have h6':¬bs.length<8:=by omega
 have hb3:=hb.ext hB3
 refine hb3.slK (l:=4) (m:=8) rfl (.inr rfl) (.inr rfl) (by omega) (by omega) fun hp=>?_
 refine letters_spec hp (by rw [List.length_drop,List.length_take];omega) ?_
 refine cO (fun h7=>?_) fun h7=>?_
 ·have h7:((bs.take 8).drop 4).all letterP=false:=by simpa using h7
  exact hend 3 w3 (by unfold chunkP;rw [if_neg h4',←hn,if_neg h5',if_neg h6',if_pos h7]) (by decide) hB3 hB3'
 have h7:((bs.take 8).drop 4).all letterP=true:=by simpa using h7
 have h7':¬((bs.take 8).drop 4).all letterP=false:=by rw [h7];simp
 rw [w64i (x:=((bs.length:Nat):Int)-12) (by omega)]
 refine cO (fun h8=>?_) fun h8=>?_
 ·have h8:=of_decide_eq_true h8
  exact hend 2 w3 (by unfold chunkP;rw [if_neg h4',←hn,if_neg h5',if_neg h6',if_neg h7',if_pos (by omega)]) (by decide) hB3 hB3'
 have h8:=of_decide_eq_false h8
 have h8':¬n+12>bs.length:=by omega
 have e8:IntKind.i64.wrap ((8:Int)+(n:Int))=((8+n:Nat):Int):=by rw [w64i (by omega)];simp
 have e12:IntKind.i64.wrap ((((8+n:Nat):Nat):Int)+(4:Int))=((12+n:Nat):Int):=by rw [w64i (by omega)];omega
 rw [e8,e12]
 refine hb3.slK (l:=4) (m:=8+n) rfl (.inr rfl) (.inr rfl) (by omega) (by omega) fun hp1=>?_
 refine hb3.slK (l:=8+n) (m:=bs.length) rfl (.inr rfl) (.inl ⟨rfl,rfl⟩) (by omega) (by omega) fun hp2=>?_
 rw [List.take_length] at hp2
 have htail:∀w12 (t43 t47:Int),t43=((crcN ((bs.take (8+n)).drop 4):Nat):Int)→t47=((bigN ((bs.drop (8+n)).take 4):Nat):Int)→Below w.heap.size w w12→Below w1.heap.size w1 w12 →
   cond (t43 !=t47) (stK ⟨w.heap.size,0,none⟩ [(.string (⟨#[]⟩:ByteArray)),(.slice none 0 0)] w12 fun w13=>ldS T_png_Chunk.rep ⟨w.heap.size,0,none⟩ w13 fun r_5=>K r_5 0 4 w13)
    (
    slK b (some 4) (some 8) 1 fun t51=>slK b (some 8) (some ((8+n:Nat):Int)) 1 fun t55 =>
    (runK1 PG (convert ty_sl_uint8 ty_string (.slice t51.a t51.n t51.c)) Kind.string w12.drew fun (t52:ByteArray) w14 =>
     c_slices_Clone_byte_byte t55 w14 fun t56 w15=>stK ⟨w.heap.size,0,none⟩ [(.string t52),(.slice t56.a t56.n t56.c)] w15 fun w16=>ldS T_png_Chunk.rep ⟨w.heap.size,0,none⟩ w16 fun r_6=>K r_6 ((12+n:Nat):Int) 0 w16) ∧
    c_slices_Clone_byte_byte t55 w12.drew fun t56_1 w17=>runK1 PG (convert ty_sl_uint8 ty_string (.slice t51.a t51.n t51.c)) Kind.string w17 fun (t52_1:ByteArray) w18 =>
     stK ⟨w.heap.size,0,none⟩ [(.string t52_1),(.slice t56_1.a t56_1.n t56_1.c)] w18 fun w19=>ldS T_png_Chunk.rep ⟨w.heap.size,0,none⟩ w19 fun r_7=>K r_7 ((12+n:Nat):Int) 0 w19):=by
  intro w12 t43 t47 e43 e47 hB hB'
  subst e43 e47
  refine cO (fun h9=>?_) fun h9=>?_
  ·have h9:crcN ((bs.take (8+n)).drop 4)≠bigN ((bs.drop (8+n)).take 4):=fun e=>by rw [e] at h9;simp at h9
   exact hend 4 w12 (by unfold chunkP;rw [if_neg h4',←hn,if_neg h5',if_neg h6',if_neg h7',if_neg h8',if_pos h9]) (by decide) hB hB'
  ·have h9:¬crcN ((bs.take (8+n)).drop 4)≠bigN ((bs.drop (8+n)).take 4):=fun e=>by
    refine e ?_
    have:((crcN ((bs.take (8+n)).drop 4):Nat):Int)=((bigN ((bs.drop (8+n)).take 4):Nat):Int):=by simpa using h9
    exact Int.ofNat.inj this
   have hok:chunkP bs=.ok ⟨(bs.take 8).drop 4,(bs.take (8+n)).drop 8⟩ (12+n):=by unfold chunkP;rw [if_neg h4',←hn,if_neg h5',if_neg h6',if_neg h7',if_neg h8',if_neg h9]
   have hBd:=bT hB (bdw w12)
   have hBd':=bT hB' (bdw w12)
   have hbd:=hb.ext hBd
   have hb12:=hb.ext hB
   refine hb12.slK (l:=4) (m:=8) rfl (.inr rfl) (.inr rfl) (by omega) (by omega) fun hq1=>?_
   refine hb12.slK (l:=8) (m:=8+n) rfl (.inr rfl) (.inr rfl) (by omega) (by omega) fun hq2=>?_
   have hq1d:=hq1.ext (bdw w12)
   have hq2d:=hq2.ext (bdw w12)
   have hsz:=hBd.size
   have fin:∀(t:Slc) w15,Go.Vc.Own E_uint8 w15 w12.drew.heap.size t ((bs.take (8+n)).drop 8)→Below w12.drew.heap.size w12.drew w15 →
     stK ⟨w.heap.size,0,none⟩ [(.string (strB ((bs.take 8).drop 4))),(.slice t.a t.n t.c)] w15 fun w16=>ldS T_png_Chunk.rep ⟨w.heap.size,0,none⟩ w16 fun r_6=>K r_6 ((12+n:Nat):Int) 0 w16:=by
    intro t w15 ht hB15
    refine res_of (r:=T_png_Chunk.rep) (x:=⟨strB ((bs.take 8).drop 4),t⟩) (h1.ext (bT hBd' hB15)) rfl rfl fun w16 hc16 hs16=>?_
    refine hO _ (12+n) _ w16 hok ⟨rfl,?_⟩ (b1o (bT hBd hB15) hc16 (Nat.le_refl _)) (by omega) (by omega)
    refine (ht.chg hc16 fun g hg e=>?_).base (by omega)
    have:=(ht.lt g hg).1
    have:=hBd'.size
    omega
   refine ⟨⟨_,_,run_bytes_strB hq1d,?_⟩,?_⟩
   ·exact CloneB_spec hq2d (by rw [List.length_drop,List.length_take];omega) fun r w15 hr hB15=>fin r w15 hr hB15
   ·refine CloneB_spec hq2d (by rw [List.length_drop,List.length_take];omega) fun r w15 hr hB15=>?_
    exact ⟨_,_,run_bytes_strB (hq1d.ext hB15),fin r w15 hr hB15⟩
 have hBd:=bT hB3 (bdw w3)
 have hBd':=bT hB3' (bdw w3)
 have hp1d:=hp1.ext (bdw w3)
 have hp2d:=hp2.ext (bdw w3)
 refine ⟨?_,?_⟩
 ·refine CrcOf hp1d (by rw [List.length_drop,List.length_take];omega) fun w11 hB11=>?_
  refine BigG (hp2d.ext hB11) (by rw [List.length_drop];omega) ?_
  exact htail _ _ _ rfl rfl (bT (bT hBd hB11) (bdw _)) (bT (bT hBd' hB11) (bdw _))
 ·refine CrcOf2 hp1d (by rw [List.length_drop,List.length_take];omega) fun w11 hB11=>?_
  refine BigG (hp2d.ext hB11) (by rw [List.length_drop];omega) ?_
  exact htail _ _ _ rfl rfl (bT (bT hBd hB11) (bdw _)) (bT (bT hBd' hB11) (bdw _))
end
end Go.Proofs.YtmagnpcgpinmcaaGreat
set_option linter.unusedVariables false
namespace Go.Proofs.YtmagnpcgpinmcaaGreat
open Go.Vc Go.RowKit
set_option maxRecDepth 400000
def eachR (one:Bool) (bs:List UInt8):Nat×List ChL:=if signP bs≠0 then (signP bs,[]) else chunksF one bs.length (bs.drop 8)
theorem chunksP_eq (one:Bool) (bs:List UInt8):chunksP one bs=((eachR one bs).1,if (eachR one bs).1≠0 then [] else (eachR one bs).2):=by
 unfold chunksP eachR
 by_cases h:signP bs≠0
 ·rw [if_pos h,if_pos h,if_pos h]
 ·rw [if_neg h,if_neg h]
  by_cases h2:(chunksF one bs.length (bs.drop 8)).1≠0
  ·rw [if_pos h2,if_pos h2]
  ·rw [if_neg h2,if_neg h2]
   have:(chunksF one bs.length (bs.drop 8)).1=0:=by omega
   rw [this]
def goP (one:Bool) (c:ChL):Bool:=!(one || decide (c.kind=iendL))
theorem chunkP_err {bs:List UInt8} {n:Nat} (h:chunkP bs=.err n):n≠0:=by
 unfold chunkP at h
 repeat' (split at h)
 all_goals (cases h;try decide)
section
variable {w:World}
theorem signO_spec {K:Slc→World→Prop} (hK:∀t w',Go.Vc.Own E_uint8 w' w.heap.size ⟨some t,8,8⟩ signL→Below w.heap.size w w'→K ⟨some t,8,8⟩ w'):c_png_sign w K:=by
 refine call_png_sign ?_
 unfold sh_png_sign
 exact nwb fun w1 h1 hB1 hs1=>hK _ w1 (own_lits (E:=E_uint8) (ys:=signL) (Nat.le_refl _) h1 (by decide) rfl) hB1
theorem sign_spec {K:Slc→World→Prop} (hK:∀t w',Rd E_uint8 w' ⟨some t,8,8⟩ signL→Below w.heap.size w w'→K ⟨some t,8,8⟩ w'):c_png_sign w K:=signO_spec fun t w' h hB=>hK t w' h.rd hB
theorem bytesEq_spec {a b:Slc} {xs ys:List UInt8} {K:Bool→World→Prop} (ha:Rd E_uint8 w a xs) (hb:Rd E_uint8 w b ys) (hK:K (decide (xs=ys)) w):c_bytes_Equal a b w K:=by
 refine call_bytes_Equal _ _ ?_
 unfold sh_bytes_Equal
 refine ⟨_,_,run_bytes_strB ha,⟨_,_,run_bytes_strB hb,?_⟩⟩
 dsimp only
 rw [strB_toList,strB_toList]
 have:(xs==ys)=decide (xs=ys):=by rw [Bool.eq_iff_iff];simp
 rw [this]
 exact hK
theorem each_spec {b:Slc} {bs:List UInt8} {f:Value} {one:Bool} {S:Nat→Prop} (Inv:List ChL→World→Prop) {K:Int→World→Prop} (hb:Rd E_uint8 w b bs) (hl:bs.length≤1000000000) (hbS:∀a,b.a=some a→¬S a.block)
  (h0:Inv [] w) (hI:∀L w1 w2,Inv L w1→Below w1.heap.size w1 w2→Inv L w2) (hS:∀L w1,Inv L w1→Chg S w w1)
  (step:∀L w1 x c,Inv L w1→L.length≤bs.length→ChO w1 w.heap.size x c→∀J:Bool→World→Prop,(∀w2,Inv (L++[c]) w2→J (goP one c) w2)→callR C f [(.agg #[(.string x.Kind),(.slice x.Data.a x.Data.n x.Data.c)])] [Kind.bool] w1 J)
  (hK:∀w1,Inv (eachR one bs).2 w1→K (eachR one bs).1 w1):c_png_each b f w K:=by
 refine call_png_each _ _ ?_
 unfold sh_png_each
 refine sign_spec fun t w1 hs hB1=>?_
 rw [hb.n]
 have hb1:=hb.ext hB1
 obtain ⟨m,hm⟩:∃m,m=min bs.length 8:=⟨_,rfl⟩
 have em:(if ((8:Nat):Int)<((bs.length:Nat):Int) then ((8:Nat):Int) else ((bs.length:Nat):Int))=(m:Int):=by
  by_cases h:((8:Nat):Int)<((bs.length:Nat):Int)
  ·rw [if_pos h];omega
  ·rw [if_neg h];omega
 dsimp only
 rw [em]
 have hm1:m≤bs.length:=by omega
 have hm8:m≤signL.length:=by show m≤8;omega
 refine hb1.slK (l:=0) (m:=m) rfl (.inl ⟨rfl,rfl⟩) (.inr rfl) (by omega) hm1 fun hp=>?_
 refine hs.slK (l:=0) (m:=m) rfl (.inl ⟨rfl,rfl⟩) (.inr rfl) (by omega) hm8 fun hq=>?_
 rw [List.drop_zero] at hp hq
 have hBd:=bdw w1
 refine bytesEq_spec (hp.ext hBd) (hq.ext hBd) ?_
 have e1:bs.take m=bs.take 8:=by
  rcases Nat.le_total bs.length 8 with h | h
  ·rw [List.take_of_length_le (show bs.length≤8 from h),List.take_of_length_le (by omega)]
  ·rw [show m=8 by omega]
 have e2:signL.take m=signL.take bs.length:=by
  rcases Nat.le_total bs.length 8 with h | h
  ·rw [show m=bs.length by omega]
  ·rw [List.take_of_length_le (show signL.length≤bs.length from h),List.take_of_length_le (show signL.length≤m by show 8≤m;omega)]
 rw [e1,e2]
 have hB2:=bT hB1 hBd
 obtain ⟨w2,hw2⟩:∃w2,w2=w1.drew:=⟨_,rfl⟩
 rw [←hw2] at hB2 ⊢
 have hI2:Inv [] w2:=hI _ _ _ h0 hB2
 refine cO (fun hne=>?_) fun heq=>?_
 ·have hne:bs.take 8≠signL.take bs.length:=by simpa using hne
  have hs3:signP bs=3:=by unfold signP;rw [if_pos hne]
  have he:eachR one bs=(3,[]):=by unfold eachR;rw [hs3,if_pos (by decide)]
  rw [he] at hK
  exact hK _ hI2
 have heq:bs.take 8=signL.take bs.length:=by simpa using heq
 have heq':¬bs.take 8≠signL.take bs.length:=fun h=>h heq
 refine cO (fun hlt=>?_) fun hge=>?_
 ·have hlt:=of_decide_eq_true hlt
  have hs2:signP bs=2:=by unfold signP;rw [if_neg heq',if_pos (by omega)]
  have he:eachR one bs=(2,[]):=by unfold eachR;rw [hs2,if_pos (by decide)]
  rw [he] at hK
  exact hK _ hI2
 have hge:=of_decide_eq_false hge
 have hs0:signP bs=0:=by unfold signP;rw [if_neg heq',if_neg (by omega)]
 have he:eachR one bs=chunksF one bs.length (bs.drop 8):=by unfold eachR;rw [hs0,if_neg (by decide)]
 have hb2:=hb.ext hB2
 refine hb2.slK (l:=8) (m:=bs.length) rfl (.inr rfl) (.inl ⟨rfl,rfl⟩) (by omega) (by omega) fun hr=>?_
 have hr0:=hb.part (l:=8) (m:=bs.length) (by omega) (by omega)
 rw [List.take_length] at hr hr0
 have hrS:∀a,(⟨cut b.a 8 b.c E_uint8.k,bs.length-8,b.c-8⟩:Slc).a=some a→¬S a.block:=fun a ha=>by
  obtain ⟨a',ha',e⟩:=cut_block ha
  rw [e]
  exact hbS a' ha'
 refine lpR (fun (s:Slc×Unit) w3=>∃(L:List ChL) (rest:List UInt8) (fu:Nat),Inv L w3∧Rd E_uint8 w s.1 rest∧(∀a,s.1.a=some a→¬S a.block)∧rest.length<fu∧L.length+rest.length≤bs.length∧chunksF one bs.length (bs.drop 8)=((chunksF one fu rest).1,L++(chunksF one fu rest).2)) (fun s=>s.1.n)
  ⟨[],bs.drop 8,bs.length,hI2,hr0,hrS,by rw [List.length_drop];omega,by rw [List.length_drop];simp,by simp⟩ ?_
 rintro ⟨s,u⟩ w3 ⟨L,rest,fu,hL,hrd,hsS,hfu,hlen,hch⟩ I hIl
 dsimp only at hrd hsS ⊢
 obtain ⟨fu,rfl⟩:∃k,fu=k+1:=⟨fu-1,by omega⟩
 have hC:=hS _ _ hL
 have hrd3:Rd E_uint8 w3 s rest:=hrd.chg hC fun a ha=>hsS a ha
 refine chunk_spec hrd3 (by omega) (fun n x w4 hcp hn hB4=>?_) (fun c n x w4 hcp hx hB4 hn12 hnle=>?_)
 ·refine nwb fun w5 h5 hB5 hs5=>?_
  refine all_of h5 rfl fun w6 h6 hc6 hs6=>?_
  have hn':((n:Int) !=0)=true:=by simp;exact hn
  refine cT hn' ?_
  have:eachR one bs=(n,L):=by rw [he,hch,chunksF,hcp];simp
  rw [this] at hK
  refine hK _ (hI _ _ _ hL (b1o (bT hB4 hB5) hc6 hB4.size))
 ·refine nwb fun w5 h5 hB5 hs5=>?_
  refine all_of h5 rfl fun w6 h6 hc6 hs6=>?_
  refine cF rfl ?_
  refine ldS_of (r:=T_png_Chunk.rep) (x:=x) h6.cells ?_
  have hB6:=b1o (bT hB4 hB5) hc6 hB4.size
  have hL6:=hI _ _ _ hL hB6
  have hx6:ChO w6 w.heap.size x c:=((hx.ext hB5).chg hc6 fun k hk e=>by have:=(hx.data.lt k hk).2;omega).base hC.size
  refine step L w6 x c hL6 (by omega) hx6 _ fun w7 hL7=>?_
  cases hg:goP one c with
  | false =>
   refine cT rfl ?_
   have hg':(one || decide (c.kind=iendL))=true:=by unfold goP at hg;revert hg;cases (one || decide (c.kind=iendL))<;>simp
   have:eachR one bs=(0,L++[c]):=by rw [he,hch,chunksF,hcp];simp only [hg'];rfl
   rw [this] at hK
   exact hK _ hL7
  | true =>
   refine cF rfl ?_
   have hg':(one || decide (c.kind=iendL))=false:=by unfold goP at hg;revert hg;cases (one || decide (c.kind=iendL))<;>simp
   have hC7:=hS _ _ hL7
   have hrd7:Rd E_uint8 w7 s rest:=hrd.chg hC7 fun a ha=>hsS a ha
   refine hrd7.slK (l:=n) (m:=rest.length) rfl (.inr rfl) (.inl ⟨rfl,rfl⟩) hnle (Nat.le_refl _) fun hrn=>?_
   have hrn0:=hrd.part (l:=n) (m:=rest.length) hnle (Nat.le_refl _)
   rw [List.take_length] at hrn0
   refine hIl _ _ ⟨L++[c],rest.drop n,fu,hL7,hrn0,fun a ha=>?_,by rw [List.length_drop];omega,by rw [List.length_append,List.length_drop,List.length_singleton];omega,?_⟩ ?_
   ·obtain ⟨a',ha',e⟩:=cut_block ha
    rw [e]
    exact hsS a' ha'
   ·rw [hch,chunksF,hcp]
    simp only [hg']
    simp
   ·have:=hrd.n
    show rest.length-n<s.n
    omega
structure ChsO (w:World) (b:Nat) (s:Slc) (L:List ChL):Prop where
 ex:∃xs,Go.Vc.Own E_png_Chunk w b s xs∧xs.length=L.length∧∀(i:Nat) x c,xs[i]?=some x→L[i]?=some c→ChO w b x c
theorem ChsO.ext {w w':World} {b:Nat} {s:Slc} {L:List ChL} (h:ChsO w b s L) (hB:Below w.heap.size w w'):ChsO w' b s L:=by
 obtain ⟨xs,h1,h2,h3⟩:=h
 exact ⟨xs,h1.ext hB,h2,fun i x c hx hc=>(h3 i x c hx hc).ext hB⟩
theorem Chunks_spec {b:Slc} {bs:List UInt8} {K:Slc→Int→World→Prop} (hb:Rd E_uint8 w b bs) (hbl:∀k,b.blk=some k→k<w.heap.size) (hl:bs.length≤1000000)
  (hK:∀s w',ChsO w' w.heap.size s (chunksP false bs).2→Below w.heap.size w w'→K s (chunksP false bs).1 w'):c_png_Chunks b w K:=by
 refine call_png_Chunks _ ?_
 unfold sh_png_Chunks
 refine nwb fun w1 h1 hB1 hs1=>?_
 have hb1:=hb.ext hB1
 refine each_spec (one:=false) (S:=fun k=>k=w.heap.size) (fun L w2=>Chg (fun k=>k=w.heap.size) w1 w2∧∃s:Slc,Blk w2 w.heap.size ty_sl_png_Chunk [.slice s.a s.n s.c]∧ChsO w2 (w.heap.size+1) s L) hb1 (by omega)
  (fun a ha e=>by have:=hbl a.block (slk.2 ⟨a,ha,rfl⟩);omega)
  ⟨Chg.refl _ _,⟨none,0,0⟩,h1,[],Own.nil _ _ _,rfl,fun i x c hx=>by simp at hx⟩ ?_ (fun L w2 h=>h.1) ?_ ?_
 ·rintro L w2 w3 ⟨hc,s,hs,hL⟩ hB
  exact ⟨hc.trans (Chg.of_ext (S:=fun k=>k=w.heap.size) hB) fun i _ hi=>hi,s,hs.ext hB,hL.ext hB⟩
 ·rintro L w2 x c ⟨hc,s,hs,xs,h2,h3,h4⟩ hLl hx J hJ
  refine callR_plain (by kernel_rfl) ?_
  have hcall:c_png_Chunks_1 x ⟨w.heap.size,0,none⟩ w2 J:=by
   refine call_png_Chunks_1 _ _ ?_
   unfold sh_png_Chunks_1
   refine nwb fun w3 hb3 hB3 hs3=>?_
   refine lSl (x:=s) ((hs.ext hB3).cell 0 rfl) ?_
   refine ldS_of (r:=T_png_Chunk.rep) (x:=x) hb3.cells ?_
   have hsz:=hc.size
   have hx3:=hx.ext hB3
   refine snoc_own (E:=E_png_Chunk) (y:=x) sT_sl_png_Chunk (h2.ext hB3) rfl (by omega) (by rw [by_sl_png_Chunk];omega) (by unfold maxLen;omega) fun r w5 hr5 hch hrb=>?_
   have hne:∀k,s.blk=some k→k≠w.heap.size:=own_ne_blk h2 hs (by decide)
   have hs5:Blk w5 w.heap.size ty_sl_png_Chunk [.slice s.a s.n s.c]:=(hs.ext hB3).chg hch fun e=>hne _ e rfl
   refine all_of hs5 rfl fun w6 h6 hc6 hs6=>?_
   have hb5:Blk w5 w2.heap.size ty_png_Chunk (T_png_Chunk.rep.cells x):=hb3.chg hch fun e=>by have:=(h2.lt _ e).2;omega
   have hb6:=hb5.chg hc6 (by omega)
   refine ldStr_of (x:=x.Kind) (hb6.cells 0 _ rfl) ?_
   have hke:(!(x.Kind.toList==(⟨#[73,69,78,68]⟩:ByteArray).toList))=goP false c:=by
    rw [hx.kind,strB_toList,show (⟨#[73,69,78,68]⟩:ByteArray)=strB iendL from rfl,strB_toList]
    unfold goP
    rw [Bool.false_or]
    congr 1
    rw [Bool.eq_iff_iff]
    simp
   rw [hke]
   have hC3:Chg (fun k=>k=w.heap.size) w1 w3:=hc.trans (Chg.of_ext (S:=fun k=>k=w.heap.size) hB3) fun i _ hi=>hi
   have hlo:=h2.lt
   have hC5:Chg (fun k=>k=w.heap.size) w1 w5:=hC3.trans hch fun i hi e=>by have:=(hlo i e).1;omega
   refine hJ w6 ⟨hC5.trans hc6 fun i _ hi=>hi,r,h6,xs++[x],?_,by simp [h3],fun i y d hy hd=>?_⟩
   ·refine hr5.chg hc6 fun g hg e=>?_
    have:=(hr5.lt g hg).1
    omega
   ·have key:∀{y d},ChO w3 (w.heap.size+1) y d→ChO w6 (w.heap.size+1) y d:=fun {y d} h=>by
     refine (h.chg hch fun k hk e=>?_).chg hc6 fun k hk e=>?_
     ·exact own_ne_row h.data (h2.ext hB3) (by decide) k hk e
     ·have:=(h.data.lt k hk).1
      omega
    rcases Nat.lt_or_ge i xs.length with hi | hi
    ·rw [List.getElem?_append_left hi] at hy
     rw [List.getElem?_append_left (by omega)] at hd
     exact key ((h4 i y d hy hd).ext hB3)
    ·rw [List.getElem?_append_right hi] at hy
     rw [List.getElem?_append_right (by omega)] at hd
     rw [h3] at hy
     generalize i-L.length=j at hy hd
     match j,hy,hd with
     | 0,hy,hd =>
      simp at hy hd
      subst hy hd
      exact key (hx3.base (by omega))
     | j+1,hy,hd=>simp at hy
  refine Calls.mono hcall ?_
  rintro e w' ⟨r,rfl,hk⟩
  exact ⟨r,rfl,hk⟩
 ·rintro w2 ⟨hc,s,hs,hL⟩
  rw [chunksP_eq] at hK
  have hB2:Below w.heap.size w w2:=b1o hB1 hc (Nat.le_refl _)
  by_cases h:(eachR false bs).1≠0
  ·have hn':(((eachR false bs).1:Int) !=0)=true:=by simp;exact h
   refine cT hn' ?_
   rw [if_pos h] at hK
   exact hK _ w2 ⟨[],Own.nil _ _ _,rfl,fun i x c hx=>by simp at hx⟩ hB2
  ·have h0:(eachR false bs).1=0:=by omega
   rw [h0] at hK ⊢
   refine cF rfl ?_
   refine lSl (x:=s) (hs.cell 0 rfl) ?_
   rw [if_neg (by decide)] at hK
   obtain ⟨xs,h1,h2,h3⟩:=hL
   exact hK s w2 ⟨xs,h1.base (by omega),h2,fun i x c hx hc=>(h3 i x c hx hc).base (by omega)⟩ hB2
end
end Go.Proofs.YtmagnpcgpinmcaaGreat
