import Derived.Test.YtjhgepnpnapnoaaGreatDoorP1
import Derived.Lib.Builder
import Derived.Lib.UnsafeStr
import Derived.Laws.Externs
import Derived.Laws.BytesArg
import Derived.MapKept
import Derived.Maps.Own
import Derived.Shelf.SlIterI.Nil
import Derived.Shelf.SortM.Plain
import Derived.Shelf.SortM.SortNone
import Derived.RangeFuncBox
import Derived.RangeFuncLeaves
import Derived.RangeFuncFrom
import Derived.RangeFuncWrites
import Derived.Shelf.Abstract
import Derived.WalkKit
import Derived.OwnWalkIn
import Derived.TacticsInMore
import Derived.LoopNIn
import Derived.LoopIn
import Derived.BigFrameIn
import Derived.BigRegionIn
import Derived.BigGuardIn
import Derived.BigGuardPartIn
import Derived.Scope
set_option linter.unusedVariables false
open Go.IntKind (i64 i32)
namespace Go.Proofs.YtjhgepnpnapnoaaGreatDoor
open Go.Vc Go.RowKit
open _root_.List (length_append length_cons length_nil length_take)
open _root_.Nat (le_refl)
def Jq (l:List UInt8):ByteArray:=⟨l.toArray⟩
theorem qbi (l:List UInt8):(Jq l).toList=l:=by rw [ByteArray.toList_eq];rfl
theorem Vx (l:List UInt8):(Jq l).size=l.length:=by simp [Jq,ByteArray.size]
theorem q2e (l:List UInt8) (n:Nat):(Jq l).extract 0 n=Jq (l.take n):=by
 apply ByteArray.ext;simp [Jq]
def Bld (w:World) (g base:Nat) (bs:List UInt8):Prop :=
 ∃(p:Option Addr) (s:Slc),Blk w g zr [.pointer p,.slice s.a s.n s.c]/\(p=none\/p=some ⟨g,0,none⟩)/\Go.Vc.Own KK w base s bs/\base<=g
def q1p (w:World) (g base:Nat) (k:Nat):Prop:=base<=k/\(k=g\/∃cs,Blk w k qF cs)
theorem qvp {w:World} {g:Nat} {t:TypeId} {vs:List Value} (h:Blk w g t vs):w.shape? g=some (t,vs.length):=by
 unfold Blk at h;simp [World.shape?,h]
theorem qmn {g:Nat} {p:Option Addr} {s:Slc} {w:World} {K:Ub} (hb:Blk w g zr [.pointer p,.slice s.a s.n s.c]) (hp:p=none\/p=some ⟨g,0,none⟩)
  (hK:∀w',Blk w' g zr [.pointer (some ⟨g,0,none⟩),.slice s.a s.n s.c]->Chg (λk=>k=g) w w'->w'.heap.size=w.heap.size->K w'):xq (some ⟨g,0,none⟩) w K:=by
 refine V3 _ ?_;refine qS (hb.cells 0 _ rfl) ?_;have d:=qvp hb;rcases hp with rfl | rfl
 ·refine ⟨some ⟨g,0,none⟩,w,?_,?_⟩
  ·exact Lib.run_to_unsafe w ⟨g,0,none⟩ (t:=zr) (by kernel_rfl) (by kernel_rfl) (by kernel_rfl) (by rw [show ((PG.info? zr).getD default).size=2 by kernel_rfl];decide) d (by simp)
  refine ⟨some ⟨g,0,none⟩,w,?_,?_⟩
  ·rw [run_callFunc_extern Tryz.func142 (by kernel_rfl) (by kernel_rfl) (by kernel_rfl) (by kernel_rfl)];rw [Lib.run_noEscape];rfl
  refine ⟨some ⟨g,0,none⟩,w,?_,?_⟩
  ·exact Lib.run_from_unsafe w ⟨g,0,none⟩ (u:=zr) (j:=(PG.info? zr).getD default) (by kernel_rfl) (by kernel_rfl) (by kernel_rfl) d (by kernel_rfl)
  show stK ((⟨g,0,none⟩:Addr).add 0) _ w _;exact qD hb (by simp) λw' f h i=>hK w' f (Chg.of_grown h λk l=>by cases l;rfl) i
 ·refine qS (hb.cells 0 _ rfl) ?_;refine ⟨λa b m hb=>by cases m;cases hb;rfl,?_⟩;rw [dTq rfl];exact hK w hb (Chg.refl _ _) rfl
theorem qjj {w:World} {g base:Nat} {s:Slc} {bs:List UInt8} {vs:List Value} (ho:Go.Vc.Own KK w base s bs) (hb:Blk w g zr vs):∀k,s.blk=some k->k≠g:=by
 intro k b;obtain ⟨c,a⟩:=ho.blk_t b;exact a.ne_t hb (by decide)
theorem zdw {w w1 w2:World} {g base:Nat} {s r:Slc} {bs cs:List UInt8} {K:Ub} (hb:Blk w1 g zr [.pointer (some ⟨g,0,none⟩),.slice s.a s.n s.c]) (ho:Go.Vc.Own KK w1 base s bs) (hg:base<=g)
  (hch:Chg (q1p w g base) w w1) (ho2:Go.Vc.Own KK w2 base r (bs++cs)) (hg2:w1.grownBy w2 s.blk) (hsb:∀k,s.blk=some k->k<w.heap.size->q1p w g base k)
  (hK:∀w',Bld w' g base (bs++cs)->Chg (q1p w g base) w w'->K w'):stK ((⟨g,0,none⟩:Addr).add 1) [.slice r.a r.n r.c] w2 K:=by
 have b:=hb.grown hg2 λe=>qjj ho hb g e.symm rfl;refine qD b (by simp) λl f d m=>hK l ⟨some ⟨g,0,none⟩,r,f,.inr rfl,?_,hg⟩ ?_
 ·exact ho2.kept d (by
   cases hr:r.blk with
   | none=>exact .inl rfl
   | some k=>exact .inr λe=>qjj ho2 b k hr (Option.some.inj e))
 ·refine (hch.trans (Chg.of_grown hg2 λk h=>h) λi j o=>hsb i o j).trans (S':=λk=>k=g) (Chg.of_grown d λk h=>by cases h;rfl) λi j e=>?_;exact ⟨by omega,.inl e⟩
theorem qyz {g base:Nat} {bs:List UInt8} {c:Int} {w:World} {K:Value->Ub} (h:Bld w g base bs) (hl:bs.length<=1000000) (hc:0<=c/\c<256)
  (hK:∀w',Bld w' g base (bs++[u8 c])->Chg (q1p w g base) w w'->K .nilIface w'):kK (some ⟨g,0,none⟩) c w K:=by
 obtain ⟨p,s,l,y,j,z⟩:=h;refine V0 _ _ ?_;refine qmn l y λt b d A=>?_;refine lSl (b.cells 1 _ rfl) ?_;have f:=j.chg d (qjj j l);refine nwb λu m a B=>?_;have C:Rd KK u ⟨some ⟨t.heap.size,0,none⟩,1,1⟩ [u8 c]:=by
  refine y9 m ?_;show [Value.int .u8 ((u8 c).toNat:Int)]=_;rw [qy9 hc.1 hc.2]
 refine jW q9r (f.ext a) C (by have:=l.lt;omega) (by rw [zj5];simp only [length_cons,length_nil];omega) (by simp only [maxLen,length_cons,length_nil];omega) λr I n o D=>?_;refine zdw (b.ext a) (f.ext a) z ?_ n o (λk v F=>?_) λw4 G q=>hK w4 G q
 ·exact (d.mono λi H e=>⟨by omega,.inl e⟩).trans (Chg.of_ext (S:=λ_=>False) a) λi H e=>e.elim
 ·exact ⟨(j.lt k v).1,.inr (j.blk_t v)⟩
theorem q5h {g base:Nat} {bs cs:List UInt8} {p:Slc} {w:World} {K:Int->Value->Ub} (h:Bld w g base bs) (hp:Rd KK w p cs) (hpb:∀a,p.a=some a->¬a.block=g) (hl:bs.length<=1000000) (hl':cs.length<=1000000)
  (hK:∀n w',Bld w' g base (bs++cs)->Chg (q1p w g base) w w'->K n .nilIface w'):y2 (some ⟨g,0,none⟩) p w K:=by
 obtain ⟨q,s,j,v,f,y⟩:=h;refine qcc _ _ ?_;refine qmn j v λt c b z=>?_;refine lSl (c.cells 1 _ rfl) ?_;have d:=f.chg b (qjj f j);refine jW q9r d (hp.chg b hpb) (by have:=j.lt;omega) (by rw [zj5];omega) (by simp only [maxLen];omega) λr D l m A=>?_;refine zdw c d y ?_ l m (λk u B=>?_) λw4 C o=>hK _ w4 C o
 ·exact b.mono λi E e=>⟨by omega,.inl e⟩
 ·exact ⟨(f.lt k u).1,.inr (f.blk_t u)⟩
theorem q7o {g base:Nat} {bs:List UInt8} {w:World} {K:ByteArray->Ub} (h:Bld w g base bs) (hl:bs.length<=1000000)
  (hK:∀w',Chg (q1p w g base) w w'->K (Jq bs) w'):yh (some ⟨g,0,none⟩) w K:=by
 obtain ⟨p,s,f,C,q,D⟩:=h;refine qbq _ ?_;refine lSl (f.drew.cells 1 _ rfl) ?_;refine lSl (f.drew.cells 1 _ rfl) ?_;rcases q.form with ⟨rfl,rfl⟩ | ⟨d,cur,r,m,b,E,F,t,G⟩
 ·refine ⟨none,w.drew,Lib.run_unsafeSliceData_nil w.drew _ _ _ _,f.drew.cells 1 _ rfl,Jq [],w.drew,?_,hK _ ⟨rfl,rfl,rfl,le_refl _,λ_ _ _=>rfl⟩⟩;exact Lib.run_unsafeString_none w.drew QP zJ zk none
 ·have i:s.n=bs.length:=by rw [r]
  have e:s.a=some ⟨d,0,none⟩:=by rw [r]
  by_cases h0:bs=[]
  ·subst h0;by_cases l:s.c=0
   ·have y:=Lib.run_unsafeSliceData_zero (P:=PG) w.drew #[qj] QP qF (by kernel_rfl) ⟨d,0,none⟩ s.n _ (qvp b.drew);rw [e,l] at f ⊢;refine ⟨_,_,y,(f.drew.alloc _).cells 1 _ rfl,Jq [],w.drew.alloc (.view ⟨d,0,none⟩ 5),?_,hK _ ?_⟩
    ·rw [i];exact Lib.run_unsafeString_none _ QP zJ zk _
    ·exact Chg.of_ext ((Below.refl _ w).drew.alloc (le_refl _) _)
   ·refine ⟨some ⟨d,0,none⟩,w.drew,?_,f.drew.cells 1 _ rfl,Jq [],w.drew,?_,hK _ ⟨rfl,rfl,rfl,le_refl _,λ_ _ _=>rfl⟩⟩
    ·rw [e];exact Lib.run_unsafeSliceData_row w.drew _ _ _ _ _ l
    ·rw [i];exact Lib.run_unsafeString_none w.drew QP zJ zk _
  ·have v:=List.length_pos_iff.2 h0;have l:s.c≠0:=by omega
   refine ⟨some ⟨d,0,none⟩,w.drew,?_,f.drew.cells 1 _ rfl,Jq bs,w.drew.freeze ⟨d,0,none⟩ bs.length,?_,hK _ ?_⟩
   ·rw [e];exact Lib.run_unsafeSliceData_row w.drew _ _ _ _ _ l
   ·rw [i];refine Lib.run_unsafeString_row w.drew QP zJ zk 5 (by kernel_rfl) (by kernel_rfl) d cur.length (qvp b.drew) bs h0 (by rw [t];simp [KK];omega) (by omega) λj x z=>?_;have A:=q.drew.rd.at_ j x z;have:=A 0 (.int .u8 x.toNat) rfl;simp only [Slc.at_,e,add_zero] at this
    rwa [show j*KK.k=j from Nat.mul_one j] at this
   ·unfold World.freeze;rw [if_neg (by omega)];refine ⟨rfl,rfl,rfl,by simp,λk H B=>?_⟩;have o:d≠k:=by
     rintro rfl;exact B ⟨m,.inr ⟨_,b⟩⟩
    show (w.heap.modify d _)[k]?=w.heap[k]?;rw [Array.getElem?_modify,if_neg o]
def qqa (l:List UInt8):List UInt8:=(l.reverse.dropWhile (·==32)).reverse
theorem q8r (l:List UInt8):qqa (l++[32])=qqa l:=by simp [qqa]
theorem zbs (l:List UInt8) (b:UInt8) (h:b≠32):qqa (l++[b])=l++[b]:=by
 have:(b==32)=false:=by simpa using h
 simp [qqa,this]
theorem q1w {l:List UInt8} {w:World} {K:ByteArray->Ub} (hl:l.length<=4611686018427387904) (hK:K (Jq (qqa l)) w):y5 (Jq l) 32 w K:=by
 refine qds _ _ ?_;refine lpR (λ(s:ByteArray×Unit) w2=>∃m:List UInt8,s.1=Jq m/\qqa m=qqa l/\m.length<=l.length/\w2=w) (λs=>s.1.size) ⟨l,rfl,rfl,le_refl _,rfl⟩ ?_;rintro ⟨s,_⟩ w2 ⟨m,rfl,hm,hml,rfl⟩ I hI;refine jpO λJ hJ=>?_;rw [Vx];refine cO (λh=>?_) (λh=>?_)
 ·obtain ⟨r,b,rfl⟩:∃r b,m=r++[b]:=⟨m.dropLast,m.getLast (by intro e;subst e;simp at h),(List.dropLast_concat_getLast _).symm⟩;rw [length_append] at *;simp only [length_cons,length_nil] at *;rw [qM (by omega)];have hi:(((r.length+(0+1):Nat):Int)-1).toNat=r.length:=by omega
  refine ⟨⟨by omega,by rw [Vx];simp;omega⟩,?_⟩;rw [hi];have hb:((Jq (r++[b])).data.getD r.length 0)=b:=by simp [Jq]
  rw [hb];refine cO (λe=>?_) (λe=>?_)
  ·have e:b=32:=by
    have e:=eq_of_beq e;have e:=Int.ofNat_inj.1 e;exact UInt8.toNat_inj.1 e
   subst e;refine hJ _ _ ?_;rw [Vx,length_append];simp only [length_cons,length_nil];rw [qM (by omega)];refine ⟨⟨by omega,by rw [Vx];simp;omega⟩,?_⟩;rw [hi];show I ((Jq (r++[32])).extract 0 r.length,()) w2;rw [q2e,List.take_left];refine hI _ _ ⟨r,rfl,by rw [<-hm,q8r],by omega,rfl⟩ (by simp [Vx])
  ·have e:b≠32:=by
    have e:=beq_eq_false_iff_ne.1 e;rintro rfl;exact e rfl
   rw [<-hm,zbs r b e] at hK;exact hK
 ·have h:=oFq h;have:m=[]:=List.eq_nil_of_length_eq_zero (by omega);subst this;rw [<-hm] at hK;exact hK
theorem q0u {l:List UInt8} {w:World} {K:ByteArray->Ub} (hl:l.length<=4611686018427387904) (hK:K (Jq (qqa l)) w):ZQ (Jq l) (⟨#[32]⟩:ByteArray) w K:=by
 refine qjk _ _ ?_;refine jpO λJ c=>?_;refine cO (λh=>?_) (λh=>?_)
 ·have h:=eq_of_beq h;rw [qbi] at h;have:l=[]:=by rw [h];exact qbi []
  subst this;exact hK
 ·refine cF (by rw [show ((⟨#[32]⟩:ByteArray)).toList=[32] from qbi [32],show ((⟨#[]⟩:ByteArray)).toList=[] from qbi []];rfl) ?_;refine c _ _ ?_;refine jpO λe d=>jpO λf a=>?_;have b:(0:Int)<(Jq [32]).size:=by rw [Vx];decide
  refine ⟨⟨Int.le_refl _,b⟩,?_⟩;refine a _ _ ?_;refine cT ?_ ⟨⟨Int.le_refl _,b⟩,?_⟩
  ·kernel_rfl
  ·exact q1w hl hK
def kL (c:qZ):List UInt8:=if c.Kind=2 then [] else if c.R=0 then [32] else q0d c.R
def zon (xs:List qZ):List UInt8:=(jA xs).flatMap kL
def zmt (xs:List qZ):ByteArray:=Jq (qqa (zon xs))
theorem qwu (r:Int):(q0d r).length<=4:=q8t _
theorem q4f (c:qZ):(kL c).length<=4:=by
 unfold kL;split
 ·simp
 ·split
  ·simp
  ·exact qwu _
theorem qs3:∀ys:List qZ,(ys.flatMap kL).length<=4*ys.length
 | []=>by simp
 | c::r=>by
  have a:=q4f c;have b:=qs3 r;rw [List.flatMap_cons,length_append,length_cons];omega
theorem zdx {l:Slc} {xs:List qZ} {w:World} {K:ByteArray->Ub} (h:Rd zD w l xs) (hl:xs.length<=10000)
  (hK:∀w',Uc w w'->K (zmt xs) w'):Vw l w K:=by
 refine qpj _ ?_;refine nwb λw1 ae S aw=>?_;refine qb0 (h.ext S) (by omega) λm w2 t T=>?_;have U:=j8 xs;have V:m.n=xs.length:=by have:=t.rd.n;rwa [U] at this
 have W:Bld w2 w.heap.size w.heap.size []:=⟨none,⟨none,0,0⟩,ae.ext T,.inl rfl,Go.Vc.Own.nil _ _ _,le_refl _⟩;have X:Uc w w2:=S.trans (T.mono (by omega));have t:Go.Vc.Own zD w2 w.heap.size m (jA xs):=t.base (by omega);refine lpR (λ(s:Int×Unit) w3=>∃k:Nat,s.1=k/\k<=xs.length/\Go.Vc.Own zD w3 w.heap.size m (jA xs)/\Bld w3 w.heap.size w.heap.size (((jA xs).take k).flatMap kL)/\Uc w w3)
  (λs=>xs.length-s.1.toNat) ⟨0,rfl,by omega,t,by simpa using W,X⟩ ?_
 rintro ⟨i,_⟩ w3 ⟨k,rfl,hk,O,z,P⟩ I hI;dsimp only at *;have A:(((jA xs).take k).flatMap kL).length<=4*k:=by
  have:=qs3 ((jA xs).take k);rw [length_take] at this;omega
 have q:∀{a b:World},Go.Vc.Own zD a w.heap.size m (jA xs)->(∃B,Blk a w.heap.size zr B)->Chg (q1p a w.heap.size w.heap.size) a b->Go.Vc.Own zD b w.heap.size m (jA xs):=by
  rintro a b O ⟨B,hv⟩ Q;refine O.chg Q λg hg=>?_;rintro ⟨_,e | ⟨cs,C⟩⟩
  ·obtain ⟨cs,C⟩:=O.blk_t hg;exact C.ne_t hv (by decide) e
  ·obtain ⟨ax,Y⟩:=O.blk_t hg;exact Y.ne_t C (by decide) rfl
 have d:∀{a b:World},Uc w a->Chg (q1p a w.heap.size w.heap.size) a b->Uc w b:=λP Q=>
  P.trans (Q.below P.size λi hi hs=>by have:=hs.1;omega)
 refine cO (λD=>?_) (λF=>?_)
 ·have D:=oTq D;rw [V] at D;have af:k<(jA xs).length:=by omega
  obtain ⟨x,hx,ah⟩:=get_of af;have G:((jA xs).take (k+1)).flatMap kL=((jA xs).take k).flatMap kL++kL x:=by
   rw [List.take_add_one,hx];simp
  have ai:i64.wrap ((k:Int)+1)=(k:Int)+1:=qM (by omega);refine O.rd.ix rfl (by omega) (by omega) λQ=>?_;rw [ah] at Q;refine qz (x:=x) Q ?_;refine jS rfl λZ H u ay=>?_;have c:Uc w Z:=P.trans (u.mono P.size);have J:=O.ext u;have f:Bld Z w.heap.size w.heap.size (((jA xs).take k).flatMap kL):=by
   obtain ⟨p,s,v,o,h3,h4⟩:=z;exact ⟨p,s,v.ext u,o,h3.ext u,h4⟩
  have aa:∃B,Blk Z w.heap.size zr B:=by obtain ⟨p,s,v,_⟩:=f;exact ⟨_,v⟩
  have L:∀{w6:World},Bld w6 w.heap.size w.heap.size (((jA xs).take k).flatMap kL++kL x)->Go.Vc.Own zD w6 w.heap.size m (jA xs)->Uc w w6->I (i64.wrap ((k:Int)+1),()) w6:=λM aj ak=>by
   rw [ai];exact hI _ _ ⟨k+1,by simp,by omega,aj,by rw [G];exact M,ak⟩ (by simp;omega)
  refine lI (H.cells 1 _ rfl) ?_;refine cO (λo=>?_) (λo=>?_)
  ·have o:=eq_of_beq o;have e:kL x=[]:=by rw [kL,if_pos o]
   exact L (by rw [e,List.append_nil];exact f) J c
  ·have o:=beq_eq_false_iff_ne.1 o;refine lI (H.cells 0 _ rfl) ?_;refine cO (λN=>?_) (λN=>?_)
   ·have N:=eq_of_beq N;have e:kL x=[32]:=by rw [kL,if_neg o,if_pos N]
    refine qyz f (by omega) (by decide) λw6 M ab=>?_;exact L (by rw [e];exact M) (q J aa ab) (d c ab)
   ·have N:=beq_eq_false_iff_ne.1 N;have e:kL x=q0d x.R:=by rw [kL,if_neg o,if_neg N]
    refine lI (H.cells 0 _ rfl) ?_;refine nwb λw7 al am az=>?_;have an:=y9 (E:=zit) al rfl;refine q76 an (by simp) λr w8 ac ao=>?_;have j:Uc Z w8:=am.trans (ao.mono (by omega));have y:Bld w8 w.heap.size w.heap.size (((jA xs).take k).flatMap kL):=by
     obtain ⟨p,s,v,o,h3,h4⟩:=f;exact ⟨p,s,v.ext j,o,h3.ext j,h4⟩
    have ap:∃B,Blk w8 w.heap.size zr B:=by obtain ⟨p,s,v,_⟩:=y;exact ⟨_,v⟩
    have aq:Rd KK w8 r (q0d x.R):=by have:=ac.rd;simpa using this
    have ar:∀a,r.a=some a->¬a.block=w.heap.size:=by
     intro a ha e;have:=(ac.lt a.block (by simp [Slc.blk,ha])).1;have v:=c.size;obtain ⟨B,hv⟩:=aa;have:=hv.lt;omega
    have:=qwu x.R;refine q5h y aq ar (by omega) (by omega) λn w9 au ad=>?_;exact L (by rw [e];exact au) (q (J.ext j) ap ad) (d (c.trans (j.mono c.size)) ad)
 ·have F:=oFq F;rw [V] at F;have:k=xs.length:=by omega
  subst this;rw [<-U,List.take_length] at z A;refine q7o z (by omega) λw4 av=>?_;refine q0u (by omega) ?_;exact hK w4 (d P av)
def okR (xs:List qZ):Prop:=∀c∈xs,-9223372036854775808<=c.R/\c.R<=9223372036854775807
theorem Ji {xs:List qZ} (h:okR xs):okR (jA xs):=by
 intro c e;obtain ⟨i,a⟩:=List.getElem?_of_mem e;have b:i<xs.length:=by have:=(List.getElem?_eq_some_iff.1 a).1;rwa [j8] at this
 obtain ⟨x,d,_⟩:=get_of b;rw [qb2 xs i x d] at a;cases a;have:=h x (List.mem_of_getElem? d);unfold qa0;split
 ·exact this
 ·split
  ·exact ⟨show (-9223372036854775808:Int)<=0 by decide,show (0:Int)<=9223372036854775807 by decide⟩
  ·split
   ·exact ⟨show (-9223372036854775808:Int)<=0 by decide,show (0:Int)<=9223372036854775807 by decide⟩
   ·exact this
theorem zdl {xs:List qZ} {i:Nat} {k:Int}:isB xs i k=true↔∃y,xs[i]?=some y/\y.Kind=k:=by
 unfold isB;rw [Bool.and_eq_true,Bool.and_eq_true,decide_eq_true_iff,decide_eq_true_iff,beq_iff_eq];constructor
 ·rintro ⟨⟨_,h⟩,e⟩;have a:i<xs.length:=by omega
  refine ⟨xs[i],List.getElem?_eq_getElem a,?_⟩;rw [qka (List.getElem?_eq_getElem a)] at e;exact e
 ·rintro ⟨y,b,e⟩;have:=(List.getElem?_eq_some_iff.1 b).1;exact ⟨⟨by omega,by omega⟩,by rw [qka b,e]⟩
theorem Jm {xs:List qZ} {k:Nat} {x:qZ} (hx:xs[k]?=some x) :
  Vh xs k=true↔x.Kind=0\/(x.Kind=1/\∃y,xs[k+1]?=some y/\y.Kind=2)\/(x.Kind=2/\1<=k/\∃y,xs[k-1]?=some y/\y.Kind=1):=by
 have c:=qka hx;unfold Vh;rw [c];by_cases h0:x.Kind=0
 ·rw [if_pos h0];exact ⟨λ_=>.inl h0,λ_=>rfl⟩
 ·rw [if_neg h0];by_cases a:x.Kind=1
  ·rw [if_pos a,show (k:Int)+1=((k+1:Nat):Int) by omega,zdl];constructor
   ·exact λh=>.inr (.inl ⟨a,h⟩)
   ·rintro (h | ⟨_,h⟩ | ⟨h,_⟩)
    ·exact absurd h h0
    ·exact h
    ·omega
  ·rw [if_neg a];by_cases b:x.Kind=2
   ·rw [if_pos b];by_cases d:1<=k
    ·rw [show (k:Int)-1=((k-1:Nat):Int) by omega,zdl];constructor
     ·exact λh=>.inr (.inr ⟨b,d,h⟩)
     ·rintro (h | ⟨h,_⟩ | ⟨_,_,h⟩)
      ·exact absurd h h0
      ·exact absurd h a
      ·exact h
    ·have:isB xs ((k:Int)-1) 1=false:=by
      unfold isB;rw [dFq (by omega)];rfl
     rw [this];constructor
     ·intro h;cases h
     ·rintro (h | ⟨h,_⟩ | ⟨_,h,_⟩)
      ·exact absurd h h0
      ·exact absurd h a
      ·exact absurd h d
   ·rw [if_neg b];constructor
    ·intro h;cases h
    ·rintro (h | ⟨h,_⟩ | ⟨h,_⟩)
     ·exact absurd h h0
     ·exact absurd h a
     ·exact absurd h b
theorem qg4 {xs:List qZ}:JB xs=true↔∀(k:Nat) x,xs[k]?=some x->Vh xs k=true/\(x.Kind=2->x.R=0):=by
 constructor
 ·intro h k x a;have c:=(List.getElem?_eq_some_iff.1 a).1;have:=zdj a;have b:okB xs k=true:=by
   unfold JB at h;rw [List.all_eq_true] at h;exact h k (List.mem_range.2 c)
  rw [this,Bool.and_eq_true] at b;refine ⟨b.1,λe=>?_⟩;have:=b.2;rw [e] at this;simpa using this
 ·intro h;refine zf6 λk c=>?_;obtain ⟨x,a,_⟩:=get_of c;obtain ⟨b,d⟩:=h k x a;rw [zdj a,b];by_cases e:x.Kind=2
  ·simp [e,d e]
  ·simp [e]
theorem qyw {xs:List qZ} {k:Nat} {x:qZ} (hx:xs[k]?=some x) (h:Vh xs k=true):¬(x.Kind≠0/\x.Kind≠1/\x.Kind≠2):=by
 rintro ⟨a,b,c⟩;rcases (Jm hx).1 h with h | h | h
 ·exact a h
 ·exact b h.1
 ·exact c h.1
theorem qq1 {xs:List qZ} {k:Nat} {x:qZ} (hx:xs[k]?=some x) (h:Vh xs k=true):(qa0 xs k x).Kind=x.Kind/\(x.Kind=2->(qa0 xs k x).R=0):=by
 unfold qa0;rw [if_neg (qyw hx h),if_neg (by rw [h];decide)];split
 ·exact ⟨rfl,λ_=>rfl⟩
 ·next h2=>exact ⟨rfl,λe=>absurd e h2⟩
theorem q90 {xs:List qZ} {k:Nat} {x:qZ} (h:Vh xs k=false):(qa0 xs k x).Kind=0:=by
 unfold qa0;split
 ·rfl
 ·rfl
theorem q0z (xs:List qZ):JB (jA xs)=true:=by
 refine qg4.2 λk n a=>?_;have l:k<xs.length:=by have:=(List.getElem?_eq_some_iff.1 a).1;rwa [j8] at this
 obtain ⟨x,c,_⟩:=get_of l;have g:=qb2 xs k x c;rw [a] at g;cases g;cases hf:Vh xs k with
 | false =>
  have i:=q90 (x:=x) hf;exact ⟨(Jm a).2 (.inl i),λe=>by rw [i] at e;cases e⟩
 | true =>
  obtain ⟨j,m⟩:=qq1 c hf;rw [j];refine ⟨(Jm a).2 ?_,m⟩;rw [j];rcases (Jm c).1 hf with h | ⟨h,y,b,d⟩ | ⟨h,f,y,b,d⟩
  ·exact .inl h
  ·refine .inr (.inl ⟨h,_,qb2 xs _ y b,?_⟩);have:=(Jm b).2 (.inr (.inr ⟨d,by omega,x,c,h⟩));rw [(qq1 b this).1,d]
  ·refine .inr (.inr ⟨h,f,_,qb2 xs _ y b,?_⟩);have:=(Jm b).2 (.inr (.inl ⟨d,x,by rw [show k-1+1=k by omega];exact c,h⟩));rw [(qq1 b this).1,d]
theorem zll {xs:List qZ} (h:JB xs=true):jA xs=xs:=by
 refine List.ext_getElem? λk=>?_;cases hx:xs[k]? with
 | none=>rw [List.getElem?_eq_none_iff] at hx ⊢;rw [j8];exact hx
 | some x =>
  rw [qb2 xs k x hx];obtain ⟨a,b⟩:=qg4.1 h k x hx;unfold qa0;rw [if_neg (qyw hx a),if_neg (by rw [a];decide)];split
  ·next e =>
   have:=b e;cases x;simp only at this;rw [this]
  ·rfl
theorem q2q {xs:List qZ} (h:JB xs=true) (n:Nat) (a:yX):JB (xs++List.replicate n (vk a))=true:=by
 have g:=qg4.1 h;refine qg4.2 λk x b=>?_;rcases Nat.lt_or_ge k xs.length with d | d
 ·rw [List.getElem?_append_left d] at b;obtain ⟨i,j⟩:=g k x b;refine ⟨(Jm (by rw [List.getElem?_append_left d];exact b)).2 ?_,j⟩;rcases (Jm b).1 i with h | ⟨h,y,c,e⟩ | ⟨h,l,y,c,e⟩
  ·exact .inl h
  ·have:=(List.getElem?_eq_some_iff.1 c).1;exact .inr (.inl ⟨h,y,by rw [List.getElem?_append_left this];exact c,e⟩)
  ·have:=(List.getElem?_eq_some_iff.1 c).1;exact .inr (.inr ⟨h,l,y,by rw [List.getElem?_append_left this];exact c,e⟩)
 ·have f:=b;rw [List.getElem?_append_right d,List.getElem?_replicate] at b;split at b
  ·cases b;exact ⟨(Jm f).2 (.inl rfl),λ_=>rfl⟩
  ·cases b
theorem q7d (xs:List qZ) (col r width:Int) (a:yX):(q8z xs col r width a).length=xs.length:=by
 unfold q8z;split
 ·exact j8 xs
 ·rw [q0m,q45,j8]
theorem qwo (xs:List qZ) (col k:Int) (a:yX):(qj9 xs col k a).length=xs.length:=by
 unfold qj9;have b:=j8 xs;obtain ⟨e,d⟩:=qt8;dsimp only;split
 ·exact b
 ·next h =>
  have:=d h;rw [j8];simp;omega
theorem q72 (xs:List qZ) (cols:Int):(ZF xs cols).length=(min 1000 (max 0 cols)).toNat:=by
 unfold ZF;have a:=j8 xs;dsimp only;split
 ·rw [j8];simp;omega
 ·simp;omega
theorem qya {xs:List qZ} (h:okR xs) {i:Nat} {c:qZ} (hc:-9223372036854775808<=c.R/\c.R<=9223372036854775807):okR (xs.set i c):=λx b=>by
 rcases List.mem_or_eq_of_mem_set b with a | a
 ·exact h x a
 ·rw [a];exact hc
theorem q3a (a:yX):-9223372036854775808<=(vk a).R/\(vk a).R<=9223372036854775807:=⟨show (-9223372036854775808:Int)<=0 by decide,show (0:Int)<=9223372036854775807 by decide⟩
theorem qrg (n:Nat) (a:yX):okR (List.replicate n (vk a)):=λc b=>by rw [List.eq_of_mem_replicate b];exact q3a a
theorem qri {xs ys:List qZ} (h:okR xs) (h':okR ys):okR (xs++ys):=λc b=>by
 rcases List.mem_append.1 b with a | a
 ·exact h c a
 ·exact h' c a
theorem qyi {xs:List qZ} (h:okR xs) (n:Nat):okR (xs.take n):=λc a=>h c (List.mem_of_mem_take a)
theorem zh5 {xs:List qZ} (h:okR xs) (n:Nat):okR (xs.drop n):=λc a=>h c (List.mem_of_mem_drop a)
theorem q8c {xs:List qZ} (h:okR xs) (p:Int):okR (qet xs p):=by
 unfold qet;split
 ·exact qya h (q3a _)
 ·exact h
theorem zkz {xs:List qZ} (h:okR xs) {col r width:Int} {a:yX} (hr:-9223372036854775808<=r/\r<=9223372036854775807):okR (q8z xs col r width a):=by
 unfold q8z;split
 ·exact Ji h
 ·refine q8c (q8c ?_ _) _;unfold q0t;split
  ·exact qya (qya (Ji h) hr) ⟨show (-9223372036854775808:Int)<=0 by decide,show (0:Int)<=9223372036854775807 by decide⟩
  ·exact qya (Ji h) hr
theorem zlq {xs:List qZ} (h:okR xs) (col k:Int) (a:yX):okR (qj9 xs col k a):=by
 unfold qj9;dsimp only;split
 ·exact Ji h
 ·exact Ji (qri (qri (qyi (Ji h) _) (qrg _ _)) (zh5 (qyi (Ji h) _) _))
theorem zlp {xs:List qZ} (h:okR xs) (cols:Int):okR (ZF xs cols):=by
 unfold ZF;dsimp only;split
 ·exact Ji (qyi (Ji h) _)
 ·exact qri (Ji h) (qrg _ _)
def zn7:El Slc where
 cells s:=[.slice s.a s.n s.c]
 t:=zm
 k:=1
 pos:=by decide
 len _:=rfl
 one x v hv:=by
  simp only [List.mem_cons,List.mem_nil_iff,or_false] at hv;rcases hv with rfl
  rfl
noncomputable def qom:SlT PG slE zm where
 ht:=by kernel_rfl
 i:=(PG.info? zA).getD default
 hi:=by kernel_rfl
 z:=.slice none 0 0
 hz:=by kernel_rfl
 hs:=by kernel_rfl
 hzs:=rfl
theorem q64:qom.i.bytes=24:=by kernel_rfl
theorem zex {n:Int} {w:World} {K:Slc->Ub} (h0:0<=n) (hn:n<=1000000) (hK:∀r w',Go.Vc.Own slE w' w.heap.size r []->Uc w w'->K r w'):xu (⟨none,0,0⟩:Slc) n w K:=by
 refine ZM _ _ ?_;refine jpO λJ b=>?_;refine cF (by simpa using h0) (b _ _ ?_);have c:i64.wrap (n-(i64.wrap (((0:Nat):Int)-((0:Nat):Int))))=n:=by
  rw [qM (x:=((0:Nat):Int)-((0:Nat):Int)) (by omega),qM (by omega)];omega
 simp only;refine cO (λh=>?_) (λh=>?_)
 ·have h:=oTq h;refine yB (by omega) (by omega) (Zd ?_);refine q4k qom (kk:=.i64) (by kernel_rfl) (n:=n.toNat) (by omega) (by omega) (by simp only [maxLen];omega) (by rw [q64];omega) λa w' g i d f=>?_;refine yB (by omega) (by simp) (Zd ?_);have e:cut (some ⟨w.heap.size,0,none⟩) 0 a 1=some ⟨w.heap.size,0,none⟩:=by
   unfold cut;split
   ·rfl
   ·simp
  rw [e];exact hK _ _ d f
 ·exact hK _ _ (Go.Vc.Own.nil _ _ _) (Below.refl _ _)
def zi4 (w:World) (ss:List Slc) (xss:List (List Slc)):Prop:=ss.length=xss.length/\∀(i:Nat) s xs,ss[i]?=some s->xss[i]?=some xs->Rd slE w s xs
theorem q59 (xss:List (List Slc)) (k:Nat):(xss.take k).flatten.length<=xss.flatten.length:=by
 conv=>rhs;rw [<-List.take_append_drop k xss]
 rw [List.flatten_append,length_append];omega
theorem qqq {xss:List (List Slc)} {k:Nat} {xs:List Slc} (h:xss[k]?=some xs):(xss.take (k+1)).flatten=(xss.take k).flatten++xs:=by
 rw [List.take_add_one,h];simp
theorem quk {p:Slc} {ss:List Slc} {xss:List (List Slc)} {w:World} {K:Slc->Ub} (hp:Rd zn7 w p ss) (hss:zi4 w ss xss) (hl:xss.flatten.length<=1000000) (hn:ss.length<=1000000)
  (hK:∀r w',Go.Vc.Own slE w' w.heap.size r xss.flatten->Uc w w'->K r w'):zR p w K:=by
 refine QG _ ?_;have c:=hp.n;obtain ⟨o,hss⟩:=hss;refine lpR (λ(s:Int×Int×Unit) w2=>∃k:Nat,s.2.1=k/\k<=ss.length/\s.1=((xss.take k).flatten.length:Nat)/\w2=w) (λs=>ss.length-s.2.1.toNat) ⟨0,rfl,by omega,rfl,rfl⟩ ?_;rintro ⟨t,i,_⟩ w2 ⟨k,rfl,D,rfl,rfl⟩ I hI;dsimp only at *;have d:=q59 xss;refine cO (λa=>?_) (λb=>?_)
 ·have a:=oTq a;have e:k<ss.length:=by omega
  have q:=List.getElem?_eq_getElem e;have h:xss[k]?=some (xss[k]'(by omega)):=List.getElem?_eq_getElem _;refine hp.ix rfl (by omega) (by omega) λu=>?_;refine lSl (x:=ss[k]) (by simpa using u 0 _ rfl) ?_;have v:=hss k _ _ q h;have y:=v.n;have j:=qqq h;have l:=d (k+1);rw [j,length_append] at l;rw [y,qM (by omega)];rw [qM (by omega)];exact hI _ _ ⟨k+1,by simp,by omega,by rw [j];simp,rfl⟩ (by simp;omega)
 ·have b:=oFq b;have:k=ss.length:=by omega
  subst this;have l:=d ss.length;refine zex (by omega) (by omega) λg G z A=>?_;refine lpR (λ(s:Slc×Int×Unit) w4=>∃k:Nat,s.2.1=k/\k<=ss.length/\Go.Vc.Own slE w4 w2.heap.size s.1 ((xss.take k).flatten)/\Uc w2 w4) (λs=>ss.length-s.2.1.toNat) ⟨0,rfl,by omega,by simpa using z,A⟩ ?_;rintro ⟨t,i,_⟩ w4 ⟨k,rfl,D,m,f⟩ I2 hI2;dsimp only at *;refine cO (λa=>?_) (λb=>?_)
  ·have a:=oTq a;have e:k<ss.length:=by omega
   have q:=List.getElem?_eq_getElem e;have h:xss[k]?=some (xss[k]'(by omega)):=List.getElem?_eq_getElem _;refine (hp.ext f).ix rfl (by omega) (by omega) λu=>?_;refine lSl (x:=ss[k]) (by simpa using u 0 _ rfl) ?_;have v:=(hss k _ _ q h).ext f;have j:=qqq h;have l:=d (k+1);rw [j,length_append] at l;refine jW qom m v f.size (by rw [q64];omega) (by simp only [maxLen];omega) λr H B C E=>?_;rw [qM (by omega)];exact hI2 _ _ ⟨k+1,by simp,by omega,by rw [j];exact B,f.grown C f.size λg F=>(m.lt g F).1⟩ (by simp;omega)
  ·have b:=oFq b;have:k=ss.length:=by omega
   subst this;rw [o,List.take_length] at m;exact hK _ _ m f
theorem zdu {w:World} {a b c d:Slc} {xs ys zs us:List Slc} (ha:Rd slE w a xs) (hb:Rd slE w b ys) (hc:Rd slE w c zs) (hd:Rd slE w d us):zi4 w [a,b,c,d] [xs,ys,zs,us]:=by
 refine ⟨rfl,λi s l e f=>?_⟩
 match i,e,f with
 | 0,e,f=>cases e;cases f;exact ha
 | 1,e,f=>cases e;cases f;exact hb
 | 2,e,f=>cases e;cases f;exact hc
 | 3,e,f=>cases e;cases f;exact hd
 | i+4,e,f=>cases e
def Lines (w:World) (base:Nat) (ls:List Slc) (xss:List (List qZ)):Prop:=ls.length=xss.length/\∀(i:Nat) s xs,ls[i]?=some s->xss[i]?=some xs->Go.Vc.Own zD w base s xs
section
variable {w w':World} {base:Nat} {ls ms:List Slc} {xss yss:List (List qZ)}
theorem Lines.nil (w:World) (base:Nat):Lines w base [] []:=⟨rfl,λi s a h=>by simp at h⟩
theorem Lines.ext (h:Lines w base ls xss) (hb:Uc w w'):Lines w' base ls xss:=⟨h.1,λi s a b c=>(h.2 i s a b c).ext hb⟩
theorem Lines.chg {S:Nat->Prop} (h:Lines w base ls xss) (hc:Chg S w w') (hS:∀k cs,S k->¬Blk w k zi cs):Lines w' base ls xss :=
 ⟨h.1,λi s b c d=>(h.2 i s b c d).chg hc λg e f=>by
  obtain ⟨cs,a⟩:=(h.2 i s b c d).blk_t e;exact hS g cs f a⟩
theorem Lines.append (h:Lines w base ls xss) (h':Lines w base ms yss):Lines w base (ls++ms) (xss++yss):=by
 refine ⟨by rw [length_append,length_append,h.1,h'.1],λi s d b c=>?_⟩;rcases Nat.lt_or_ge i ls.length with a | a
 ·rw [List.getElem?_append_left a] at b;rw [List.getElem?_append_left (by rw [<-h.1];exact a)] at c;exact h.2 i s d b c
 ·rw [List.getElem?_append_right a] at b;rw [List.getElem?_append_right (by rw [<-h.1];exact a),<-h.1] at c;exact h'.2 _ s d b c
theorem Lines.take (h:Lines w base ls xss) (n:Nat):Lines w base (ls.take n) (xss.take n):=by
 refine ⟨by simp [h.1],λi s c a b=>?_⟩;rw [List.getElem?_take] at a b;split at a
 ·next hi=>rw [if_pos hi] at b;exact h.2 i s c a b
 ·cases a
theorem Lines.drop (h:Lines w base ls xss) (n:Nat):Lines w base (ls.drop n) (xss.drop n):=by
 refine ⟨by simp [h.1],λi s c a b=>?_⟩;rw [List.getElem?_drop] at a b;exact h.2 _ s c a b
theorem Lines.set (h:Lines w base ls xss) (i:Nat) {s:Slc} {xs:List qZ} (hs:Go.Vc.Own zD w base s xs):Lines w base (ls.set i s) (xss.set i xs):=by
 refine ⟨by simp [h.1],λj t c a b=>?_⟩;rw [List.getElem?_set] at a b;by_cases hij:i=j
 ·rw [if_pos hij] at a b;split at a
  ·rw [if_pos (by rw [<-h.1];assumption)] at b;cases a;cases b;exact hs
  ·cases a
 ·rw [if_neg hij] at a b;exact h.2 j t c a b
theorem Lines.one {s:Slc} {xs:List qZ} (hs:Go.Vc.Own zD w base s xs):Lines w base [s] [xs]:=by
 refine ⟨rfl,λi t c a b=>?_⟩
 match i,a,b with
 | 0,a,b=>cases a;cases b;exact hs
 | i+1,a,b=>cases a
end
def Xl (w:World) (base r:Nat) (s:Slc) (most:Nat) (old:List (List qZ)):Prop :=
 ∃(at_:Nat) (gone:Int) (ls:List Slc) (xss:List (List qZ)),Blk w r zj [.int .i64 most,.slice s.a s.n s.c,.int .i64 at_,.int .i64 gone]/\Go.Vc.Own slE w base s ls/\Lines w base ls xss/\base<=r /\
  old=xss.drop at_++xss.take at_/\xss.length<=most/\(at_=0\/(at_<xss.length/\xss.length=most))
theorem q54 {base:Nat} {most:Int} {w:World} {K:Option Addr->Int->Ub} (h0:0<=most) (h1:most<=65536) (hb:base<=w.heap.size)
  (hK:∀w',Xl w' base w.heap.size ⟨none,0,0⟩ most.toNat []->Uc w w'->w'.heap.size=w.heap.size+1->K (some ⟨w.heap.size,0,none⟩) 0 w'):Zc most w K:=by
 refine qhx _ ?_;refine jpO λJ hJ=>?_;refine cF (by simpa using h0) (cF (by simpa using h1) (hJ _ _ ?_));refine nwb λw1 hb1 hB1 hs1=>hK _ ⟨0,0,[],[],?_,Go.Vc.Own.nil _ _ _,Lines.nil _ _,hb,rfl,by simp,.inl rfl⟩ hB1 hs1;rw [show ((most.toNat:Nat):Int)=most by omega];exact hb1
theorem q4g {base r most:Nat} {s:Slc} {old:List (List qZ)} {w:World} {K:Int->Ub} (h:Xl w base r s most old) (hK:K old.length w):vB (some ⟨r,0,none⟩) w K:=by
 obtain ⟨b,a,k,c,d,f,g,i,e,l,m⟩:=h;refine qae _ ?_;refine lSl (d.cells 1 _ rfl) ?_;have j:s.n=old.length:=by
  rw [f.rd.n,g.1,e,length_append,List.length_drop,length_take];omega
 rw [j];exact hK
theorem q9o {base r most:Nat} {s:Slc} {old:List (List qZ)} {i:Int} {w:World} {K:Slc->Bool->Ub} (h:Xl w base r s most old) (hmost:most<=100000)
  (hK1:∀t xs,0<=i->old[i.toNat]?=some xs->Go.Vc.Own zD w base t xs->K t true w.drew) (hK2:(i<0\/i>=old.length)->K ⟨none,0,0⟩ false w):yf (some ⟨r,0,none⟩) i w K:=by
 obtain ⟨a,B,o,b,p,C,u,E,e,L,M⟩:=h;refine qbu _ _ ?_;have c:old.length=b.length:=by rw [e,length_append,List.length_drop,length_take];omega
 have d:s.n=old.length:=by rw [C.rd.n,u.1,c]
 refine jpO λN v=>jpO λF f=>?_;have D:(i<0\/i>=old.length)->F (true,()) w:=λG=>f _ _ (cT rfl (hK2 G));refine cO (λq=>D (.inl (oTq q))) (λq=>?_);have q:=oFq q;refine lSl (x:=s) (p.cells 1 _ rfl) ?_;rw [d];by_cases h1:i>=(old.length:Int)
 ·rw [dTq h1];exact D (.inr h1)
 ·rw [dFq h1];refine f _ _ (cF rfl (v _ _ ?_));refine lSl (x:=s) (p.drew.cells 1 _ rfl) (show ldI _ _ _ _ from lI (x:=a) (p.drew.cells 2 _ rfl) (show zW _ _ _ from lSl (x:=s) (p.drew.cells 1 _ rfl) ?_));rw [d];refine ⟨by omega,?_⟩;rw [qM (by omega),Int.tmod_eq_emod_of_nonneg (by omega)];obtain ⟨k,rfl⟩:∃k:Nat,i=k:=⟨i.toNat,by omega⟩;have g:((a:Int)+k)%(old.length:Int)=(((a+k)%old.length:Nat):Int):=by
   rw [Int.natCast_emod,Int.natCast_add]
  have l:(a+k)%old.length<old.length:=Nat.mod_lt _ (by omega);rw [g];have y:old[k]?=b[(a+k)%old.length]?:=by
   rw [e];have z:(b.drop a).length=b.length-a:=by simp
   by_cases hk:k<b.length-a
   ·rw [List.getElem?_append_left (by omega),List.getElem?_drop];rw [<-e,c,Nat.mod_eq_of_lt (by omega)]
   ·rw [List.getElem?_append_right (by omega),z,List.getElem?_take_of_lt (by omega),<-e,c];congr 1;rw [Nat.mod_eq_sub_mod (by omega),Nat.mod_eq_of_lt (by omega)];omega
  generalize (a+k)%old.length=j at *;have H:j<o.length:=by rw [u.1,<-c];exact l
  have I:j<b.length:=by rw [<-c];exact l
  have A:o[j]?=some o[j]:=List.getElem?_eq_getElem _;have m:b[j]?=some b[j]:=List.getElem?_eq_getElem _;refine C.drew.rd.ix rfl (by omega) (by omega) λJ=>?_;refine lSl (by simpa using J 0 _ rfl) ?_;refine hK1 _ b[j] (by omega) ?_ (u.2 _ _ _ A m);rw [<-m,<-y];rfl
def qk1 (most:Nat) (old:List (List qZ)) (x:List qZ):List (List qZ):=if most=0 then old else if old.length<most then old++[x] else old.tail++[x]
def qk9 (r:Nat) (s:Slc) (k:Nat):Prop:=k=r\/s.blk=some k
theorem zfe {r:Nat} {vs:List Value} {w:World} {K:Ub} (hb:Blk w r zj vs) (h2:vs[2]?=some (Ua 0)) (hK:K w):vj (some ⟨r,0,none⟩) w K:=by
 refine VS _ ?_;refine lI (hb.cells 2 _ h2) ?_;exact cF rfl hK
theorem qo5 {w:World} {base r:Nat} {s:Slc} {ls:List Slc} {vs:List Value} (ho:Go.Vc.Own slE w base s ls) (hb:Blk w r zj vs):∀k,s.blk=some k->k≠r:=by
 intro k b;obtain ⟨c,a⟩:=ho.blk_t b;exact a.ne_t hb (by decide)
theorem zet {base r most:Nat} {s t:Slc} {old:List (List qZ)} {xs:List qZ} {w:World} {K:Slc->Bool->Ub} (h:Xl w base r s most old) (ht:Go.Vc.Own zD w base t xs) (hmost:most<=100000) (hbase:base<=w.heap.size)
  (hK:∀u b s' w',Xl w' base r s' most (qk1 most old xs)->Chg (qk9 r s) w w'->(s'.blk=s.blk\/∃k,s'.blk=some k/\w.heap.size<=k)->K u b w'):x9 (some ⟨r,0,none⟩) t w K:=by
 obtain ⟨a,l,z,c,m,A,hl,J,e,hm,ha⟩:=h;refine Yn _ _ ?_;simp only [onPtr_some];have ah:s.n=z.length:=A.rd.n;have ai:=hl.1;have a4:old.length=c.length:=by rw [e,length_append,List.length_drop,length_take];omega
 have d:∀k Q,qk9 r s k->¬Blk w k zi Q:=by
  rintro k Q (rfl | o) v
  ·exact v.ne_t m (by decide) rfl
  ·obtain ⟨a5,R⟩:=A.blk_t o;exact v.ne_t R (by decide) rfl
 refine lI (x:=(most:Int)) (m.cells 0 _ rfl) ?_;refine cO (λH=>?_) (λH=>?_)
 ·have H:most=0:=by have:=eq_of_beq H;omega
  refine lI (x:=l) (m.cells 3 _ rfl) ?_;rw [qC];refine qD m (by simp) λw1 aj T a6=>?_;have U:Chg (qk9 r s) w w1:=Chg.of_grown T λk o=>by cases o;exact .inl rfl
  refine hK _ _ s w1 ⟨a,_,z,c,aj,A.kept T (.inr λB=>qo5 A m _ B rfl),hl.chg U d,J,?_,hm,ha⟩ U (.inl rfl);rw [qk1,if_pos H];exact e
 ·have H:most≠0:=by have:=beq_eq_false_iff_ne.1 H;omega
  have G:=m.drew;refine lSl (x:=s) (G.cells 1 _ rfl) ?_;refine lI (x:=(most:Int)) (G.cells 0 _ rfl) ?_;refine cO (λV=>?_) (λV=>?_)
  ·have V:=oTq V;have ak:a=0:=by rcases ha with h | ⟨_,h⟩<;>omega
   subst ak;refine zfe G rfl ?_;refine lSl (x:=s) (G.cells 1 _ rfl) ?_;refine nwb λw3 al am a7=>?_;have an:=y9 (E:=slE) al rfl;have f:Uc w w3:=(Below.refl _ w).drew.trans am;refine jW qom (A.ext f) an (by have:=f.size;omega) (by rw [q64];simp;omega) (by simp [maxLen];omega) λq w4 W X ao=>?_;have Y:=m.ext f;have Z:=Y.grown X λB=>qo5 A m _ B.symm rfl;rw [qC];refine qD Z (by simp) λw5 ap aa a8=>?_;have v:Chg (qk9 r s) w w5:=((Chg.of_ext (S:=qk9 r s) f).trans (S':=λk=>s.blk=some k) (Chg.of_grown X λk o=>o) λi _ L=>.inr L).trans (S':=λk=>k=r) (Chg.of_grown aa λk o=>by cases o;rfl) λi _ L=>.inl L;refine hK _ _ q w5 ⟨0,l,z++[t],c++[xs],ap,W.kept aa (.inr λB=>qo5 W Z _ B rfl),(hl.chg v d).append (Lines.one (ht.chg v λg M hs=>?_)),J,?_,?_,.inl rfl⟩ v ?_
   ·obtain ⟨Q,N⟩:=ht.blk_t M;exact d g Q hs N
   ·rw [qk1,if_neg H,if_pos (by omega),e];simp
   ·simp;omega
   ·rcases ao with hh | hh
    ·exact .inl hh
    ·exact .inr ⟨_,hh,f.size⟩
  ·have V:=oFq V;have aq:c.length=most:=by omega
   have a3:a<z.length:=by rcases ha with h | ⟨h,_⟩<;>omega
   have I:Blk w.drew.drew r zj _:=m;have ar:Go.Vc.Own slE w.drew.drew base s z:=A;refine lSl (x:=s) (I.cells 1 _ rfl) ?_;refine lI (x:=(a:Int)) (I.cells 2 _ rfl) ?_;refine ar.rd.ix rfl (by omega) (by omega) λv=>?_;refine lSl (x:=z[a]) (by simpa using v 0 _ rfl) ?_;have j:Blk w.drew.drew.drew r zj _:=m;have C:Go.Vc.Own slE w.drew.drew.drew base s z:=A;refine lSl (x:=s) (j.cells 1 _ rfl) ?_;refine lI (x:=(a:Int)) (j.cells 2 _ rfl) ?_;refine C.rd.ix rfl (by omega) (by omega) λ_=>?_;refine C.st0 (x:=z[a]) (y:=t) (by rw [show ((a:Int)).toNat=a from rfl];exact List.getElem?_eq_getElem _) rfl λw6 ab p a9=>?_;have au:Blk w6 r zj _:=j.grown p λB=>qo5 A m _ B.symm rfl;have av:Chg (qk9 r s) w w6:=⟨p.os,p.tape,p.output,p.size,λk o hn=>p.block k o λB=>hn (.inr B.symm)⟩;have D:=au.drew;refine lI (x:=(a:Int)) (D.cells 2 _ rfl) ?_;refine lSl (x:=s) (D.cells 1 _ rfl) ?_;refine ⟨by omega,?_⟩;rw [qC];refine qD D (by simp) λw7 ac F ba=>?_;refine lI (x:=l) (ac.cells 3 _ rfl) ?_;rw [qC];refine qD ac (by rw [vL];simp) λw8 aw ax bb=>?_;have ad:Chg (λk=>k=r) w6 w7:=⟨F.os,F.tape,F.output,F.size,λk o hn=>F.block k o λB=>hn (by cases B;rfl)⟩;have ae:Chg (λk=>k=r) w7 w8:=Chg.of_grown ax λk o=>by cases o;rfl
   have v:Chg (qk9 r s) w w8:=(av.trans ad λi _ L=>.inl L).trans ae λi _ L=>.inl L;have ay:Go.Vc.Own slE w7 base s (z.set a t):=ab.chg ad λg M=>qo5 A m g M;have az:Go.Vc.Own slE w8 base s (z.set a t):=ay.chg ae λg M=>qo5 A m g M;have a1:Go.Vc.Own zD w8 base t xs:=ht.chg v λg M hs=>by
    obtain ⟨Q,N⟩:=ht.blk_t M;exact d g Q hs N
   have a2:=(hl.chg v d).set a a1
   have af:(i64.wrap ((a:Int)+1)).tmod ((s.n:Nat):Int)=(((a+1)%c.length:Nat):Int):=by
    rw [qM (by omega),ah,ai,Int.natCast_emod,Int.natCast_add];rfl
   have O:c.drop a=c[a]::c.drop (a+1):=List.drop_eq_getElem_cons (by omega)
   have P:qk1 most old xs=c.drop (a+1)++c.take a++[xs]:=by
    rw [qk1,if_neg H,if_neg (by omega),e,O,List.cons_append,List.tail_cons]
   refine hK _ _ s w8 ⟨(a+1)%c.length,i64.wrap (l+1),z.set a t,c.set a xs,?_,az,a2,J,?_,by simp;omega,?_⟩ v (.inl rfl)
   ·rw [<-af];exact aw
   ·rw [P];by_cases hend:a+1=c.length
    ·rw [hend,Nat.mod_self,List.drop_length];simp only [List.nil_append,List.drop_zero,List.take_zero,List.append_nil];rw [List.set_eq_take_append_cons_drop,if_pos (by omega),hend,List.drop_length]
    ·rw [Nat.mod_eq_of_lt (by omega),List.drop_set_of_lt (by omega),List.append_assoc];congr 1;rw [List.take_set,List.set_eq_take_append_cons_drop,if_pos (by simp;omega),List.take_take,Nat.min_eq_left (by omega),List.drop_take,Nat.sub_self];simp
   ·by_cases hend:a+1=c.length
    ·exact .inl (by rw [hend,Nat.mod_self])
    ·exact .inr ⟨by rw [Nat.mod_eq_of_lt (by omega)];simp;omega,by simp;omega⟩
structure Foot where
 g:Nat
 r:Nat
 ls:Slc
 rs:Slc
structure GS where
 rows:Nat
 cols:Nat
 most:Nat
 L:List (List qZ)
 old:List (List qZ)
 top:Int
def kg (f:Foot) (k:Nat):Prop:=k=f.g\/k=f.r\/f.ls.blk=some k\/f.rs.blk=some k
structure GridM (w:World) (base:Nat) (f:Foot) (S:GS):Prop where
 blk:Blk w f.g yI [.pointer (some ⟨f.r,0,none⟩),.int .i64 S.rows,.int .i64 S.cols,.slice f.ls.a f.ls.n f.ls.c,.int .i64 S.top]
 hg:base<=f.g
 row:∃ls,Go.Vc.Own slE w base f.ls ls/\Lines w base ls S.L
 ring:Xl w base f.r f.rs S.most S.old
 ne:∀k,f.ls.blk=some k->f.rs.blk≠some k
structure Foot.to (f f':Foot) (n:Nat):Prop where
 g:f'.g=f.g
 r:f'.r=f.r
 ls:f'.ls.blk=f.ls.blk\/∀k,f'.ls.blk=some k->n<=k
 rs:f'.rs.blk=f.rs.blk\/∀k,f'.rs.blk=some k->n<=k
theorem Foot.to.refl (f:Foot) (n:Nat):f.to f n:=⟨rfl,rfl,.inl rfl,.inl rfl⟩
theorem Foot.to.old {f f':Foot} {n:Nat} (h:f.to f' n):∀k,kg f' k->kg f k\/n<=k:=by
 rintro k (rfl | rfl | hk | hk)
 ·exact .inl (.inl h.g)
 ·exact .inl (.inr (.inl h.r))
 ·rcases h.ls with e | e
  ·exact .inl (.inr (.inr (.inl (by rw [<-e];exact hk))))
  ·exact .inr (e k hk)
 ·rcases h.rs with e | e
  ·exact .inl (.inr (.inr (.inr (by rw [<-e];exact hk))))
  ·exact .inr (e k hk)
theorem Foot.to.trans {f f' f'':Foot} {n n':Nat} (h:f.to f' n) (h':f'.to f'' n') (hn:n<=n'):f.to f'' n:=by
 refine ⟨h'.g.trans h.g,h'.r.trans h.r,?_,?_⟩
 ·rcases h'.ls with e | e
  ·rcases h.ls with a | a
   ·exact .inl (e.trans a)
   ·exact .inr λk b=>a k (by rw [<-e];exact b)
  ·exact .inr λk b=>Nat.le_trans hn (e k b)
 ·rcases h'.rs with e | e
  ·rcases h.rs with a | a
   ·exact .inl (e.trans a)
   ·exact .inr λk b=>a k (by rw [<-e];exact b)
  ·exact .inr λk b=>Nat.le_trans hn (e k b)
section
variable {w w':World} {base r most:Nat} {s:Slc} {old:List (List qZ)} {f:Foot} {S:GS}
theorem Xl.chg {T:Nat->Prop} (h:Xl w base r s most old) (hc:Chg T w w') (hT:∀k,qk9 r s k->¬T k) (hC:∀k cs,T k->¬Blk w k zi cs):Xl w' base r s most old:=by
 obtain ⟨b,a,f,c,i,j,l,d,e,m,n⟩:=h;exact ⟨b,a,f,c,i.chg hc (hT r (.inl rfl)),j.chg hc λg o=>hT g (.inr o),l.chg hc hC,d,e,m,n⟩
theorem Xl.ext (h:Xl w base r s most old) (hb:Uc w w'):Xl w' base r s most old :=
 h.chg (Chg.of_ext hb) (λ_ _ h=>h) (λ_ _ h=>h.elim)
theorem GridM.chg {T:Nat->Prop} (h:GridM w base f S) (hc:Chg T w w') (hT:∀k,kg f k->¬T k) (hC:∀k cs,T k->¬Blk w k zi cs):GridM w' base f S:=by
 obtain ⟨b,c,d⟩:=h.row;exact ⟨h.blk.chg hc (hT _ (.inl rfl)),h.hg,⟨b,c.chg hc λg e=>hT g (.inr (.inr (.inl e))),d.chg hc hC⟩,
  h.ring.chg hc (λk a=>hT k (by rcases a with a | a;exact .inr (.inl a);exact .inr (.inr (.inr a)))) hC,h.ne⟩
theorem GridM.ext (h:GridM w base f S) (hb:Uc w w'):GridM w' base f S :=
 h.chg (Chg.of_ext hb) (λ_ _ h=>h) (λ_ _ h=>h.elim)
theorem GridM.drew (h:GridM w base f S):GridM w.drew base f S:=h.ext ((Below.refl _ w).drew)
theorem Xl.below (h:Xl w base r s most old):∀k,qk9 r s k->base<=k/\k<w.heap.size:=by
 obtain ⟨c,b,i,d,f,g,j,a,e,l,m⟩:=h;rintro k (rfl | hk)
 ·exact ⟨a,f.lt⟩
 ·exact g.lt k hk
theorem GridM.below (h:GridM w base f S):∀k,kg f k->base<=k/\k<w.heap.size:=by
 obtain ⟨b,a,c⟩:=h.row;rintro k (rfl | rfl | hk | hk)
 ·exact ⟨h.hg,h.blk.lt⟩
 ·exact h.ring.below _ (.inl rfl)
 ·exact a.lt k hk
 ·exact h.ring.below _ (.inr hk)
theorem Xl.notC (h:Xl w base r s most old):∀k cs,qk9 r s k->¬Blk w k zi cs:=by
 obtain ⟨c,b,l,d,f,g,m,i,e,n,o⟩:=h;rintro k cs (rfl | hk) hc
 ·exact hc.ne_t f (by decide) rfl
 ·obtain ⟨j,a⟩:=g.blk_t hk;exact hc.ne_t a (by decide) rfl
theorem GridM.notC (h:GridM w base f S):∀k cs,kg f k->¬Blk w k zi cs:=by
 obtain ⟨d,b,e⟩:=h.row;rintro k cs (rfl | rfl | hk | hk) hc
 ·exact hc.ne_t h.blk (by decide) rfl
 ·exact h.ring.notC _ cs (.inl rfl) hc
 ·obtain ⟨c,a⟩:=b.blk_t hk;exact hc.ne_t a (by decide) rfl
 ·exact h.ring.notC _ cs (.inr hk) hc
theorem GridM.g_ne (h:GridM w base f S):f.g≠f.r/\(∀k,f.ls.blk=some k->k≠f.g/\k≠f.r)/\(∀k,f.rs.blk=some k->k≠f.g/\k≠f.r):=by
 obtain ⟨ls,j,s⟩:=h.row;obtain ⟨l,i,m,n,b,c,o,p,e,t,u⟩:=h.ring;refine ⟨h.blk.ne_t b (by decide),λk d=>?_,λk d=>?_⟩
 ·obtain ⟨q,a⟩:=j.blk_t d;exact ⟨a.ne_t h.blk (by decide),a.ne_t b (by decide)⟩
 ·obtain ⟨q,a⟩:=c.blk_t d;exact ⟨a.ne_t h.blk (by decide),a.ne_t b (by decide)⟩
end
section
variable {w:World} {base:Nat} {f:Foot} {S:GS}
theorem qy1 {row:Int} {K:Bool->Ub} (h:GridM w base f S) (hK:K (decide (0<=row/\row<S.rows)) w):QX (some ⟨f.g,0,none⟩) row w K:=by
 refine qub _ _ ?_;refine cO (λa=>?_) (λa=>?_)
 ·refine lI (h.blk.cells 1 _ rfl) ?_;have:decide (row<(S.rows:Int))=decide (0<=row/\row<S.rows):=by simp [a]
  rw [this];exact hK
 ·have a:=oFq a;have:decide (0<=row/\row<(S.rows:Int))=false:=by simp;omega
  rw [this] at hK;exact hK
theorem q3d {K:Int->Ub} (h:GridM w base f S) (hK:K S.top w):J0 (some ⟨f.g,0,none⟩) w K:=by
 refine qse _ ?_;exact lI (h.blk.cells 4 _ rfl) hK
theorem qz3 {K:Int->Int->Ub} (h:GridM w base f S) (hK:K S.rows S.cols w.drew):Vs (some ⟨f.g,0,none⟩) w K:=by
 refine qpm _ ?_;exact lI (h.blk.drew.cells 1 _ rfl) (lI (h.blk.drew.cells 2 _ rfl) hK)
theorem q94 {K:Int->Ub} (h:GridM w base f S) (hK:K S.old.length w):Vt (some ⟨f.g,0,none⟩) w K:=by
 refine qpv _ ?_;refine qS (h.blk.cells 0 _ rfl) ?_;exact q4g h.ring hK
theorem q7u {K:Int->Ub} (h:GridM w base f S) (hK:K (i64.wrap (S.top-S.old.length)) w.drew):X0 (some ⟨f.g,0,none⟩) w K:=by
 refine qno _ ?_;refine lI (h.blk.drew.cells 4 _ rfl) ?_;refine q94 h.drew ?_;exact ⟨h.blk.drew.cells 4 _ rfl,hK⟩
theorem zck {row:Int} {K:Slc->Bool->Ub} (h:GridM w base f S) (hL:S.L.length=S.rows) (hw:∀xs∈S.L,xs.length<=1000000)
  (hK1:∀s xs w',0<=row->S.L[row.toNat]?=some xs->Go.Vc.Own zD w' w.heap.size s xs->Uc w w'->K s true w') (hK2:¬(0<=row/\row<S.rows)->K ⟨none,0,0⟩ false w):V7 (some ⟨f.g,0,none⟩) row w K:=by
 refine qpw _ _ ?_;refine qy1 h ?_;obtain ⟨d,i,e⟩:=h.row;by_cases hr:0<=row/\row<(S.rows:Int)
 ·rw [dTq hr];refine lSl (h.blk.cells 3 _ rfl) ?_;have j:=e.1;refine i.rd.ix rfl hr.1 (by omega) λk=>?_;refine lSl (by simpa using k 0 _ rfl) ?_;have b:S.L[row.toNat]?=some (S.L[row.toNat]'(by omega)):=List.getElem?_eq_getElem _;have a:=e.2 _ _ _ (List.getElem?_eq_getElem (by omega:row.toNat<d.length)) b;exact qbf a.rd (hw _ (List.mem_of_getElem? b)) λs w' c l=>hK1 s _ w' hr.1 b c l
 ·rw [dFq hr];exact cT rfl (hK2 hr)
theorem zfk {i:Int} {K:Slc->Bool->Ub} (h:GridM w base f S) (hm:S.most<=100000) (hw:∀xs∈S.old,xs.length<=1000000)
  (hK1:∀s xs w',0<=i->S.old[i.toNat]?=some xs->Go.Vc.Own zD w' w.heap.size s xs->Uc w w'->K s true w') (hK2:(i<0\/i>=S.old.length)->∀s w',Go.Vc.Own zD w' w.heap.size s []->Uc w w'->K s false w'):qab (some ⟨f.g,0,none⟩) i w K:=by
 refine qq0 _ _ ?_;refine qS (h.blk.cells 0 _ rfl) ?_;refine q9o h.ring hm (λt xs d c e=>?_) (λj=>?_)
 ·exact qbf e.drew.rd (hw _ (List.mem_of_getElem? c)) λs w' a b=>hK1 s xs w' d c a ((Below.refl _ w).drew.trans b)
 ·exact qbf (Rd.nil zD w) (by simp) λs w' a b=>hK2 j s w' a b
end
theorem q6l {n:Nat} (h:n<=1000) (a:yX):(Vv n a).length=n:=by
 rw [Vv,if_neg (by omega)];simp
section
variable {w:World} {base:Nat} {f:Foot} {S:GS}
theorem qix {n:Int} {a:yX} {K:Slc->Ub} (h:GridM w base f S) (hn:n<=100000)
  (hK:∀s ls w',Go.Vc.Own slE w' w.heap.size s ls->Lines w' w.heap.size ls (List.replicate n.toNat (Vv S.cols a))->Uc w w'->K s w'):va (some ⟨f.g,0,none⟩) n a w K:=by
 refine qlj _ _ _ ?_;refine nwb λw1 F G W=>?_;refine lpR (λ(s:Slc×Int×Unit) w2=>∃(k:Nat) (ls:List Slc),s.2.1=k/\(k:Int)<=max n 0/\Go.Vc.Own slE w2 w.heap.size s.1 ls/\Lines w2 w.heap.size ls (List.replicate k (Vv S.cols a))/\Blk w2 w.heap.size xm (qA.rep.cells a)/\Uc w w2/\(∀g,s.1.blk=some g->g≠w.heap.size))
  (λs=>(n-s.2.1).toNat) ⟨0,[],rfl,by omega,Go.Vc.Own.nil _ _ _,Lines.nil _ _,F,G,λg d=>by cases d⟩ ?_
 rintro ⟨s,i,_⟩ w2 ⟨k,ls,rfl,B,H,C,J,o,p⟩ I hI;dsimp only at *;refine cO (λr=>?_) (λr=>?_)
 ·have r:=oTq r;have L:=(h.ext o).drew;refine lI (L.blk.cells 2 _ rfl) ?_;refine qz J.drew.cells ?_;refine zbj λt U M l=>?_;refine nwb λw4 N u X=>?_;have b:=((Below.refl _ w2).drew.trans l).trans (u.mono l.size);have c:=o.trans (b.mono o.size);have O:=y9 (E:=slE) N rfl;have P:=C.1;rw [List.length_replicate] at P;have Y:=J.lt;have v:=H.ext b;refine jW qom v O c.size (by rw [q64];simp;omega) (by simp [maxLen];omega) λq Z Q m R=>?_;rw [qM (by omega)];have j:∀k D,s.blk=some k->¬Blk w4 k zi D:=λk D B hc=>by
   obtain ⟨aa,y⟩:=v.blk_t B;exact hc.ne_t y (by decide) rfl
  have z:=Chg.of_grown m λk B=>B;have A:=(M.base (by have:=o.size;show w.heap.size<=w2.heap.size;omega)).ext u;refine hI _ _ ⟨k+1,ls++[t],by simp,by omega,Q,?_,?_,c.grown m c.size λg d=>(H.lt g d).1,?_⟩ (by simp;omega)
  ·rw [List.replicate_succ'];refine Lines.append ((C.ext b).chg z j) (Lines.one (A.chg z λg d hs=>?_));obtain ⟨D,T⟩:=A.blk_t d;exact j g D hs T
  ·exact (J.ext b).grown m λe=>p _ e.symm rfl
  ·intro g d;rcases R with e | e
   ·rw [e] at d;exact p g d
   ·rw [e] at d;cases d;have:=b.size;omega
 ·have r:=oFq r;have:n.toNat=k:=by omega
  rw [<-this] at C;exact hK _ _ _ H C o
theorem GridM.newRow {w1 w2:World} {s:Slc} {ls:List Slc} {L:List (List qZ)} {top:Int} {B:Nat} (h:GridM w1 base f S) (hrow:Go.Vc.Own slE w1 base s ls) (hl:Lines w1 base ls L) (hne:∀k,s.blk=some k->k≠f.g/\k≠f.r/\f.rs.blk≠some k)
  (hb:Blk w2 f.g yI [.pointer (some ⟨f.r,0,none⟩),.int .i64 S.rows,.int .i64 S.cols,.slice s.a s.n s.c,.int .i64 top]) (hg:w1.grownBy w2 (some f.g)) (_:B<=w1.heap.size):GridM w2 base { f with ls:=s } { S with L:=L,top:=top }:=by
 have i:Chg (λk=>k=f.g) w1 w2:=Chg.of_grown hg λk b=>by cases b;rfl
 have d:=λk j b l=>h.notC k j (.inl b) l;obtain ⟨m,p,o⟩:=h.g_ne;refine ⟨hb,h.hg,⟨ls,hrow.chg i λg hg=>(hne g hg).1,hl.chg i d⟩,h.ring.chg i (λk b=>?_) d,λk b=>(hne k b).2.2⟩;rcases b with rfl | b
 ·exact λe=>m e.symm
 ·exact (o k b).1
theorem q7c {a:yX} {K:Ub} (h:GridM w base f S) (hrows:S.rows<=100000) (hbase:base<=w.heap.size)
  (hK:∀f' w',GridM w' base f' { S with L:=List.replicate S.rows (Vv S.cols a) }->f.to f' w.heap.size->Chg (kg f) w w'->K w'):XG (some ⟨f.g,0,none⟩) a w K:=by
 refine qn3 _ _ ?_;simp only [onPtr_some];refine nwb λm n c y=>?_;have q:=(h.ext c).drew;refine lI (q.blk.cells 1 _ rfl) ?_;refine qz n.drew.cells ?_;refine qix q (by omega) λs M z r u o=>?_;have d:=c.drew.trans (o.mono c.size);have v:=h.ext d;have b:∀k,s.blk=some k->w.heap.size<=k:=λk j=>by have:=(r.lt k j).1;have e:m.drew.heap.size=m.heap.size:=rfl;omega
 refine qD v.blk (by simp) λA p l C=>?_;have D:w.heap.size<=m.drew.heap.size:=c.size;have E:=v.newRow (r.base (by omega)) ⟨u.1,λi t F G H=>(u.2 i t F G H).base (by omega)⟩ (λk j=>?_) p l (Nat.zero_le _)
 ·refine hK _ A E ⟨rfl,rfl,.inr b,.inl rfl⟩ ?_;exact (Chg.of_ext d).trans (Chg.of_grown l λk j=>by cases j;rfl) λi _ I=>.inl I
 ·have J:=b k j;refine ⟨λe=>?_,λe=>?_,λe=>?_⟩
  ·have:=(h.below k (.inl e)).2;omega
  ·have:=(h.below k (.inr (.inl e))).2;omega
  ·have:=(h.below k (.inr (.inr (.inr e)))).2;omega
end
def gs0 (rows cols most:Nat):GS:=⟨rows,cols,most,List.replicate rows (Vv cols ⟨0,0,0⟩),[],0⟩
def qe9 (rows cols back:Int):Prop:=¬(1<=rows/\rows<=1000)\/¬(1<=cols/\cols<=1000)\/back<0\/back>16384
theorem q3q {rows cols back:Int} {w:World} {K:Option Addr->Int->Ub} (hK1:qe9 rows cols back->K none 1 w)
  (hK2:¬qe9 rows cols back->∀f w',GridM w' w.heap.size f (gs0 rows.toNat cols.toNat back.toNat)->Uc w w'->K (some ⟨f.g,0,none⟩) 0 w'):qkc rows cols back w K:=by
 refine q1t _ _ _ ?_;have size:∀{n:Int} {K:Bool->Ub},K (decide (1<=n/\n<=1000)) w->qeo n w K:=by
  intro n K c;refine qz4 _ ?_;refine cO (λh=>?_) (λh=>?_)
  ·have:decide (n<=1000)=decide (1<=n/\n<=1000):=by simp [h]
   rw [this];exact c
  ·have h:=oFq h;have:decide (1<=n/\n<=1000)=false:=by simp;omega
   rw [this] at c;exact c
 refine jpO λJ x=>?_;refine size ?_;by_cases h1:1<=rows/\rows<=1000
 ·rw [dTq h1];refine cF rfl (size ?_);by_cases h2:1<=cols/\cols<=1000
  ·rw [dTq h2];refine cF rfl ?_;refine cO (λm=>hK1 (.inr (.inr (.inl (oTq m))))) (λm=>?_);refine cO (λo=>hK1 (.inr (.inr (.inr (oTq o))))) (λo=>?_);have m:=oFq m;have o:=oFq o;have b:¬qe9 rows cols back:=by unfold qe9;omega
   refine x _ _ ?_;refine q54 (by omega) (by omega) (le_refl _) λd p q y=>?_;refine nwb λr s e z=>?_;have a:=q.trans (e.mono (by omega));have j:GridM r w.heap.size ⟨d.heap.size,w.heap.size,⟨none,0,0⟩,⟨none,0,0⟩⟩ ⟨rows.toNat,cols.toNat,back.toNat,[],[],0⟩:=by
    refine ⟨?_,by show w.heap.size<=d.heap.size;omega,⟨[],Go.Vc.Own.nil _ _ _,Lines.nil _ _⟩,p.ext e,λk c=>by cases c⟩;rw [show ((rows.toNat:Nat):Int)=rows by omega,show ((cols.toNat:Nat):Int)=cols by omega];exact s
   refine q7c (f:=⟨d.heap.size,w.heap.size,⟨none,0,0⟩,⟨none,0,0⟩⟩) j (by show rows.toNat<=100000;omega) a.size λv A t B C=>?_;have u:=B.g;have l:=hK2 b v A t (a.trans (C.below a.size λi E D=>by have:=(j.below i D).1;omega));rw [u] at l;exact l
  ·rw [dFq h2];exact cT rfl (hK1 (.inr (.inl h2)))
 ·rw [dFq h1];exact cT rfl (hK1 (.inl h1))
end Go.Proofs.YtjhgepnpnapnoaaGreatDoor
namespace Go.Vc
open Go.RowKit

end Go.Vc
namespace Go.Proofs.YtjhgepnpnapnoaaGreatDoor
open Go.Vc Go.RowKit
open _root_.List (drop_zero)
open _root_.Nat (le_refl zero_le)
def Z1 (rows:Nat) (top past n:Int):Prop:=n=0\/top<0\/past<=top\/past>rows
instance (rows:Nat) (top past n:Int):Decidable (Z1 rows top past n):=by unfold Z1;infer_instance
def VG (top past n:Int):Nat:=(min (if n<0 then -n else n) (past-top)).toNat
def qjr (cols:Nat) (L:List (List qZ)) (top past n:Int) (a:yX):List (List qZ) :=
 let m:=VG top past n
 let b:=List.replicate m (Vv cols a)
 if n>0 then L.take top.toNat++(L.take past.toNat).drop (top.toNat+m)++b++L.drop past.toNat
 else L.take top.toNat++b++(L.take (past.toNat-m)).drop top.toNat++L.drop past.toNat
def VK (most:Nat) (old:List (List qZ)) (xs:List (List qZ)):List (List qZ):=xs.foldl (qk1 most) old
def yW (S:GS) (top past n:Int) (a:yX):GS :=
 if Z1 S.rows top past n then S
 else if n>0/\top=0 then { S with L:=qjr S.cols S.L top past n a,old:=VK S.most S.old (S.L.take (VG top past n)),top:=i64.wrap (S.top+VG top past n) }
 else { S with L:=qjr S.cols S.L top past n a }
def q5y (rows:Nat) (top past n:Int):Int:=if Z1 rows top past n\/n<0\/top≠0 then 0 else VG top past n
theorem q5d (most:Nat) (old:List (List qZ)) (L:List (List qZ)) (k:Nat) (x:List qZ) (h:L[k]?=some x):VK most old (L.take (k+1))=qk1 most (VK most old (L.take k)) x:=by
 rw [VK,List.take_add_one,h,List.foldl_append];rfl
theorem qyp {α:Type} (l:List α) (a m:Nat):((l.drop a).take m)=(l.take (a+m)).drop a:=by
 rw [List.drop_take];congr 1;omega
theorem zm1 {w:World} {base m:Nat} {f:Foot} {S:GS} {p:Slc} {ls:List Slc} {xss:List (List qZ)} {Fin:Int×Unit->Ub} (h:GridM w base f S) (hp:Rd slE w p ls) (hpn:ls.length=m) (hl:Lines w base ls xss) (hpf:∀a,p.a=some a->¬kg f a.block)
  (hmost:S.most<=100000) (hbase:base<=w.heap.size) (hm:m<=100000)
  (hfin:∀i f' w',GridM w' base f' { S with old:=VK S.most S.old xss }->f.to f' w.heap.size->f'.ls=f.ls->Chg (kg f) w w'->Fin (i,()) w') :
  zh (σ:=Int×Unit) (λI3 s_2 w12=>
   cond (decide (s_2.1<((p.n:Nat):Int)))
    (
     ixK p s_2.1 1 λt127=>
     zW t127 w12 λt128=>
     ldP ((⟨f.g,0,none⟩:Addr).add 0) w12 λt132=>
     x9 t132 t128 w12 λ_ _ w13=>
     I3 ((i64.wrap (s_2.1+(1:Int))),()) w13)
    (Fin s_2 w12)) (0,()) w:=by
 have y:p.n=m:=by rw [hp.n,hpn]
 have Y:xss.length=m:=by rw [<-hl.1,hpn]
 refine lpR (λ(s:Int×Unit) w2=>∃(k:Nat) (f':Foot),s.1=k/\k<=m/\GridM w2 base f' { S with old:=VK S.most S.old (xss.take k) }/\f.to f' w.heap.size/\f'.ls=f.ls/\Chg (kg f) w w2) (λs=>m-s.1.toNat) ⟨0,f,rfl,by omega,by simpa [VK] using h,Foot.to.refl _ _,rfl,Chg.refl _ _⟩ ?_;rintro ⟨i,_⟩ w2 ⟨k,f',rfl,hk,j,d,z,A⟩ I hI;rw [y];refine cO (λB=>?_) (λC=>?_)
 ·have B:=oTq B;have J:=hp.chg A hpf;have K:=hl.chg A h.notC;refine J.ix rfl (by omega) (by omega) λt=>?_;have L:ls[k]?=some (ls[k]'(by omega)):=List.getElem?_eq_getElem _;have D:xss[k]?=some (xss[k]'(by omega)):=List.getElem?_eq_getElem _;refine lSl (by simpa using t 0 _ rfl) ?_;have E:=j.blk;rw [d.g,d.r] at E;refine qS (E.cells 0 _ rfl) ?_;have v:=j.ring;rw [d.r] at v;have Z:=A.size;refine zet v (K.2 k _ _ L D) hmost (by omega) λu b U V M l F=>?_;rw [qM (by omega)];have N:∀i,qk9 f.r f'.rs i->kg f i\/w.heap.size<=i:=λi W=>by
   refine d.old i ?_;rcases W with e | e
   ·exact .inr (.inl (by rw [e,d.r]))
   ·exact .inr (.inr (.inr e))
  have O:=A.trans l λi W P=>by
   rcases N i P with e | e
   ·exact e
   ·omega
  have G:=v.notC;obtain ⟨Q,R,T⟩:=j.row;obtain ⟨g1,g2,g3⟩:=j.g_ne;refine hI _ _ ⟨k+1,{ f' with rs:=U },by simp,by omega,⟨?_,j.hg,⟨Q,R.chg l λg X P=>?_,T.chg l G⟩,?_,?_⟩,?_,z,O⟩ (by simp;omega)
  ·refine j.blk.chg l λe=>?_;rcases e with e | e
   ·exact g1 (by rw [e,d.r])
   ·exact (g3 _ e).1 rfl
  ·rcases P with e | e
   ·exact (g2 g X).2 (by rw [e,d.r])
   ·exact j.ne g X e
  ·rw [q5d _ _ _ _ _ D,d.r];exact M
  ·intro H c e;rcases F with o | ⟨q,o,hq⟩
   ·rw [o] at e;exact j.ne H c e
   ·rw [o] at e;cases e;have:=(j.below H (.inr (.inr (.inl c)))).2;omega
  ·refine ⟨d.g,d.r,d.ls,?_⟩;rcases F with o | ⟨q,o,hq⟩
   ·rcases d.rs with e | e
    ·exact .inl (o.trans e)
    ·exact .inr λH c=>e H (by rw [<-o];exact c)
   ·exact .inr λH c=>by rw [o] at c;cases c;omega
 ·have C:=oFq C;have:k=m:=by omega
  rw [List.take_of_length_le (by omega)] at j;exact hfin _ f' w2 j d z A
theorem cut_block {x:Option Addr} {l m k:Nat} {a:Addr} (h:cut x l m k=some a):∃b,x=some b/\a.block=b.block:=by
 unfold cut at h;split at h
 ·exact ⟨a,h,rfl⟩
 ·obtain ⟨b,c,rfl⟩:=Option.map_eq_some_iff.1 h;exact ⟨b,c,by simp⟩
theorem q53 {w:World} {base:Nat} {f:Foot} {S:GS} {top past n:Int} {a:yX} {K:Int->Ub} (h:GridM w base f S) (hL:S.L.length=S.rows) (hrows:S.rows<=1000) (hmost:S.most<=100000) (hbase:base<=w.heap.size) (hn:-9223372036854775808<=n/\n<=9223372036854775807)
  (hK:∀f' w',GridM w' base f' (yW S top past n a)->f.to f' w.heap.size->Chg (kg f) w w'->K (q5y S.rows top past n) w'):xV (some ⟨f.g,0,none⟩) top past n a w K:=by
 refine ql1 _ _ _ _ _ ?_;simp only [onPtr_some];refine nwb λC ba D bm=>?_;have h1:=h.ext D;refine jpO λJ1 bb=>?_;have ad:Z1 S.rows top past n->K 0 C:=λhb=>by
  have:=hK f C (by rw [yW,if_pos hb];exact h1) (Foot.to.refl _ _) (Chg.of_ext D)
  rwa [q5y,if_pos (.inl hb)] at this
 refine cO (λe=>ad (.inl (eq_of_beq e))) (λe0=>?_);refine cO (λe=>ad (.inr (.inl (oTq e)))) (λe1=>?_);refine cO (λe=>ad (.inr (.inr (.inl (oTq e))))) (λe2=>?_);refine lI (x:=(S.rows:Int)) (h1.blk.cells 1 _ rfl) ?_;refine cO (λe=>ad (.inr (.inr (.inr (oTq e))))) (λe3=>?_);have e0:n≠0:=beq_eq_false_iff_ne.1 e0;have e1:=oFq e1;have e2:=oFq e2;have e3:=oFq e3;have aj:¬Z1 S.rows top past n:=by unfold Z1;omega
 refine bb _ _ ?_;rw [qM (x:=past-top) (by omega),qM (x:=0-(past-top)) (by omega)];refine jpO λJ2 bc=>?_;have hm:(VG top past n:Int)=min (if n<0 then -n else n) (past-top):=by unfold VG;split<;>omega
 unfold yW qjr at hK;unfold q5y at hK;rw [if_neg aj] at hK;generalize VG top past n=m at *;have bn:1<=m:=by split at hm<;>omega
 have bo:(m:Int)<=past-top:=by split at hm<;>omega
 obtain ⟨tp,rfl⟩:∃tp:Nat,top=tp:=⟨top.toNat,by omega⟩;obtain ⟨o,rfl⟩:∃o:Nat,past=o:=⟨past.toNat,by omega⟩;have W:∀c:Int,(if i64.wrap (0-c)>c then i64.wrap (0-c) else c)=(m:Int)->J2 (c,()) C:=λc hc=>bc _ _ (by
  dsimp only;rw [hc];obtain ⟨X,ho,hl⟩:=h1.row;have al:=hl.1;refine lSl (x:=f.ls) (h1.blk.cells 3 _ rfl) ?_;refine ho.rd.slK3 (l:=tp) (m:=o) rfl (.inr rfl) rfl rfl (by omega) (by omega) λN=>?_;have V:=h1.drew;have ae:Go.Vc.Own slE C.drew base f.ls X:=ho;have az:=ba.drew;refine cO (λY=>?_) (λR=>?_)
  ·have Y:n<0:=by
    have:¬n>0:=by simpa using Y
    omega
   refine lSl (x:=f.ls) (V.blk.cells 3 _ rfl) ?_;refine ae.rd.slK3 (l:=0) (m:=tp) rfl (.inl ⟨rfl,rfl⟩) rfl rfl (by omega) (by omega) λv=>?_;refine qz (x:=a) az.cells ?_;rw [qM (x:=(o:Int)-tp-m) (by omega)];refine N.drew.slK (l:=0) (m:=o-tp-m) rfl (.inl ⟨rfl,rfl⟩) (.inr (by simp;omega)) (by omega) (by simp;omega) λa1=>?_;refine lSl (x:=f.ls) (V.blk.cells 3 _ rfl) ?_;refine ae.rd.slK (l:=o) (m:=X.length) rfl (.inr rfl) (.inl ⟨rfl,rfl⟩) (by omega) (le_refl _) λO=>?_;refine qix V (by omega) λb am w4 an P Q=>?_;have p:Uc C w4:=(Below.refl _ C).drew.trans Q;have F:Uc w w4:=D.trans (p.mono D.size);have h4:=h1.ext p;refine ⟨h4.blk.cells 3 _ rfl,h4.blk.cells 3 _ rfl,?_⟩;refine nwb λw5 ao d bd=>?_;have s:Below C.drew.heap.size C.drew w5:=Q.trans (d.mono Q.size);have hA:=zdu (v.ext s) (an.rd.ext d) (a1.ext s) (O.ext s);have ap:=P.1;rw [List.length_replicate] at ap;refine quk ?_ hA ?_ (by simp) λq T Z G=>?_
   ·exact rd_lits (E:=zn7) (ys:=[_,_,_,_]) ao (by simp [maxLen]) rfl
   ·simp;omega
   have H:Uc w T:=F.trans ((d.trans (G.mono d.size)).mono F.size);have I:Uc C T:=p.trans ((d.trans (G.mono d.size)).mono p.size);have aa:Uc w4 T:=d.trans (G.mono d.size);have h6:=h1.ext I;have J:=hl.ext I;have a2:C.heap.size<=w5.heap.size:=by have:=p.size;have:=d.size;omega
   have a3:=D.size;have ab:Lines T base am (List.replicate m (Vv S.cols a)):=⟨P.1,λi t xs x1 x2=>((P.2 i t xs x1 x2).ext aa).base (by show base<=C.heap.size;omega)⟩;have j:∀k,q.blk=some k->w.heap.size<=k:=λk u=>by have:=(Z.lt k u).1;omega
   have U:=Z.base (base':=base) (by omega);have A:=(((J.take tp).drop 0).append (ab.append (((((J.take o).drop tp).take (o-tp-m)).drop 0).append (((J.take X.length).drop o).append (Lines.nil T base)))));rw [qC];refine qD h6.blk (by simp) λw7 aq M be=>?_;have h7:=h6.newRow (B:=0) (top:=S.top) U A (λk u=>?_) aq M (zero_le _)
   ·have ar:¬(n>0/\(tp:Int)=0):=by omega
    have au:¬n>0:=by omega
    rw [if_neg ar,if_neg au,if_pos (.inr (.inl Y))] at hK;refine hK ⟨f.g,f.r,q,f.rs⟩ w7 ?_ ⟨rfl,rfl,.inr j,.inl rfl⟩ ((Chg.of_ext (S:=kg f) H).trans (S':=λk=>k=f.g) (Chg.of_grown M λk u=>by cases u;rfl) λi _ hi=>.inl hi);have e:List.take tp S.L++List.replicate m (Vv S.cols a)++List.drop tp (List.take (o-m) S.L)++List.drop o S.L=List.drop 0 (List.take tp S.L)++(List.replicate m (Vv S.cols a)++(List.drop 0 (List.take (o-tp-m) (List.drop tp (List.take o S.L)))++(List.drop o (List.take X.length S.L)++[]))):=by
     rw [drop_zero,drop_zero,List.append_nil,qyp,List.take_take,al,List.take_length];rw [show min (tp+(o-tp-m)) o=o-m by omega];simp
    rw [show ((tp:Int)).toNat=tp from rfl,show ((o:Int)).toNat=o from rfl,e];exact h7
   ·have bf:=j k u;refine ⟨λe=>?_,λe=>?_,λe=>?_⟩
    ·have:=(h.below k (.inl e)).2;omega
    ·have:=(h.below k (.inr (.inl e))).2;omega
    ·have:=(h.below k (.inr (.inr (.inr e)))).2;omega
  ·have R:n>0:=by simpa using R
   refine N.drew.slK3 (l:=0) (m:=m) rfl (.inl ⟨rfl,rfl⟩) rfl rfl (by omega) (by simp;omega) λav=>?_;refine lSl (x:=f.ls) (V.blk.cells 3 _ rfl) ?_;refine ae.rd.slK3 (l:=0) (m:=tp) rfl (.inl ⟨rfl,rfl⟩) rfl rfl (by omega) (by omega) λv=>?_;refine N.drew.slK (l:=m) (m:=((X.take o).drop tp).length) rfl (.inr rfl) (.inl ⟨rfl,rfl⟩) (by simp;omega) (le_refl _) λaw=>?_;refine qz (x:=a) az.cells ?_;refine lSl (x:=f.ls) (V.blk.cells 3 _ rfl) ?_;refine ae.rd.slK (l:=o) (m:=X.length) rfl (.inr rfl) (.inl ⟨rfl,rfl⟩) (by omega) (le_refl _) λO=>?_;refine qix V (by omega) λb am w4 an P Q=>?_;have p:Uc C w4:=(Below.refl _ C).drew.trans Q;have F:Uc w w4:=D.trans (p.mono D.size);have h4:=h1.ext p;refine ⟨h4.blk.cells 3 _ rfl,h4.blk.cells 3 _ rfl,?_⟩;refine nwb λw5 ao d bd=>?_;have s:Below C.drew.heap.size C.drew w5:=Q.trans (d.mono Q.size);have hA:=zdu (v.ext s) (aw.ext s) (an.rd.ext d) (O.ext s);have ap:=P.1;rw [List.length_replicate] at ap;refine quk ?_ hA ?_ (by simp) λq T Z G=>?_
   ·exact rd_lits (E:=zn7) (ys:=[_,_,_,_]) ao (by simp [maxLen]) rfl
   ·simp;omega
   have H:Uc w T:=F.trans ((d.trans (G.mono d.size)).mono F.size);have I:Uc C T:=p.trans ((d.trans (G.mono d.size)).mono p.size);have aa:Uc w4 T:=d.trans (G.mono d.size);have h6:=h1.ext I;have J:=hl.ext I;have a2:C.heap.size<=w5.heap.size:=by have:=p.size;have:=d.size;omega
   have a3:=D.size;have ab:Lines T base am (List.replicate m (Vv S.cols a)):=⟨P.1,λi t xs x1 x2=>((P.2 i t xs x1 x2).ext aa).base (by show base<=C.heap.size;omega)⟩;have j:∀k,q.blk=some k->w.heap.size<=k:=λk u=>by have:=(Z.lt k u).1;omega
   have U:=Z.base (base':=base) (by omega);have A:=(((J.take tp).drop 0).append (((((J.take o).drop tp).take ((X.take o).drop tp).length).drop m).append (ab.append (((J.take X.length).drop o).append (Lines.nil T base)))));rw [qC];refine qD h6.blk (by simp) λw7 aq M be=>?_;have ak:∀k,q.blk=some k->k≠f.g/\k≠f.r/\f.rs.blk≠some k:=λk u=>by
    have bf:=j k u;refine ⟨λe=>?_,λe=>?_,λe=>?_⟩
    ·have:=(h.below k (.inl e)).2;omega
    ·have:=(h.below k (.inr (.inl e))).2;omega
    ·have:=(h.below k (.inr (.inr (.inr e)))).2;omega
   have h7:=h6.newRow (B:=0) (top:=S.top) U A ak aq M (zero_le _);have e:List.take tp S.L++List.drop (tp+m) (List.take o S.L)++List.replicate m (Vv S.cols a)++List.drop o S.L=List.drop 0 (List.take tp S.L)++(List.drop m (List.take ((X.take o).drop tp).length (List.drop tp (List.take o S.L)))++(List.replicate m (Vv S.cols a)++(List.drop o (List.take X.length S.L)++[]))):=by
    have e1:((X.take o).drop tp).length=((S.L.take o).drop tp).length:=by simp [al]
    rw [drop_zero,List.append_nil,e1,List.take_length,al,List.take_length,List.drop_drop];simp
   have a4:Chg (kg f) w w7:=(Chg.of_ext (S:=kg f) H).trans (S':=λk=>k=f.g) (Chg.of_grown M λk u=>by cases u;rfl) λi _ hi=>.inl hi;rw [if_pos R,show ((tp:Int)).toNat=tp from rfl,show ((o:Int)).toNat=o from rfl,e] at hK;refine cO (λht=>?_) (λht=>?_)
   ·have ht:(tp:Int)≠0:=by simpa using ht
    rw [if_neg (λhh=>ht hh.2),if_pos (.inr (.inr ht))] at hK;exact hK ⟨f.g,f.r,q,f.rs⟩ w7 h7 ⟨rfl,rfl,.inr j,.inl rfl⟩ a4
   ·have ht:(tp:Int)=0:=by simpa using ht
    rw [if_pos ⟨R,ht⟩,if_neg (by rintro (hh | hh | hh);exact aj hh;omega;exact hh ht)] at hK;have ac:Chg (λk=>k=f.g) T w7:=Chg.of_grown M λk u=>by cases u;rfl
    obtain ⟨g1,g2,g3⟩:=h1.g_ne;have af:=av.ext (w':=T) (s.trans (G.mono s.size));have a5:∀k cs,k=f.g->¬Blk T k zi cs:=λk cs u hc=>h6.notC k cs (.inl u) hc;have ah:Rd slE w7 _ _:=af.chg ac λx hx hs=>by
     obtain ⟨y,hy,e1⟩:=cut_block hx;obtain ⟨z,hz,e2⟩:=cut_block hy;exact (g2 z.block (by simp [Slc.blk,hz])).1 (by rw [<-e2,<-e1];exact hs)
    have bg:=((((J.take o).drop tp).take m).drop 0).chg ac a5;refine zm1 (f:=⟨f.g,f.r,q,f.rs⟩) (m:=m) h7 ah (by simp;omega) bg (λx hx hs=>?_) hmost (by have:=H.size;have:=M.size;omega) (by omega) λi f' w8 h8 a6 bl bh=>?_
    ·obtain ⟨y,hy,e1⟩:=cut_block hx;obtain ⟨z,hz,e2⟩:=cut_block hy;have ai:f.ls.blk=some z.block:=by simp [Slc.blk,hz]
     rw [e1,e2] at hs;rcases hs with e | e | e | e
     ·exact (g2 _ ai).1 e
     ·exact (g2 _ ai).2 e
     ·have:=j _ e;have:=(h.below _ (.inr (.inr (.inl ai)))).2;omega
     ·exact h.ne _ ai e
    ·have ax:=h8.blk;have ay:f'.g=f.g:=a6.g;rw [ay] at ax;refine lI (x:=S.top) (ax.cells 4 _ rfl) ?_;rw [qC];refine qD ax (by simp) λw9 bi a7 bq=>?_;obtain ⟨br,bj,bk⟩:=h8.row;obtain ⟨k1,k2,k3⟩:=h8.g_ne;have a8:f.to ⟨f.g,f.r,q,f.rs⟩ w.heap.size:=⟨rfl,rfl,.inr j,.inl rfl⟩;have h9:=h8.newRow (B:=0) (w2:=w9) (top:=i64.wrap (S.top+m)) bj bk (λk u=>⟨(k2 k u).1,(k2 k u).2,h8.ne k u⟩) (by rw [ay];exact bi) (by rw [ay];exact a7) (zero_le _);have a9:w.heap.size<=w7.heap.size:=by have:=H.size;have:=M.size;omega
     refine hK f' w9 ?_ (a8.trans a6 a9) ((a4.trans bh λi hi hs=>?_).trans (S':=λk=>k=f.g) (Chg.of_grown a7 λk u=>by cases u;rfl) λi _ hi=>.inl hi)
     ·have ep:List.take m S.L=List.drop 0 (List.take m (List.drop tp (List.take o S.L))):=by
       have:tp=0:=by omega
       subst this;rw [drop_zero,drop_zero,List.take_take,Nat.min_eq_left (by omega)]
      rw [ep];exact h9
     ·rcases a8.old i hs with e | e
      ·exact e
      ·omega)
 refine cO (λc1=>W _ ?_) (λc1=>cO (λc2=>W _ ?_) (λc2=>W _ ?_))
 ·have c1:=oTq c1;rw [qM (by omega)];split at hm<;>split<;>omega
 ·have c2:=oTq c2;rw [qM (by omega)];split at hm<;>split<;>omega
 ·have c1:=oFq c1;have c2:=oFq c2;rw [qM (by omega)];split at hm<;>split<;>omega
theorem qot {cols:Nat} {L:List (List qZ)} {rows:Nat} {top past n:Int} {a:yX} (hL:L.length=rows) (h:¬Z1 rows top past n):(qjr cols L top past n a).length=L.length:=by
 unfold Z1 at h;have b:(VG top past n:Int)=min (if n<0 then -n else n) (past-top):=by unfold VG;split<;>omega
 unfold qjr;split
 ·simp only [List.length_append,List.length_take,List.length_drop,List.length_replicate];split at b<;>omega
 ·simp only [List.length_append,List.length_take,List.length_drop,List.length_replicate];split at b<;>omega
theorem qdr {S:GS} {top past n:Int} {a:yX} (hL:S.L.length=S.rows):(yW S top past n a).L.length=S.rows/\(yW S top past n a).rows=S.rows/\(yW S top past n a).cols=S.cols/\(yW S top past n a).most=S.most:=by
 unfold yW;split
 ·exact ⟨hL,rfl,rfl,rfl⟩
 ·next h =>
  split
  ·exact ⟨(qot hL h).trans hL,rfl,rfl,rfl⟩
  ·exact ⟨(qot hL h).trans hL,rfl,rfl,rfl⟩
section
variable {w w1 w2:World} {base:Nat} {f:Foot} {S:GS}
theorem GridM.setLine {i:Nat} {t:Slc} {xs:List qZ} {ls:List Slc} (h:GridM w1 base f S) (hl:Lines w1 base ls S.L) (ht:Go.Vc.Own zD w1 base t xs) (ho:Go.Vc.Own slE w2 base f.ls (ls.set i t)) (hg:w1.grownBy w2 f.ls.blk) :
  GridM w2 base f { S with L:=S.L.set i xs }/\Chg (λk=>f.ls.blk=some k) w1 w2:=by
 have a:=Chg.of_grown hg λk c=>c;have b:=λk d c=>h.notC k d (.inr (.inr (.inl c)));obtain ⟨n,m,o⟩:=h.g_ne;refine ⟨⟨h.blk.chg a λe=>(m _ e).1 rfl,h.hg,⟨ls.set i t,ho,(hl.chg a b).set i (ht.chg a λg hg j=>?_)⟩,h.ring.chg a (λk c j=>?_) b,h.ne⟩,a⟩
 ·obtain ⟨d,l⟩:=ht.blk_t hg;exact b g d j l
 ·rcases c with rfl | c
  ·exact (m _ j).2 rfl
  ·exact h.ne k j c
theorem Chg.gg {k:Nat} (h:w1.grownBy w2 (some k)):Chg (λi=>i=k) w1 w2:=Chg.of_grown h λi a=>by cases a;rfl
end
section
variable {w:World} {base:Nat} {f:Foot} {S:GS}
theorem callR_plain {C:Cx} {g:Nat} {first cap:Array Value} {args:List Value} {ks:List Kind} {w:World} {K:Go.Vc.Cur ks} (hp:C.plain g=true) (h:qw C.P g (first.toList++args++cap.toList) ks w K) :
  j7 C (.func (.func g) first cap) args ks w K:=by
 unfold j7 qpd;simp only [hp];exact h
end
end Go.Proofs.YtjhgepnpnapnoaaGreatDoor
namespace Go.Vc
open Go.RowKit
open Builtin (delete_)
open _root_.List (mem_append mem_cons mem_map mem_singleton)
open _root_.Option (map_eq_some_iff)
structure Ent (V:Type) where
 k:Int
 v:V
 b:Nat
section
variable {V:Type} (enc:V->Value)
def Ent.val (e:Ent V):MapEntry:={ key:=.int .i64 e.k,val:=enc e.v,born:=e.b }
structure MapE (w:World) (r:Nat) (E:List (Ent V)) (clock:Nat):Prop where
 heap:w.heap[r]?=some (.map (E.map (Ent.val enc)).toArray clock)
 keys:E.Pairwise λx y=>x.k≠y.k
 stamps:E.Pairwise λx y=>x.b<y.b
 lt:∀e∈E,e.b<clock
 wf:∀e∈E,-9223372036854775808<=e.k/\e.k<=9223372036854775807
def Srt (L:List (Int×V)):Prop:=L.Pairwise λp q=>p.1<q.1
def zy (L:List (Int×V)) (k:Int):Option V:=(L.find? λp=>p.1==k).map (·.2)
def delL (L:List (Int×V)) (k:Int):List (Int×V):=L.filter λp=>p.1 !=k
def kD (L:List (Int×V)) (k:Int) (v:V):List (Int×V):=match L with
 | []=>[(k,v)]
 | p::r=>if k<p.1 then (k,v)::p::r else if k=p.1 then (k,v)::r else p::kD r k v
def yD (E:List (Ent V)):List (Int×V):=E.map λe=>(e.k,e.v)
def jf (w:World) (r:Nat) (L:List (Int×V)):Prop:=∃E clock,MapE enc w r E clock/\(yD E).Perm L/\Srt L
variable {enc}
theorem MapE.lt_heap {w:World} {r:Nat} {E:List (Ent V)} {clock:Nat} (h:MapE enc w r E clock):r<w.heap.size:=(Array.getElem?_eq_some_iff.1 h.heap).1
theorem jf.lt {w:World} {r:Nat} {L:List (Int×V)} (h:jf enc w r L):r<w.heap.size:=by
 obtain ⟨E,c,h,_⟩:=h;exact h.lt_heap
theorem jf.keep {w w':World} {r:Nat} {L:List (Int×V)} (h:jf enc w r L) (hk:w'.heap[r]?=w.heap[r]?):jf enc w' r L:=by
 obtain ⟨E,c,h,a⟩:=h;exact ⟨E,c,⟨hk.trans h.heap,h.keys,h.stamps,h.lt,h.wf⟩,a⟩
theorem jf.chg {S:Nat->Prop} {w w':World} {r:Nat} {L:List (Int×V)} (h:jf enc w r L) (hc:Chg S w w') (hS:¬S r):jf enc w' r L:=h.keep (hc.block r h.lt hS)
theorem jf.ext {w w':World} {r:Nat} {L:List (Int×V)} (h:jf enc w r L) (hb:Uc w w'):jf enc w' r L:=h.keep (hb.block r h.lt)
theorem jf.new (w:World):jf enc (w.alloc (.map #[] 0)) w.heap.size ([]:List (Int×V)):=by
 refine ⟨[],0,⟨?_,.nil,.nil,(λe a=>by cases a),(λe a=>by cases a)⟩,.refl _,.nil⟩;show (w.heap.push _)[w.heap.size]?=_;simp
theorem jf.ne_blk {w:World} {r g:Nat} {L:List (Int×V)} {t:TypeId} {vs:List Value} (h:jf enc w r L) (hb:Blk w g t vs):r≠g:=by
 rintro rfl;obtain ⟨E,c,h,_⟩:=h;have a:=h.heap;rw [hb] at a;cases a
theorem jf.ne_own {T:Type} {El':El T} {w:World} {r base:Nat} {L:List (Int×V)} {s:Slc} {xs:List T} (h:jf enc w r L) (ho:Own El' w base s xs):∀k,s.blk=some k->k≠r:=λk b e=>by
 obtain ⟨c,a⟩:=ho.blk_t b;exact h.ne_blk a e.symm
def qcu:List (Ent V)->Int->Option (Nat×V)
 | [],_=>none
 | e::r,k=>if k=e.k then some (0,e.v) else (qcu r k).map λp=>(p.1+1,p.2)
theorem qwi (k:Int):∀(E:List (Ent V)) (i:Nat),Instr.findNow (.int .i64) (Ua k) (E.map (Ent.val enc)) i=some ((qcu E k).map λp=>(i+p.1,enc p.2))
 | [],i=>rfl
 | e::r,i=>by
  rw [List.map_cons,Instr.findNow];have a:Instr.sameNow (.int .i64) (Ua k) (Ent.val enc e).key=some (k==e.k):=by
   show (if (i64=i64) then some (k==e.k) else none)=_;rw [if_pos rfl]
  rw [a,qcu];by_cases h:k=e.k
  ·rw [if_pos h,show (k==e.k)=true from beq_iff_eq.2 h];rfl
  ·rw [if_neg h,show (k==e.k)=false from beq_eq_false_iff_ne.2 h];rw [qwi k r (i+1)];cases qcu r k with
   | none=>rfl
   | some p =>
    show some (some (i+1+p.1,enc p.2))=some (some (i+(p.1+1),enc p.2));rw [show i+1+p.1=i+(p.1+1) by omega]
theorem qvn {k:Int} {v:V}:∀{E:List (Ent V)} {i:Nat},qcu E k=some (i,v)->∃e,E[i]?=some e/\e.k=k/\e.v=v
 | e::r,i,h=>by
  rw [qcu] at h;by_cases hk:k=e.k
  ·rw [if_pos hk] at h;cases h;exact ⟨e,rfl,hk.symm,rfl⟩
  ·rw [if_neg hk] at h;obtain ⟨p,a,b⟩:=map_eq_some_iff.1 h;cases b;obtain ⟨x,c,d,f⟩:=qvn (by rw [a]);exact ⟨x,c,d,f⟩
theorem qo8 {k:Int}:∀{E:List (Ent V)},qcu E k=none->∀e∈E,e.k≠k
 | [],_,e,he=>by cases he
 | x::r,h,e,he=>by
  rw [qcu] at h;by_cases hk:k=x.k
  ·rw [if_pos hk] at h;cases h
  ·rw [if_neg hk] at h;have h:=Option.map_eq_none_iff.1 h;rcases mem_cons.1 he with rfl | he
   ·exact λe=>hk e.symm
   ·exact qo8 h e he
theorem xF {L:List (Int×V)} (hs:Srt L) {k:Int} {v:V}:zy L k=some v↔(k,v)∈L:=by
 unfold zy;rw [map_eq_some_iff];constructor
 ·rintro ⟨p,l,rfl⟩;have g:=List.find?_some l;have i:=List.mem_of_find?_eq_some l;have:p.1=k:=by simpa using g
  rw [<-this];exact i
 ·intro m;cases hf:L.find? (λp=>p.1==k) with
  | none =>
   have:=List.find?_eq_none.1 hf (k,v) m;simp at this
  | some q =>
   have g:q.1=k:=by simpa using List.find?_some hf
   have i:=List.mem_of_find?_eq_some hf;refine ⟨q,rfl,?_⟩;subst g;have:∀{M:List (Int×V)},Srt M->∀{a b c},(a,b)∈M->(a,c)∈M->b=c:=by
    intro M o
    induction o with
    | nil=>intro a b c h;cases h
    | cons n _ r =>
     intro a b c f d;rcases mem_cons.1 f with e | f
     ·rcases mem_cons.1 d with j | d
      ·have:=e.trans j.symm;cases this;rfl
      ·have:=n _ d;rw [<-e] at this;exact absurd this (Int.lt_irrefl _)
     ·rcases mem_cons.1 d with j | d
      ·have:=n _ f;rw [<-j] at this;exact absurd this (Int.lt_irrefl _)
      ·exact r f d
   exact this hs i m
theorem q23 {E:List (Ent V)} {L:List (Int×V)} (hp:(yD E).Perm L) (hs:Srt L) (k:Int):(qcu E k).map (·.2)=zy L k:=by
 cases hi:qcu E k with
 | none =>
  cases hg:zy L k with
  | none=>rfl
  | some v =>
   have:=hp.mem_iff.2 ((xF hs).1 hg);obtain ⟨e,a,b⟩:=mem_map.1 this;have b:=congrArg Prod.fst b;exact absurd b (qo8 hi e a)
 | some p =>
  obtain ⟨e,a,c,d⟩:=qvn hi;refine ((xF hs).2 (hp.mem_iff.1 (mem_map.2 ⟨e,List.mem_of_getElem? a,?_⟩))).symm;rw [c,d]
def q79 (w:World) (r:Nat) (o:Obj):World:={ w with heap:=w.heap.setIfInBounds r o }
theorem qsy (w:World) (r:Nat) (o:Obj):Chg (λk=>k=r) w (q79 w r o) :=
 ⟨rfl,rfl,rfl,by show w.heap.size<=(w.heap.setIfInBounds r o).size;simp,λk _ a=>by show (w.heap.setIfInBounds r o)[k]?=_;rw [Array.getElem?_setIfInBounds_ne (λe=>a e.symm)]⟩
theorem qu7 {w:World} {r:Nat} (o:Obj) (h:r<w.heap.size):(q79 w r o).heap[r]?=some o:=by
 show (w.heap.setIfInBounds r o)[r]?=_;simp [h]
theorem qo1 (w:World) (r:Nat) (o:Obj):(q79 w r o).heap.size=w.heap.size:=by show (w.heap.setIfInBounds r o).size=_;simp
theorem Srt.nodup {L:List (Int×V)} (h:Srt L):L.Nodup:=h.imp λ{a b} hab e=>by rw [e] at hab;exact Int.lt_irrefl _ hab
theorem q6o {E:List (Ent V)} (h:E.Pairwise λx y=>x.k≠y.k):(yD E).Nodup:=List.pairwise_map.2 (h.imp λ{a b} hab e=>hab (congrArg Prod.fst e))
theorem y4 {L:List (Int×V)} (hs:Srt L) (k:Int) (v:V):∀a b,(a,b)∈kD L k v↔(a=k/\b=v)\/(a≠k/\(a,b)∈L):=by
 induction hs with
 | nil =>
  simp [kD]
 | @cons p L' hp hs' ih =>
  intro a b;obtain ⟨e,f⟩:=p;rw [kD];have d:∀{a b},(a,b)∈L'->e<a:=λh=>hp _ h;by_cases h1:k<e
  ·rw [if_pos h1];simp only [mem_cons,Prod.mk.injEq];constructor
   ·rintro (h | h | h)
    ·exact .inl h
    ·exact .inr ⟨by omega,.inl h⟩
    ·exact .inr ⟨by have:=d h;omega,.inr h⟩
   ·rintro (h | ⟨_,h | h⟩)
    ·exact .inl h
    ·exact .inr (.inl h)
    ·exact .inr (.inr h)
  ·rw [if_neg h1];by_cases h2:k=e
   ·rw [if_pos h2];simp only [mem_cons,Prod.mk.injEq];constructor
    ·rintro (h | h)
     ·exact .inl h
     ·exact .inr ⟨by have:=d h;omega,.inr h⟩
    ·rintro (h | ⟨c,h | h⟩)
     ·exact .inl h
     ·omega
     ·exact .inr h
   ·rw [if_neg h2];simp only [mem_cons,Prod.mk.injEq,ih];constructor
    ·rintro (h | h | ⟨c,h⟩)
     ·exact .inr ⟨by omega,.inl h⟩
     ·exact .inl h
     ·exact .inr ⟨c,.inr h⟩
    ·rintro (h | ⟨c,h | h⟩)
     ·exact .inr (.inl h)
     ·exact .inl h
     ·exact .inr (.inr ⟨c,h⟩)
theorem qhf {L:List (Int×V)} (hs:Srt L) (k:Int) (v:V):Srt (kD L k v):=by
 induction hs with
 | nil=>exact List.pairwise_singleton _ _
 | @cons p L' hp hs' ih =>
  obtain ⟨d,f⟩:=p;rw [kD];by_cases h1:k<d
  ·rw [if_pos h1];refine .cons (λq c=>?_) (.cons hp hs');rcases mem_cons.1 c with rfl | c
   ·exact h1
   ·exact Int.lt_trans h1 (hp q c)
  ·rw [if_neg h1];by_cases h2:k=d
   ·rw [if_pos h2];exact .cons (λq c=>by rw [h2];exact hp q c) hs'
   ·rw [if_neg h2];refine .cons (λq c=>?_) ih;obtain ⟨a,b⟩:=q;rcases (y4 hs' k v a b).1 c with ⟨rfl,_⟩ | ⟨_,e⟩
    ·omega
    ·exact hp _ e
theorem qzv {L:List (Int×V)} (hs:Srt L) (k:Int):Srt (delL L k):=hs.filter _
theorem qm3 {L:List (Int×V)} (k a:Int) (b:V):(a,b)∈delL L k↔a≠k/\(a,b)∈L:=by
 simp [delL,and_comm]
def qxq (E:List (Ent V)) (i:Nat) (v:V):List (Ent V):=E.modify i λe=>{ e with v:=v }
theorem q9p {k:Int} {v v0:V}:∀{E:List (Ent V)} {i:Nat},E.Pairwise (λx y=>x.k≠y.k)->qcu E k=some (i,v0)->∀a b,(a,b)∈yD (qxq E i v)↔(a=k/\b=v)\/(a≠k/\(a,b)∈yD E)
 | e::r,i,hp,h,a,b=>by
  rw [qcu] at h;cases hp with
  | cons f g =>
  by_cases hk:k=e.k
  ·rw [if_pos hk] at h;cases h;show (a,b)∈(e.k,v)::yD r↔_\/(_/\(a,b)∈(e.k,e.v)::yD r);simp only [mem_cons,Prod.mk.injEq];have j:∀{a b},(a,b)∈yD r->a≠k:=λ{a b} hm l=>by
    obtain ⟨x,n,o⟩:=mem_map.1 hm;have:=congrArg Prod.fst o;exact f x n (by rw [<-hk,<-l];exact this.symm)
   constructor
   ·rintro (⟨c,d⟩ | h)
    ·exact .inl ⟨by omega,d⟩
    ·exact .inr ⟨j h,.inr h⟩
   ·rintro (⟨c,d⟩ | ⟨c,⟨d,_⟩ | h⟩)
    ·exact .inl ⟨by omega,d⟩
    ·omega
    ·exact .inr h
  ·rw [if_neg hk] at h;obtain ⟨p,m,l⟩:=map_eq_some_iff.1 h;cases l;have q:=q9p g (by rw [m]) a b (v:=v);show (a,b)∈(e.k,e.v)::yD (qxq r p.1 v)↔_\/(_/\(a,b)∈(e.k,e.v)::yD r);simp only [mem_cons,Prod.mk.injEq,q];constructor
   ·rintro (⟨c,d⟩ | h | ⟨c,d⟩)
    ·exact .inr ⟨by omega,.inl ⟨c,d⟩⟩
    ·exact .inl h
    ·exact .inr ⟨c,.inr d⟩
   ·rintro (h | ⟨c,h | h⟩)
    ·exact .inr (.inl h)
    ·exact .inl h
    ·exact .inr (.inr ⟨c,h⟩)
theorem q28 {k:Int} {v0:V}:∀{E:List (Ent V)} {i:Nat},E.Pairwise (λx y=>x.k≠y.k)->qcu E k=some (i,v0)->E.eraseIdx i=E.filter λe=>e.k !=k
 | e::r,i,hp,h=>by
  rw [qcu] at h;cases hp with
  | cons a b =>
  by_cases hk:k=e.k
  ·rw [if_pos hk] at h;cases h;rw [List.filter_cons,if_neg (by simp [hk])];refine (List.filter_eq_self.2 λx d=>?_).symm;have:=a x d;simp only [bne_iff_ne];rw [hk];exact λe=>this e.symm
  ·rw [if_neg hk] at h;obtain ⟨p,c,f⟩:=map_eq_some_iff.1 h;cases f;rw [List.eraseIdx_cons_succ,List.filter_cons,if_pos (by simpa using λe=>hk e.symm),q28 b (by rw [c])]
theorem q8j {k:Int} {E:List (Ent V)} (h:qcu E k=none):E.filter (λe=>e.k !=k)=E:=List.filter_eq_self.2 λx a=>by simpa using qo8 h x a
section
variable {P:Program} {t kt et:TypeId} {w:World} {r:Nat} {E:List (Ent V)} {clock:Nat}
theorem vT (hk:P.underlying kt=some (.int .i64)) (b:Bool) (k:Int):(Instr.checkKey b 10000 kt (Ua k)).run P w=.ok () w:=by
 rw [Instr.checkKey];simp only [Sem.run_bind,run_underlying hk,Result.andThen_ok,Sem.run_pure]
theorem ve {es:Array MapEntry} (h:w.heap[r]?=some (.map es clock)):(getObj r).run P w=.ok (.map es clock) w:=by simp [getObj,Sem.run,h]
theorem qj3 {es:Array MapEntry} (o:Obj) (h:w.heap[r]?=some (.map es clock)):(setObj r o).run P w=.ok () (q79 w r o):=by simp [setObj,Sem.run,h,q79]
theorem qe0 (hk:P.underlying kt=some (.int .i64)) (k:Int):(Instr.findKey kt (Ua k) (E.map (Ent.val enc))).run P w=.ok ((qcu E k).map λp=>(p.1,enc p.2)) w:=by
 have:=qwi (enc:=enc) k E 0;simp [Instr.findKey,run_underlying hk,this]
theorem MapE.lookup (h:MapE enc w r E clock) (ht:P.underlying t=some (.map kt et)) (hk:P.underlying kt=some (.int .i64)) {z:Value} (hz:∀w,(zeroValue et).run P w=.ok z w) (k:Int) :
  (Instr.lookup t (.map (some r)) (Ua k) false).run P w=.ok (((qcu E k).map λp=>enc p.2).getD z) w:=by
 have a:=qe0 (w:=w) (enc:=enc) (E:=E) hk k;cases hi:qcu E k with
 | none =>
  rw [hi] at a;simp [Instr.lookup,run_underlying ht,ve h.heap,vT hk,a,hz]
 | some p =>
  rw [hi] at a;simp [Instr.lookup,run_underlying ht,ve h.heap,vT hk,a]
theorem MapE.lookup_ok (h:MapE enc w r E clock) (ht:P.underlying t=some (.map kt et)) (hk:P.underlying kt=some (.int .i64)) {z:Value} (hz:∀w,(zeroValue et).run P w=.ok z w) (k:Int) :
  (Instr.lookup t (.map (some r)) (Ua k) true).run P w=.ok (.tuple #[((qcu E k).map λp=>enc p.2).getD z,.bool (qcu E k).isSome]) w:=by
 have a:=qe0 (w:=w) (enc:=enc) (E:=E) hk k;cases hi:qcu E k with
 | none =>
  rw [hi] at a;simp [Instr.lookup,run_underlying ht,ve h.heap,vT hk,a,hz]
 | some p =>
  rw [hi] at a;simp [Instr.lookup,run_underlying ht,ve h.heap,vT hk,a]
end
end
section
variable {V:Type} {enc:V->Value} {P:Program} {t kt et:TypeId} {w:World} {r:Nat} {L:List (Int×V)}
theorem quw {E:List (Ent V)} (hp:(yD E).Perm L):E.length=L.length:=by rw [<-hp.length_eq];simp [yD]
theorem jf.lookup (h:jf enc w r L) (ht:P.underlying t=some (.map kt et)) (hk:P.underlying kt=some (.int .i64)) {z:Value} (hz:∀w,(zeroValue et).run P w=.ok z w) (k:Int) :
  (Instr.lookup t (.map (some r)) (Ua k) false).run P w=.ok (((zy L k).map enc).getD z) w:=by
 obtain ⟨E,c,a,b,d⟩:=h;rw [a.lookup ht hk hz k,<-q23 b d k];simp only [Option.map_map];rfl
theorem jf.lookup_ok (h:jf enc w r L) (ht:P.underlying t=some (.map kt et)) (hk:P.underlying kt=some (.int .i64)) {z:Value} (hz:∀w,(zeroValue et).run P w=.ok z w) (k:Int) :
  (Instr.lookup t (.map (some r)) (Ua k) true).run P w=.ok (.tuple #[((zy L k).map enc).getD z,.bool (zy L k).isSome]) w:=by
 obtain ⟨E,c,a,b,d⟩:=h;rw [a.lookup_ok ht hk hz k,<-q23 b d k];simp only [Option.map_map,Option.isSome_map];rfl
theorem jf.srt (h:jf enc w r L):Srt L:=by obtain ⟨_,_,_,_,a⟩:=h;exact a
theorem jf.update (h:jf enc w r L) (ht:P.underlying t=some (.map kt et)) (hk:P.underlying kt=some (.int .i64)) {k:Int} (hk1:-9223372036854775808<=k/\k<=9223372036854775807) (v:V) :
  ∃w',(Instr.mapUpdate t (.map (some r)) (Ua k) (enc v)).run P w=.ok () w'/\jf enc w' r (kD L k v)/\Chg (λk=>k=r) w w'/\w'.heap.size=w.heap.size:=by
 obtain ⟨E,c,d,S,J⟩:=h;have K:=qe0 (P:=P) (kt:=kt) (w:=w) (enc:=enc) (E:=E) hk k;have l:∀{E':List (Ent V)},(∀a b,(a,b)∈yD E'↔(a=k/\b=v)\/(a≠k/\(a,b)∈yD E))->(E'.Pairwise λx y=>x.k≠y.k)->(yD E').Perm (kD L k v):=λ{E'} M hk' =>
  (List.perm_ext_iff_of_nodup (q6o hk') (qhf J k v).nodup).2 λp=>by
   obtain ⟨a,b⟩:=p;rw [M a b,y4 J k v a b,S.mem_iff]
 cases hi:qcu E k with
 | none =>
  rw [hi] at K;have u:=qo8 hi;refine ⟨q79 w r (.map ((E++[(⟨k,v,c⟩:Ent V)]).map (Ent.val enc)).toArray (c+1)),?_,⟨E++[(⟨k,v,c⟩:Ent V)],c+1,⟨qu7 _ d.lt_heap,?_,?_,?_,?_⟩,l (λa b=>?_) ?_,qhf J k v⟩,qsy _ _ _,qo1 _ _ _⟩
  ·have z:(E.map (Ent.val enc)).toArray.push { key:=.int .i64 k,val:=enc v,born:=c }=((E++[(⟨k,v,c⟩:Ent V)]).map (Ent.val enc)).toArray:=by simp [Ent.val]
   rw [<-z];simp [Instr.mapUpdate,run_underlying ht,ve d.heap,vT hk,K,qj3 _ d.heap]
  ·refine List.pairwise_append.2 ⟨d.keys,List.pairwise_singleton _ _,λx m y n=>?_⟩;rw [mem_singleton] at n;subst n;exact u x m
  ·refine List.pairwise_append.2 ⟨d.stamps,List.pairwise_singleton _ _,λx m y n=>?_⟩;rw [mem_singleton] at n;subst n;exact d.lt x m
  ·intro e g;rcases mem_append.1 g with g | g
   ·have:=d.lt e g;omega
   ·rw [mem_singleton] at g;subst g;exact Nat.lt_succ_self _
  ·intro e g;rcases mem_append.1 g with g | g
   ·exact d.wf e g
   ·rw [mem_singleton] at g;subst g;exact hk1
  ·have T:yD (E++[(⟨k,v,c⟩:Ent V)])=yD E++[(k,v)]:=by simp [yD]
   rw [T,mem_append,mem_singleton,Prod.mk.injEq];constructor
   ·rintro (h | h)
    ·refine .inr ⟨λe=>?_,h⟩;obtain ⟨x,m,U⟩:=mem_map.1 h;exact u x m (by rw [<-e];exact congrArg Prod.fst U)
    ·exact .inl h
   ·rintro (h | ⟨_,h⟩)
    ·exact .inr h
    ·exact .inl h
  ·refine List.pairwise_append.2 ⟨d.keys,List.pairwise_singleton _ _,λx m y n=>?_⟩;rw [mem_singleton] at n;subst n;exact u x m
 | some p =>
  obtain ⟨i,Y⟩:=p;rw [hi] at K;obtain ⟨e,g,D,W⟩:=qvn hi;have M:=q9p (v:=v) d.keys hi;have q:∀{Q:Ent V->Prop},(∀x∈E,Q x->Q { x with v:=v })->(∀x∈E,Q x)->∀x∈qxq E i v,Q x:=λ{Q} F h2 x m=>by
   unfold qxq at m;obtain ⟨j,O⟩:=List.getElem?_of_mem m;rw [List.getElem?_modify] at O;obtain ⟨y,n,o⟩:=map_eq_some_iff.1 O;have B:=List.mem_of_getElem? n;by_cases hij:i=j
   ·rw [if_pos hij] at o;rw [<-o];exact F y B (h2 y B)
   ·rw [if_neg hij] at o;rw [<-o];exact h2 y B
  have s:∀{A:Type} (f:Ent V->A),(∀x,f { x with v:=v }=f x)->(qxq E i v).map f=E.map f:=λ{A} f hf'=>by
   refine List.ext_getElem? λj=>?_;unfold qxq;rw [List.getElem?_map,List.getElem?_modify,List.getElem?_map];cases E[j]? with
   | none=>rfl
   | some x =>
    show some (f (if i=j then { x with v:=v } else x))=some (f x);by_cases hij:i=j
    ·rw [if_pos hij,hf' x]
    ·rw [if_neg hij]
  have G:(qxq E i v).Pairwise λx y=>x.k≠y.k:=by
   have F:=d.keys;rw [<-List.pairwise_map (f:=λe:Ent V=>e.k) (R:=λa b=>a≠b)] at F ⊢
   rwa [s (λe=>e.k) (λ_=>rfl)]
  have N:(qxq E i v).Pairwise λx y=>x.b<y.b:=by
   have F:=d.stamps;rw [<-List.pairwise_map (f:=λe:Ent V=>e.b) (R:=λa b=>a<b)] at F ⊢
   rwa [s (λe=>e.b) (λ_=>rfl)]
  have H:(E.map (Ent.val enc)).toArray.modify i (λx=>{ x with key:=.int .i64 k,val:=enc v })=((qxq E i v).map (Ent.val enc)).toArray:=by
   apply Array.ext';refine List.ext_getElem? λj=>?_;rw [Array.getElem?_toList,Array.getElem?_modify];unfold qxq;rw [List.getElem?_toArray,List.getElem?_map,List.getElem?_map,List.getElem?_modify];by_cases hij:i=j
   ·subst hij;rw [if_pos rfl,g];show some _=some (Ent.val enc (if i=i then { e with v:=v } else e));rw [if_pos rfl];simp [Ent.val,D]
   ·rw [if_neg hij];cases E[j]? with
    | none=>rfl
    | some x=>show some (Ent.val enc x)=some (Ent.val enc (if i=j then { x with v:=v } else x));rw [if_neg hij]
  refine ⟨q79 w r (.map ((qxq E i v).map (Ent.val enc)).toArray c),?_,⟨qxq E i v,c,⟨qu7 _ d.lt_heap,G,N,q (Q:=λe=>e.b<c) (λ_ _ h=>h) d.lt,q (λ_ _ h=>h) d.wf⟩,l M G,qhf J k v⟩,qsy _ _ _,qo1 _ _ _⟩;have I:((((E.map (Ent.val enc)).toArray[i]?).map (·.key)).getD (Ua k))=.int .i64 k:=by
   rw [List.getElem?_toArray,List.getElem?_map,g];show Value.int .i64 e.k=_;rw [D]
  have C:(Instr.keyThatStays (Ua k) (Ua k)).run P w=.ok (Ua k) w:=by
   unfold Instr.keyThatStays;have:Instr.sameBits 10000 (Ua k) (Ua k)=true:=by
    rw [Instr.sameBits];simp
   rw [if_pos this];rfl
  rw [<-H];unfold Instr.mapUpdate;simp only [Sem.run_bind,run_underlying ht,Result.andThen_ok,ve d.heap,vT hk,K,I,C,Option.map_some];exact qj3 _ d.heap
theorem qqh {A B:Type} (f:A->B):∀(l:List A) (i:Nat),(l.map f).eraseIdx i=(l.eraseIdx i).map f
 | [],_=>rfl
 | _::_,0=>rfl
 | a::l,i+1=>by simp [qqh f l i]
theorem jf.delete (h:jf enc w r L) (ht:P.underlying t=some (.map kt et)) (hk:P.underlying kt=some (.int .i64)) (k:Int) (ty:TypeId) :
  ∃w',(delete_ #[t,kt] ty #[.map (some r),.int .i64 k]).run P w=.ok (.tuple #[]) w'/\jf enc w' r (delL L k)/\Chg (λk=>k=r) w w'/\w'.heap.size=w.heap.size:=by
 obtain ⟨E,c,b,j,l⟩:=h;have f:=qe0 (w:=w) (enc:=enc) (E:=E) hk k;have a:jf enc (q79 w r (.map ((E.filter λe=>e.k !=k).map (Ent.val enc)).toArray c)) r (delL L k):=by
  refine ⟨E.filter λe=>e.k !=k,c,⟨qu7 _ b.lt_heap,b.keys.filter _,b.stamps.filter _,λe g=>b.lt e ((List.mem_filter.1 g).1),λe g=>b.wf e ((List.mem_filter.1 g).1)⟩,?_,qzv l k⟩;have m:yD (E.filter λe=>e.k !=k)=(yD E).filter λp=>p.1 !=k:=by
   unfold yD;rw [List.filter_map];rfl
  rw [m];exact j.filter _
 cases hi:qcu E k with
 | none =>
  rw [hi] at f;rw [q8j hi] at a;refine ⟨_,?_,a,qsy _ _ _,qo1 _ _ _⟩;simp [delete_,run_underlying ht,ve b.heap,vT hk,f,qj3 _ b.heap]
 | some p =>
  obtain ⟨i,n⟩:=p;rw [hi] at f;rw [<-q28 b.keys hi] at a;refine ⟨_,?_,a,qsy _ _ _,qo1 _ _ _⟩;have d:(E.map (Ent.val enc)).toArray.eraseIdxIfInBounds i=((E.eraseIdx i).map (Ent.val enc)).toArray:=by
   simp [qqh]
  rw [<-d];simp [delete_,run_underlying ht,ve b.heap,vT hk,f,qj3 _ b.heap]
theorem jf.len (h:jf enc w r L) (ht:P.underlying t=some (.map kt et)) (ty:TypeId):(Builtin.len_ #[t] ty #[.map (some r)]).run P w=.ok (Ua (L.length:Int)) w:=by
 obtain ⟨E,c,a,b,d⟩:=h;rw [<-quw b];simp [Builtin.len_,run_underlying ht,ve a.heap]
 try rfl
end
end Go.Vc
namespace Go.Proofs.YtjhgepnpnapnoaaGreatDoor
open Go.Vc Go.RowKit
def qoo:Int->List Bool->List (Int×Unit)
 | _,[]=>[]
 | i,b::r=>if b then (i,())::qoo (i+1) r else qoo (i+1) r
def keysB (B:List Bool):List (Int×Unit):=qoo 0 B
theorem qva:∀{B:List Bool} {i a:Int} {u:Unit},(a,u)∈qoo i B↔∃j:Nat,a=i+j/\B[j]?=some true
 | [],i,a,u=>by simp [qoo]
 | b::r,i,a,u=>by
  have e:=qva (B:=r) (i:=i+1) (a:=a) (u:=u);have d:(∃j:Nat,a=i+1+j/\r[j]?=some true)↔∃j:Nat,a=i+((j+1:Nat):Int)/\(b::r)[j+1]?=some true:=by
   constructor
   ·rintro ⟨j,h,c⟩;exact ⟨j,by omega,c⟩
   ·rintro ⟨j,h,c⟩;exact ⟨j,by omega,c⟩
  rw [qoo];cases b with
  | true =>
   rw [if_pos rfl,List.mem_cons,e,d];constructor
   ·rintro (h | ⟨j,h,c⟩)
    ·exact ⟨0,by cases h;simp,rfl⟩
    ·exact ⟨j+1,h,c⟩
   ·rintro ⟨j,h,c⟩;cases j with
    | zero=>exact .inl (by rw [h];simp)
    | succ j=>exact .inr ⟨j,h,c⟩
  | false =>
   rw [if_neg (by simp),e,d];constructor
   ·rintro ⟨j,h,c⟩;exact ⟨j+1,h,c⟩
   ·rintro ⟨j,h,c⟩;cases j with
    | zero=>simp at c
    | succ j=>exact ⟨j,h,c⟩
theorem qvk:∀(B:List Bool) (i:Int),Srt (qoo i B)
 | [],i=>.nil
 | b::r,i=>by
  rw [qoo];cases b with
  | true =>
   refine List.pairwise_cons.2 ⟨λp c=>?_,qvk r (i+1)⟩;obtain ⟨a,u⟩:=p;obtain ⟨j,h,_⟩:=qva.1 c;omega
  | false=>rw [if_neg (by simp)];exact qvk r (i+1)
theorem q34 {B:List Bool} {a:Int} {u:Unit}:(a,u)∈keysB B↔∃j:Nat,a=j/\B[j]?=some true:=by
 unfold keysB;rw [qva];simp
theorem Ql (B:List Bool):Srt (keysB B):=qvk B 0
theorem qt3 {L M:List (Int×Unit)} (h:Srt L) (h':Srt M) (hm:∀a,(a,())∈L↔(a,())∈M):L=M:=by
 have c:=(List.perm_ext_iff_of_nodup h.nodup h'.nodup).2 λp=>by obtain ⟨a,u⟩:=p;exact hm a
 refine c.eq_of_pairwise (λa b _ _ d e=>?_) (h.imp λh=>Int.le_of_lt h) (h'.imp λh=>Int.le_of_lt h);obtain ⟨a,u⟩:=a;obtain ⟨b,v⟩:=b;have:=Int.le_antisymm d e;subst this;rfl
def q4e (j:Nat):Bool:=decide (0<j) && decide (j%8=0)
def YV (B:List Bool) (n:Nat):List Bool:=(List.range n).map λj=>(B[j]?).getD (q4e j)
@[simp] theorem resz_length (B:List Bool) (n:Nat):(YV B n).length=n:=by simp [YV]
theorem q0h {B:List Bool} {n j:Nat}:(YV B n)[j]?=if j<n then some ((B[j]?).getD (q4e j)) else none:=by
 unfold YV;rw [List.getElem?_map];by_cases h:j<n
 ·rw [if_pos h,List.getElem?_range h];rfl
 ·rw [if_neg h,List.getElem?_eq_none (by simpa using h)];rfl
theorem zft (B:List Bool):YV B B.length=B:=by
 refine List.ext_getElem? λj=>?_;rw [q0h];split
 ·rename_i h;rw [List.getElem?_eq_getElem h];rfl
 ·rw [List.getElem?_eq_none (by omega)]
theorem qc2 {B:List Bool} {n:Nat} {a:Int} {u:Unit}:(a,u)∈keysB (YV B n)↔∃j:Nat,a=j/\j<n/\(B[j]?).getD (q4e j)=true:=by
 rw [q34];constructor
 ·rintro ⟨j,h,b⟩;rw [q0h] at b;split at b
  ·rename_i c;exact ⟨j,h,c,by simpa using b⟩
  ·cases b
 ·rintro ⟨j,h,c,b⟩;exact ⟨j,h,by rw [q0h,if_pos c,b]⟩
theorem zjp {B:List Bool} (h:B.length<=1):keysB (YV B 1)=keysB B:=by
 refine qt3 (Ql _) (Ql _) λa=>?_;rw [qc2,q34];constructor
 ·rintro ⟨j,rfl,d,c⟩;obtain rfl:j=0:=by omega
  refine ⟨0,rfl,?_⟩;cases hb:B[0]? with
  | none=>rw [hb] at c;cases c
  | some b=>rw [hb] at c;exact congrArg some c
 ·rintro ⟨j,rfl,c⟩;have:=(List.getElem?_eq_some_iff.1 c).1;exact ⟨j,rfl,by omega,by rw [c];rfl⟩
theorem q2x {B:List Bool} {n:Nat} (h:B.length<=n):(q4e n=true->kD (keysB (YV B n)) (n:Int) ()=keysB (YV B (n+1)))/\(q4e n=false->keysB (YV B n)=keysB (YV B (n+1))):=by
 have f:=List.getElem?_eq_none h;constructor
 ·intro c;refine qt3 (qhf (Ql _) _ _) (Ql _) λa=>?_;rw [y4 (Ql _),qc2,qc2];constructor
  ·rintro (⟨rfl,_⟩ | ⟨g,j,rfl,d,b⟩)
   ·exact ⟨n,rfl,by omega,by rw [f];exact c⟩
   ·exact ⟨j,rfl,by omega,b⟩
  ·rintro ⟨j,rfl,d,b⟩;by_cases e:j=n
   ·exact .inl ⟨by rw [e],rfl⟩
   ·exact .inr ⟨by omega,j,rfl,by omega,b⟩
 ·intro c;refine qt3 (Ql _) (Ql _) λa=>?_;rw [qc2,qc2];constructor
  ·rintro ⟨j,rfl,d,b⟩;exact ⟨j,rfl,by omega,b⟩
  ·rintro ⟨j,rfl,d,b⟩;refine ⟨j,rfl,?_,b⟩;have:j≠n:=λe=>by subst e;rw [f] at b;rw [c] at b;cases b
   omega
theorem zjv {B:List Bool} {n m:Nat} (h:n<=m):(keysB (YV B m)).filter (λp=>decide (p.1<(n:Int)))=keysB (YV B n):=by
 refine qt3 ((Ql _).filter _) (Ql _) λa=>?_;rw [List.mem_filter,qc2,qc2];constructor
 ·rintro ⟨⟨j,rfl,c,b⟩,hlt⟩;have:=oTq hlt;exact ⟨j,rfl,by simp at this;omega,b⟩
 ·rintro ⟨j,rfl,c,b⟩;exact ⟨⟨j,rfl,by omega,b⟩,by simp;omega⟩
end Go.Proofs.YtjhgepnpnapnoaaGreatDoor
set_option maxRecDepth 100000
namespace Go.Proofs
open Go.RowKit Go.Maps Go.Sort Go.Shelf Go.Vc
open _root_.List (map_map)
def Tryz.keysA_ren:Go.Shelf.Ren:=⟨λ| 7=>26 | 10=>64 | n=>n,λ| 23=>69 | 26=>3 | 3=>71 | 28=>67 | 0=>0 | 27=>66 | 33=>131 | 4=>4 | n=>n,λ| n=>n⟩
theorem Tryz.keysA:Go.Proofs.SlLaysZI.n7 Tryz.prog Tryz.keysA_ren:={
 mixed:=by kernel_rfl
 f7:=⟨Tryz.f26.name,by decide,Tryz.func26.trans (congrArg some (by kernel_rfl))⟩
 f10:=⟨Tryz.f64.name,by decide,Tryz.func64.trans (congrArg some (by kernel_rfl))⟩
 t0:=Tryz.underlying0
 a0:=Tryz.isAgg0
 z0:=Tryz.sizeOf0
 v0:=Tryz.zeroValue0
 t4:=Tryz.underlying4
 a4:=Tryz.isAgg4
 z4:=Tryz.sizeOf4
 v4:=Tryz.zeroValue4
 t23:=Tryz.underlying69
 a23:=Tryz.isAgg69
 z23:=Tryz.sizeOf69
 v23:=Tryz.zeroValue69
 t26:=Tryz.underlying3
 a26:=Tryz.isAgg3
 z26:=Tryz.sizeOf3
 v26:=Tryz.zeroValue3
 t27:=Tryz.underlying66
 a27:=Tryz.isAgg66
 z27:=Tryz.sizeOf66
 v27:=Tryz.zeroValue66
 t28:=Tryz.underlying67
 a28:=Tryz.isAgg67
 z28:=Tryz.sizeOf67
 v28:=Tryz.zeroValue67
 t33:=Tryz.underlying131
 a33:=Tryz.isAgg131
 z33:=Tryz.sizeOf131
 v33:=Tryz.zeroValue131 }
def Tryz.sortedA_ren:Go.Shelf.Ren:=⟨λ| 6=>25 | 8=>62 | 9=>63 | 11=>126 | 13=>128 | 12=>127 | 23=>207 | 24=>208 | 14=>198 | 15=>199 | 16=>200 | 17=>201 | 18=>202 | 19=>203 | 20=>204 | 21=>205 | 22=>206 | 25=>293 | 26=>294 | 27=>295 | 28=>296 | 29=>297 | 30=>298 | 31=>358 | n=>n,λ| 26=>3 | 28=>67 | 24=>36 | 0=>0 | 3=>3 | 37=>54 | 48=>286 | 50=>288 | 4=>4 | 40=>279 | 39=>278 | 45=>283 | 5=>5 | 9=>9 | 51=>333 | 55=>337 | 57=>382 | 58=>231 | 33=>131 | n=>n,λ| n=>n⟩
theorem Tryz.sortedA:Go.Proofs.SlLaysZI.n6 Tryz.prog Tryz.sortedA_ren:={
 mixed:=by kernel_rfl
 f6:=⟨Tryz.f25.name,by decide,Tryz.func25.trans (congrArg some (by kernel_rfl))⟩
 f8:=⟨Tryz.f62.name,by decide,Tryz.func62.trans (congrArg some (by kernel_rfl))⟩
 f11:=⟨Tryz.f126.name,by decide,Tryz.func126.trans (congrArg some (by kernel_rfl))⟩
 t0:=Tryz.underlying0
 a0:=Tryz.isAgg0
 z0:=Tryz.sizeOf0
 v0:=Tryz.zeroValue0
 t24:=Tryz.underlying36
 a24:=Tryz.isAgg36
 z24:=Tryz.sizeOf36
 v24:=Tryz.zeroValue36
 t26:=Tryz.underlying3
 a26:=Tryz.isAgg3
 z26:=Tryz.sizeOf3
 v26:=Tryz.zeroValue3
 t28:=Tryz.underlying67
 a28:=Tryz.isAgg67
 z28:=Tryz.sizeOf67
 v28:=Tryz.zeroValue67
 i26:=by kernel_rfl }
def Tryz.sortA_ren:Go.Shelf.Ren:=⟨λ| 5=>63 | 8=>128 | 7=>127 | 19=>207 | 20=>208 | 10=>198 | 11=>199 | 12=>200 | 13=>201 | 14=>202 | 15=>203 | 16=>204 | 17=>205 | 18=>206 | 30=>293 | 31=>294 | 32=>295 | 33=>296 | 34=>297 | 35=>298 | 40=>358 | n=>n,λ| 23=>36 | 25=>3 | 3=>3 | 32=>54 | 22=>36 | 0=>0 | 44=>286 | 46=>288 | 4=>4 | 36=>279 | 35=>278 | 41=>283 | 5=>5 | 9=>9 | 53=>333 | 57=>337 | 63=>382 | 64=>231 | n=>n,λ| n=>n⟩
theorem Tryz.sortA:Go.Proofs.SlLaysM.n5 Tryz.prog Tryz.sortA_ren:={
 mixed:=by kernel_rfl
 f5:=⟨Tryz.f63.name,by decide,Tryz.func63.trans (congrArg some (by kernel_rfl))⟩
 f7:=⟨Tryz.f127.name,by decide,Tryz.func127.trans (congrArg some (by kernel_rfl))⟩
 f8:=Tryz.func128.trans (congrArg some (by kernel_rfl))
 f10:=⟨Tryz.f198.name,by decide,Tryz.func198.trans (congrArg some (by kernel_rfl))⟩
 f11:=⟨Tryz.f199.name,by decide,Tryz.func199.trans (congrArg some (by kernel_rfl))⟩
 f12:=⟨Tryz.f200.name,by decide,Tryz.func200.trans (congrArg some (by kernel_rfl))⟩
 f13:=⟨Tryz.f201.name,by decide,Tryz.func201.trans (congrArg some (by kernel_rfl))⟩
 f14:=⟨Tryz.f202.name,by decide,Tryz.func202.trans (congrArg some (by kernel_rfl))⟩
 f15:=⟨Tryz.f203.name,by decide,Tryz.func203.trans (congrArg some (by kernel_rfl))⟩
 f16:=⟨Tryz.f204.name,by decide,Tryz.func204.trans (congrArg some (by kernel_rfl))⟩
 f17:=⟨Tryz.f205.name,by decide,Tryz.func205.trans (congrArg some (by kernel_rfl))⟩
 f18:=⟨Tryz.f206.name,by decide,Tryz.func206.trans (congrArg some (by kernel_rfl))⟩
 f19:=Tryz.func207.trans (congrArg some (by kernel_rfl))
 f20:=Tryz.func208.trans (congrArg some (by kernel_rfl))
 f30:=⟨Tryz.f293.name,by decide,Tryz.func293.trans (congrArg some (by kernel_rfl))⟩
 f31:=Tryz.func294.trans (congrArg some (by kernel_rfl))
 f32:=Tryz.func295.trans (congrArg some (by kernel_rfl))
 f33:=⟨Tryz.f296.name,by decide,Tryz.func296.trans (congrArg some (by kernel_rfl))⟩
 f34:=⟨Tryz.f297.name,by decide,Tryz.func297.trans (congrArg some (by kernel_rfl))⟩
 f35:=⟨Tryz.f298.name,by decide,Tryz.func298.trans (congrArg some (by kernel_rfl))⟩
 f40:=⟨Tryz.f358.name,by decide,Tryz.func358.trans (congrArg some (by kernel_rfl))⟩
 t0:=Tryz.underlying0
 a0:=Tryz.isAgg0
 z0:=Tryz.sizeOf0
 v0:=Tryz.zeroValue0
 t3:=Tryz.underlying3
 a3:=Tryz.isAgg3
 z3:=Tryz.sizeOf3
 v3:=Tryz.zeroValue3
 t4:=Tryz.underlying4
 a4:=Tryz.isAgg4
 z4:=Tryz.sizeOf4
 v4:=Tryz.zeroValue4
 t5:=Tryz.underlying5
 a5:=Tryz.isAgg5
 z5:=Tryz.sizeOf5
 v5:=Tryz.zeroValue5
 t9:=Tryz.underlying9
 a9:=Tryz.isAgg9
 z9:=Tryz.sizeOf9
 v9:=Tryz.zeroValue9
 t22:=Tryz.underlying36
 a22:=Tryz.isAgg36
 z22:=Tryz.sizeOf36
 v22:=Tryz.zeroValue36
 t23:=Tryz.underlying36
 a23:=Tryz.isAgg36
 z23:=Tryz.sizeOf36
 v23:=Tryz.zeroValue36
 t25:=Tryz.underlying3
 a25:=Tryz.isAgg3
 z25:=Tryz.sizeOf3
 v25:=Tryz.zeroValue3
 t32:=Tryz.underlying54
 a32:=Tryz.isAgg54
 z32:=Tryz.sizeOf54
 v32:=Tryz.zeroValue54
 t35:=Tryz.underlying278
 a35:=Tryz.isAgg278
 z35:=Tryz.sizeOf278
 v35:=Tryz.zeroValue278
 t36:=Tryz.underlying279
 a36:=Tryz.isAgg279
 z36:=Tryz.sizeOf279
 v36:=Tryz.zeroValue279
 t41:=Tryz.underlying283
 a41:=Tryz.isAgg283
 z41:=Tryz.sizeOf283
 v41:=Tryz.zeroValue283
 t44:=Tryz.underlying286
 a44:=Tryz.isAgg286
 z44:=Tryz.sizeOf286
 v44:=Tryz.zeroValue286
 t46:=Tryz.underlying288
 a46:=Tryz.isAgg288
 z46:=Tryz.sizeOf288
 v46:=Tryz.zeroValue288
 t53:=Tryz.underlying333
 a53:=Tryz.isAgg333
 z53:=Tryz.sizeOf333
 v53:=Tryz.zeroValue333
 t57:=Tryz.underlying337
 a57:=Tryz.isAgg337
 z57:=Tryz.sizeOf337
 v57:=Tryz.zeroValue337
 t63:=Tryz.underlying382
 a63:=Tryz.isAgg382
 z63:=Tryz.sizeOf382
 v63:=Tryz.zeroValue382
 t64:=Tryz.underlying231
 a64:=Tryz.isAgg231
 z64:=Tryz.sizeOf231
 v64:=Tryz.zeroValue231 }
theorem Tryz.sortsA (m:Nat):AnyZI.SortsIn Tryz.prog Tryz.sortedA_ren Fence.wide m :=
 ⟨λc d a f W g b e=>callsIn_wide.2 (AnyM.slices_Sort_int Tryz.sortA c d a f W g b e),
  λp a W=>callsIn_wide.2 (AnyM.slices_Sort_int_none Tryz.sortA p a W)⟩
namespace YtjhgepnpnapnoaaGreatDoor
section
variable {V:Type} {enc:V->Value} {w:World} {r:Nat} {L:List (Int×V)}
def q52:Value->Option (DataW Unit×List MemPlace):=λ_=>some (.nil,[])
theorem zho {c:Nat} {E:List (Ent V)} (hE:MapE enc w r E c) {e:Ent V} (he:e∈E):WideElems.rd Tryz.prog 3 q52 (Ent.val enc e)=some (.int .i64 e.k,.nil):=by
 have b:=keyOf_int_mk Tryz.underlying3 (by
  have:=hE.wf e he;simp [Lit.wf,IntKind.min,IntKind.signed,IntKind.bits];omega)
 show (keyOf Tryz.prog 3 (.int .i64 e.k)).bind _=_;rw [b];rfl
theorem zc7 {c:Nat} {E:List (Ent V)} (hE:MapE enc w r E c) (hl:E.length<=maxLen) :
  ∃D0:DataW Unit,w.ownsMap Tryz.prog 3 q52 r E.length D0/\Maps.size D0=E.length/\(intKeys D0).Perm (E.map (·.k)):=by
 have d:(E.map (Ent.val enc)).map (WideElems.rg Tryz.prog 3 q52)=E.map λe=>(Lit.int .i64 e.k,(.nil:DataW Unit)):=by
  rw [map_map];refine List.map_congr_left λe f=>?_;show (WideElems.rd Tryz.prog 3 q52 (Ent.val enc e)).getD _=_;rw [zho hE f];rfl
 refine ⟨_,⟨_,c,hE.heap,⟨by simpa using hl,⟨?_,?_,?_⟩,?_⟩,by simp,rfl⟩,?_,?_⟩
 ·intro x g;obtain ⟨e,f,rfl⟩:=List.mem_map.1 g;exact hE.lt e f
 ·rw [map_map];exact List.pairwise_map.2 (hE.stamps.imp λ{a b} h (e:a.b=b.b)=>by rw [e] at h;exact Nat.lt_irrefl _ h)
 ·rw [map_map];exact List.pairwise_map.2 (hE.keys.imp λ{a b} h (e:Value.int .i64 a.k=.int .i64 b.k)=>h (by injection e))
 ·intro x g;obtain ⟨e,f,rfl⟩:=List.mem_map.1 g;exact ⟨_,zho hE f⟩
 ·show (List.foldr DataW.insert [] _).length=_;rw [d,(Go.WideShapes.sorted_perm _).length_eq,List.length_map]
 ·rw [d];refine ((Go.WideShapes.sorted_perm _).map _).trans ?_;rw [map_map];exact .refl _
theorem q32 (hM:jf enc w r L) (hl:L.length<=maxLen) {B:Nat} (hB:w.cell? ⟨B,0,none⟩=some (.map (some r))) (n:Nat) (hn:1<=n) :
  SeqGives Fence.wide n Tryz.prog 64 #[.pointer (some ⟨B,0,none⟩)] encZ (λss=>ss.Perm (L.map (·.1))) L.length w:=by
 obtain ⟨E,c,p,m,A⟩:=hM;have a:=quw m;obtain ⟨q,s,b,d⟩:=zc7 p (by omega);have f:B<w.heap.size:=by
  unfold World.cell? at hB;cases h:w.heap[B]? with
  | none=>rw [h] at hB;cases hB
  | some o=>exact (Array.getElem?_eq_some_iff.1 h).1
 have h:=AnyZI.keys_gives { Tryz.keysA with } Fence.wide n trivial rfl hn B r E.length q w f hB s;rw [b,a] at h;have g:(E.map (·.k)).Perm (L.map (·.1)):=by
  have:=m.map (·.1);unfold yD at this
  rwa [map_map] at this
 intro l J W t u v x;refine (h l J W t u v x).mono ?_;rintro e C ⟨y,z,i,j⟩;exact ⟨y,z,(i.trans d).trans g,j⟩
theorem q3w {m:Option Nat} {w:World} {K:Value->Ub}
  (hK:K (.func (.func 64) #[] #[.pointer (some ⟨w.heap.size,0,none⟩)]) (w.alloc (.cells #[.map m] 69))):je m w K:=by
 have h:=callsIn_wide.1 (AnyZI.keys_in Tryz.keysA Fence.wide 5 trivial rfl m w);refine Calls.mono h ?_;rintro e a ⟨rfl,rfl⟩;exact ⟨_,rfl,hK⟩
theorem q7k {ss:List Int} (hs:Srt L) (hp:ss.Perm (L.map (·.1))):ss.mergeSort (λx y=>decide (x<=y))=L.map (·.1):=by
 have d:(ss.mergeSort λx y=>decide (x<=y)).Pairwise λx y=>x<=y:=by
  have:=List.pairwise_mergeSort (le:=λx y:Int=>decide (x<=y)) (λa b c d e=>by simp only [decide_eq_true_eq] at *;omega) (λa b=>by simp only [Bool.or_eq_true,decide_eq_true_eq];omega) ss;exact this.imp λh=>by simpa using h
 have e:=List.pairwise_map.2 (hs.imp λh=>Int.le_of_lt h);exact ((List.mergeSort_perm ss _).trans hp).eq_of_pairwise (λa b _ _ d e=>Int.le_antisymm d e) d e
theorem q6n:∀xs:List Int,Qg jr xs=xs.map encZ
 | []=>rfl
 | x::xs=>by
  have a:=q6n xs;unfold Qg at a ⊢;rw [List.flatMap_cons,a];rfl
theorem qrk {w:World} {base:Nat} {v:Value} {xs:List Int} (h:w.ownsRow base 3 1 v xs.length (xs.map encZ)):∃q:Slc,v=.slice q.a q.n q.c/\Go.Vc.Own jr w base q xs:=by
 have b:=q6n xs;have d:∃q:Slc,v=.slice q.a q.n q.c:=by
  rcases h.2 with ⟨rfl,_⟩ | ⟨g,e,cur,rfl,_⟩
  ·exact ⟨⟨none,0,0⟩,rfl⟩
  ·exact ⟨⟨_,_,_⟩,rfl⟩
 obtain ⟨q,rfl⟩:=d;refine ⟨q,rfl,?_⟩;unfold Go.Vc.Own;rw [b];exact h
theorem q7l {B:Nat} {K:Slc->Ub} (hM:jf enc w r L) (hl:L.length<=1000000) (hB:w.cell? ⟨B,0,none⟩=some (.map (some r)))
  (hK:∀q w',Go.Vc.Own jr w' w.heap.size q (L.map (·.1))->Uc w w'->K q w'):yp (.func (.func 64) #[] #[.pointer (some ⟨B,0,none⟩)]) w K:=by
 have h:=callsIn_wide.1 (AnyZI.sorted_in Tryz.sortedA Fence.wide 5 trivial trivial trivial trivial rfl (by omega) (Tryz.sortsA _) (enters_of Tryz.func63 (by kernel_rfl) rfl) 64 #[.pointer (some ⟨B,0,none⟩)] trivial (enters_of Tryz.func64 (by kernel_rfl) rfl) _ L.length (by unfold maxLen;omega) (by omega) w (q32 hM (by unfold maxLen;omega) hB 2 (by omega)));refine Calls.mono h ?_;rintro e w' ⟨v,c,rfl,b,a,_,d⟩;rw [q7k hM.srt b] at a;rw [show c.length=(L.map (·.1)).length from b.length_eq] at a;obtain ⟨q,rfl,f⟩:=qrk a;exact ⟨q,rfl,hK q w' f d⟩
theorem q4c {B:Nat} {K:Slc->Ub} (hM:jf enc w r L) (hl:L.length<=1000000) (hB:w.cell? ⟨B,0,none⟩=some (.map (some r)))
  (hK:∀q w' ss,ss.Perm (L.map (·.1))->Go.Vc.Own jr w' w.heap.size q ss->Uc w w'->K q w'):Yv (.func (.func 64) #[] #[.pointer (some ⟨B,0,none⟩)]) w K:=by
 have h:=callsIn_wide.1 (AnyZI.collect_in { Tryz.sortedA with } Fence.wide 5 trivial trivial rfl (by omega) 64 #[.pointer (some ⟨B,0,none⟩)] trivial (enters_of Tryz.func64 (by kernel_rfl) rfl) _ L.length (by unfold maxLen;omega) (by omega) w (q32 hM (by unfold maxLen;omega) hB 3 (by omega)));refine Calls.mono h ?_;rintro e w' ⟨v,ss,rfl,b,a,_,c⟩;obtain ⟨q,rfl,d⟩:=qrk a;exact ⟨q,rfl,hK q w' ss b d c⟩
end
end YtjhgepnpnapnoaaGreatDoor
end Go.Proofs
set_option maxRecDepth 100000
namespace Go.Proofs
open Go.RowKit Go.Maps Go.Sort Go.Shelf Go.Vc
def Tryz.keysB_ren:Go.Shelf.Ren:=⟨λ| 7=>345 | 10=>386 | n=>n,λ| 23=>177 | 26=>3 | 3=>4 | 28=>67 | 0=>0 | 27=>66 | 33=>131 | 4=>4 | n=>n,λ| n=>n⟩
theorem Tryz.keysB:Go.Proofs.SlLaysZI.n7 Tryz.prog Tryz.keysB_ren:={
 mixed:=by kernel_rfl
 f7:=⟨Tryz.f345.name,by decide,Tryz.func345.trans (congrArg some (by kernel_rfl))⟩
 f10:=⟨Tryz.f386.name,by decide,Tryz.func386.trans (congrArg some (by kernel_rfl))⟩
 t0:=Tryz.underlying0
 a0:=Tryz.isAgg0
 z0:=Tryz.sizeOf0
 v0:=Tryz.zeroValue0
 t4:=Tryz.underlying4
 a4:=Tryz.isAgg4
 z4:=Tryz.sizeOf4
 v4:=Tryz.zeroValue4
 t23:=Tryz.underlying177
 a23:=Tryz.isAgg177
 z23:=Tryz.sizeOf177
 v23:=Tryz.zeroValue177
 t26:=Tryz.underlying3
 a26:=Tryz.isAgg3
 z26:=Tryz.sizeOf3
 v26:=Tryz.zeroValue3
 t27:=Tryz.underlying66
 a27:=Tryz.isAgg66
 z27:=Tryz.sizeOf66
 v27:=Tryz.zeroValue66
 t28:=Tryz.underlying67
 a28:=Tryz.isAgg67
 z28:=Tryz.sizeOf67
 v28:=Tryz.zeroValue67
 t33:=Tryz.underlying131
 a33:=Tryz.isAgg131
 z33:=Tryz.sizeOf131
 v33:=Tryz.zeroValue131 }
namespace YtjhgepnpnapnoaaGreatDoor
section
variable {V:Type} {enc:V->Value} {w:World} {r:Nat} {L:List (Int×V)}
theorem q8a (hM:jf enc w r L) (hl:L.length<=maxLen) {B:Nat} (hB:w.cell? ⟨B,0,none⟩=some (.map (some r))) (n:Nat) (hn:1<=n) :
  SeqGives Fence.wide n Tryz.prog 386 #[.pointer (some ⟨B,0,none⟩)] encZ (λss=>ss.Perm (L.map (·.1))) L.length w:=by
 obtain ⟨E,c,p,m,A⟩:=hM;have a:=quw m;obtain ⟨q,s,b,d⟩:=zc7 p (by omega);have f:B<w.heap.size:=by
  unfold World.cell? at hB;cases h:w.heap[B]? with
  | none=>rw [h] at hB;cases hB
  | some o=>exact (Array.getElem?_eq_some_iff.1 h).1
 have h:=AnyZI.keys_gives { Tryz.keysB with } Fence.wide n trivial rfl hn B r E.length q w f hB s;rw [b,a] at h;have g:(E.map (·.k)).Perm (L.map (·.1)):=by
  have:=m.map (·.1);unfold yD at this
  rwa [List.map_map] at this
 intro l J W t u v x;refine (h l J W t u v x).mono ?_;rintro e C ⟨y,z,i,j⟩;exact ⟨y,z,(i.trans d).trans g,j⟩
theorem q6p {m:Option Nat} {w:World} {K:Value->Ub}
  (hK:K (.func (.func 386) #[] #[.pointer (some ⟨w.heap.size,0,none⟩)]) (w.alloc (.cells #[.map m] 177))):vz m w K:=by
 have h:=callsIn_wide.1 (AnyZI.keys_in Tryz.keysB Fence.wide 5 trivial rfl m w);refine Calls.mono h ?_;rintro e a ⟨rfl,rfl⟩;exact ⟨_,rfl,hK⟩
theorem q18 {B:Nat} {K:Slc->Ub} (hM:jf enc w r L) (hl:L.length<=1000000) (hB:w.cell? ⟨B,0,none⟩=some (.map (some r)))
  (hK:∀q w',Go.Vc.Own jr w' w.heap.size q (L.map (·.1))->Uc w w'->K q w'):yp (.func (.func 386) #[] #[.pointer (some ⟨B,0,none⟩)]) w K:=by
 have h:=callsIn_wide.1 (AnyZI.sorted_in Tryz.sortedA Fence.wide 5 trivial trivial trivial trivial rfl (by omega) (Tryz.sortsA _) (enters_of Tryz.func63 (by kernel_rfl) rfl) 386 #[.pointer (some ⟨B,0,none⟩)] trivial (enters_of Tryz.func386 (by kernel_rfl) rfl) _ L.length (by unfold maxLen;omega) (by omega) w (q8a hM (by unfold maxLen;omega) hB 2 (by omega)));refine Calls.mono h ?_;rintro e w' ⟨v,c,rfl,b,a,_,d⟩;rw [q7k hM.srt b] at a;rw [show c.length=(L.map (·.1)).length from b.length_eq] at a;obtain ⟨q,rfl,f⟩:=qrk a;exact ⟨q,rfl,hK q w' f d⟩
end
end YtjhgepnpnapnoaaGreatDoor
end Go.Proofs
namespace Go.Proofs.YtjhgepnpnapnoaaGreatDoor
open Go.Vc Go.RowKit
set_option maxRecDepth 100000
open _root_.List (mem_append mem_of_mem_drop mem_of_mem_take mem_singleton)
open _root_.Nat (le_refl zero_le)
def q6q:Unit->Value:=λ_=>.bool true
structure StopsM (w:World) (g r:Nat) (B:List Bool):Prop where
 blk:Blk w g Jv [.int .i64 (B.length:Int),.map (some r)]
 map:jf q6q w r (keysB B)
theorem zc8:PG.underlying zp=some (.map zJ qx8):=by kernel_rfl
theorem zdq:PG.underlying zJ=some (.int .i64):=by kernel_rfl
theorem znm:∀w,(zeroValue qx8).run PG w=.ok (.bool false) w:=Tryz.zeroValue4
theorem Jk {a:Addr} {K:Addr->Prop} (h:K a):qH (some a) K:=h
theorem zic {x:Int} (h:-9223372036854775808<=x/\x<=9223372036854775807):i64.wrap x=x:=qM h
section
variable {w w':World} {g r:Nat} {B:List Bool}
theorem StopsM.keep {Sx:Nat->Prop} (h:StopsM w g r B) (hc:Chg Sx w w') (hg:¬Sx g) (hr:¬Sx r):StopsM w' g r B:=⟨h.blk.chg hc hg,h.map.chg hc hr⟩
theorem zko (B:List Bool):(keysB B).length<=B.length:=by
 have:∀(B:List Bool) (i:Int),(qoo i B).length<=B.length:=by
  intro B
  induction B with
  | nil=>intro i;simp [qoo]
  | cons b r a =>
   intro i;rw [qoo];have:=a (i+1);split<;>simp<;>omega
 exact this B 0
theorem q7w {L:List (Int×Unit)} (h:jf q6q w r L) {col:Int} (hc:-9223372036854775808<=col/\col<=9223372036854775807) {K:Option Value->Ub}
  (hK:∀w',jf q6q w' r (kD L col ())->Chg (λk=>k=r) w w'->w'.heap.size=w.heap.size->K none w'):qma PG (Instr.mapUpdate zp (.map (some r)) (Ua col) (.bool true)) w K:=by
 obtain ⟨w',a,b,c,d⟩:=h.update zc8 zdq hc ();exact ⟨w',a,hK w' b c d⟩
theorem q7z {L:List (Int×Unit)} (h:jf q6q w r L) (col:Int) {K:Value->Ub}
  (hK:∀v w',jf q6q w' r (Go.Vc.delL L col)->Chg (λk=>k=r) w w'->w'.heap.size=w.heap.size->K v w'):zO PG (Builtin.delete_ #[zp,zJ] qjy #[(.map (some r)),(Ua col)]) Kind.raw w K:=by
 obtain ⟨w',a,b,c,d⟩:=h.delete zc8 zdq col qjy;exact ⟨.tuple #[],w',a,hK _ w' b c d⟩
end
section
variable {w w':World} {g r:Nat} {B:List Bool}
theorem zmf {x:Int} {L:List (Int×Unit)} (hb:Blk w g Jv [.int .i64 x,.map (some r)]) (hm:jf q6q w r L) (hl:L.length<=1000) {K:Slc->Ub}
  (hK:∀q w',Go.Vc.Own jr w' w.heap.size q (L.map (·.1))->Uc w w'->K q w'):V4 (some ⟨g,0,none⟩) w K:=by
 refine qpu _ ?_;refine Jk (km (hb.cells 1 _ rfl) (q6p ?_));have b:Uc w (w.alloc (.cells #[.map (some r)] 177)):=(Below.refl _ w).alloc (le_refl _) _;have d:(w.alloc (.cells #[.map (some r)] 177)).heap.size=w.heap.size+1:=by show (w.heap.push _).size=_;simp
 have hb:=Blk.new w 177 [.map (some r)];refine q18 (hm.ext b) (by omega) (hb.cell 0 rfl) λq w' c a=>?_;exact hK q w' (c.base (by omega)) (b.trans (a.mono (by omega)))
theorem zmb {m:Nat} (h:1<=m):((m:Int).tmod 8==0)=q4e m:=by
 unfold q4e;rw [show ((m:Int).tmod 8)=((m%8:Nat):Int) by rw [Int.ofNat_tmod];rfl];rw [dTq (by omega)];by_cases e:m%8=0
 ·rw [e];rfl
 ·rw [dFq e];simp;omega
theorem q5i (h:StopsM w g r B) (hl:B.length<=1000) (cols:Int) {K:Int->Ub} (hE:(cols<1\/1000<cols)->K 1 w)
  (hK:∀w',1<=cols->cols<=1000->StopsM w' g r (YV B cols.toNat)->Chg (λk=>k=g\/k=r) w w'->K 0 w'):ZR (some ⟨g,0,none⟩) cols w K:=by
 refine qjc _ _ ?_;refine jpO λJ hJ=>?_;refine cO (λh1=>hE (.inl (oTq h1))) λh1=>?_;refine cO (λh2=>hE (.inr (oTq h2))) λh2=>?_;have h1:=oFq h1;have h2:=oFq h2;obtain ⟨n,rfl⟩:∃n:Nat,cols=n:=⟨cols.toNat,by omega⟩;refine hJ _ _ ?_;refine Jk (lI (h.blk.cells 0 _ rfl) ?_);refine lpR (λ(s:Int×Unit) w2=>∃m:Nat,s.1=m/\1<=m/\B.length<=m/\(m<=n\/m<=B.length\/m=1)/\Blk w2 g Jv [.int .i64 (B.length:Int),.map (some r)]/\jf q6q w2 r (keysB (YV B m))/\Chg (λk=>k=r) w w2)
  (λs=>n-s.1.toNat) ?_ ?_
 ·have hm0:∃m:Nat,(if (1:Int)>(B.length:Int) then (1:Int) else (B.length:Int))=m/\1<=m/\B.length<=m/\(m<=B.length\/m=1)/\keysB (YV B m)=keysB B:=by
   split
   ·exact ⟨1,rfl,le_refl _,by omega,.inr rfl,zjp (by omega)⟩
   ·exact ⟨B.length,rfl,by omega,le_refl _,.inl (le_refl _),by rw [zft]⟩
  obtain ⟨m,e,hm1,hm2,hm3,hm4⟩:=hm0;exact ⟨m,e,hm1,hm2,.inr hm3,h.blk,by rw [hm4];exact h.map,Chg.refl _ _⟩
 rintro ⟨i,u⟩ w2 ⟨m,hi,hm1,hm2,hm3,hb2,hmp2,hc2⟩ I hI;dsimp only at hi ⊢;subst hi;have hne:=hmp2.ne_blk hb2;by_cases hlt:m<n
 ·refine cT (by simp;omega) ⟨by decide,?_⟩;rw [zmb hm1,zic (by omega)];refine cO (λhd=>?_) λhd=>?_
  ·refine Jk (km (x:=some r) (hb2.cells 1 _ rfl) (q7w hmp2 (by omega) λw3 hm hc hs=>hI _ _ ⟨m+1,by simp,by omega,by omega,.inl (by omega),hb2.chg hc (λe=>hne e.symm),?_,hc2.trans hc λi _ hi=>hi⟩ (by simp;omega)));rw [<-(q2x hm2).1 hd];exact hm
  ·refine hI _ _ ⟨m+1,by simp,by omega,by omega,.inl (by omega),hb2,?_,hc2⟩ (by simp;omega);rw [<-(q2x hm2).2 hd];exact hmp2
 ·refine cF (by simp;omega) ?_;have hmle:(keysB (YV B m)).length<=1000:=by
   have:=zko (YV B m);rw [resz_length] at this;omega
  refine zmf hb2 hmp2 hmle λq w4 hq hB4=>?_;obtain ⟨P,hP⟩:∃P,keysB (YV B m)=P:=⟨_,rfl⟩;have hsP:Srt P:=by rw [<-hP];exact Ql _
  rw [hP] at hmp2 hq hmle;have hcut:P.filter (λp=>decide (p.1<(n:Int)))=keysB (YV B n):=by rw [<-hP];exact zjv (by omega)
  have hqn:=hq.rd.n;rw [List.length_map] at hqn;have hlt2:=hb2.lt;have hlr:=hmp2.lt;refine lpR (λ(s:Int×Unit) w5=>∃k:Nat,s.1=k/\k<=P.length/\Blk w5 g Jv [.int .i64 (B.length:Int),.map (some r)]/\Go.Vc.Own jr w5 w2.heap.size q (P.map (·.1))/\Chg (λk=>k=r) w2 w5 /\
    ∃L,jf q6q w5 r L/\∀a,(a,())∈L↔(a,())∈P/\(a<n\/a ∉ (P.map (·.1)).take k))
   (λs=>P.length-s.1.toNat) ⟨0,rfl,zero_le _,hb2.ext hB4,hq,Chg.of_ext hB4,P,hmp2.ext hB4,λa=>by simp⟩ ?_
  rintro ⟨i,u⟩ w5 ⟨k,hi,hk,hb5,hq5,hc5,L,hL,hmem⟩ I2 hI2;dsimp only at hi ⊢;subst hi;have hne5:=hL.ne_blk hb5;by_cases hlk:k<P.length
  ·refine cT (by simp;omega) ?_;refine hq5.rd.ix (k:=1) rfl (by omega) (by simp;omega) λhcell=>?_;obtain ⟨x,hx,hx'⟩:=Go.Vc.get_of (xs:=P.map (·.1)) (k:=k) (by simpa using hlk);rw [hx' _] at hcell;refine lI (x:=x) (by simpa using hcell 0 _ rfl) ?_;have htk:(P.map (·.1)).take (k+1)=(P.map (·.1)).take k++[x]:=by rw [List.take_add_one,hx];rfl
   rw [zic (by omega)];refine cO (λhge=>?_) λhge=>?_
   ·have hge:=oTq hge;refine Jk (km (x:=some r) (hb5.cells 1 _ rfl) (q7z hL x λv w6 hm6 hc6 hs6=>hI2 _ _ ⟨k+1,by simp,by omega,hb5.chg hc6 (λe=>hne5 e.symm),hq5.chg hc6 (λj hj e=>?_),hc5.trans hc6 λi _ hi=>hi,_,hm6,λa=>?_⟩ (by simp;omega)))
    ·have:=(hq5.lt j hj).1;omega
    ·rw [qm3,hmem a,htk,mem_append,mem_singleton];constructor
     ·rintro ⟨hne,hp,ho⟩;exact ⟨hp,ho.imp id λho hh=>hh.elim ho hne⟩
     ·rintro ⟨hp,ho⟩;refine ⟨λe=>?_,hp,ho.imp id λho hh=>ho (.inl hh)⟩;rcases ho with ho | ho
      ·omega
      ·exact ho (.inr e)
   ·have hge:=oFq hge;refine hI2 _ _ ⟨k+1,by simp,by omega,hb5,hq5,hc5,L,hL,λa=>?_⟩ (by simp;omega);rw [hmem a,htk,mem_append,mem_singleton];constructor
    ·rintro ⟨hp,ho⟩;refine ⟨hp,?_⟩;by_cases e:a=x
     ·exact .inl (by omega)
     ·exact ho.imp id λho hh=>hh.elim ho e
    ·rintro ⟨hp,ho⟩;exact ⟨hp,ho.imp id λho hh=>ho (.inl hh)⟩
  ·refine cF (by simp;omega) (Jk ?_);rw [add_zero];refine qD hb5 (by simp) λw7 hb7 hg7 hs7=>?_;have hL':L=keysB (YV B n):=by
    rw [<-hcut];refine qt3 hL.srt (hsP.filter _) λa=>?_;rw [hmem a,List.mem_filter,List.take_of_length_le (by simp;omega)];constructor
    ·rintro ⟨hp,ho⟩;refine ⟨hp,?_⟩;rcases ho with ho | ho
     ·simpa using ho
     ·exact absurd (List.mem_map.2 ⟨_,hp,rfl⟩) ho
    ·rintro ⟨hp,ho⟩;exact ⟨hp,.inl (by simpa using ho)⟩
   rw [hL'] at hL;refine hK w7 (by omega) (by omega) ⟨by rw [resz_length];exact hb7,hL.chg (Go.Vc.Chg.gg hg7) hne5⟩ ?_;exact ((q44 hc2 (S:=λk=>k=g\/k=r) (.inr rfl)).trans (q44 hc5 (S:=λk=>k=g\/k=r) (.inr rfl)) λi _ hi=>hi).trans (q44 (Go.Vc.Chg.gg hg7) (S:=λk=>k=g\/k=r) (.inl rfl)) λi _ hi=>hi
theorem zec (cols:Int) {w:World} {K:Option Addr->Int->Ub} (hE:∀w',Uc w w'->(cols<1\/1000<cols)->K none 1 w')
  (hK:∀g r w',1<=cols->cols<=1000->w.heap.size<=g->w.heap.size<=r->StopsM w' g r (YV [] cols.toNat)->Uc w w'->K (some ⟨g,0,none⟩) 0 w'):qq8 cols w K:=by
 refine q2d _ ?_;unfold qw5 nwM;have c:Uc w (w.alloc (.map #[] 0)):=(Below.refl _ w).alloc (le_refl _) _;have k:(w.alloc (.map #[] 0)).heap.size=w.heap.size+1:=by show (w.heap.push _).size=_;simp
 refine nwb λj d b l=>?_;have m:StopsM j (w.alloc (.map #[] 0)).heap.size w.heap.size []:=⟨d,(jf.new w).ext b⟩;have a:=c.trans (b.mono (by omega));refine q5i m (by simp) cols (λn=>cT rfl (hE j a n)) λo p f q h=>cF rfl ?_;refine hK _ _ o p f (by omega) (le_refl _) q (a.trans (h.below (by omega) λi s e=>?_));rcases e with e | e<;>omega
end
def w64 (x:Int):Int:=i64.wrap x
abbrev Cur:=qQ
abbrev Sav:=y7
def qc1:Cur:=⟨0,0,false,⟨0,0,0⟩,false,⟨66,66⟩,0⟩
def ql9:Sav:=⟨⟨0,0,false,⟨0,0,0⟩,false,⟨0,0⟩,0⟩,false⟩
structure Sc where
 g0:GS
 g1:GS
 alt:Bool
 c:Cur
 s0:Sav
 s1:Sav
 modes:List (Int×Bool)
 priv:List (Int×Bool)
 top:Int
 past:Int
 stops:List Bool
 char:Int
 areas:List jz
namespace Sc
def g (S:Sc):GS:=if S.alt then S.g1 else S.g0
def withG (S:Sc) (G:GS):Sc:=if S.alt then { S with g1:=G } else { S with g0:=G }
def sv (S:Sc):Sav:=if S.alt then S.s1 else S.s0
def withS (S:Sc) (s:Sav):Sc:=if S.alt then { S with s1:=s } else { S with s0:=s }
def mode (S:Sc) (n:Int):Bool:=(zy S.modes n).getD false
def pmode (S:Sc) (n:Int):Bool:=(zy S.priv n).getD false
def blank (S:Sc):yX:=⟨0,S.c.A.Bg,0⟩
def dry (S:Sc):Sc:={ S with c:={ S.c with Wrap:=false } }
def setCol (S:Sc) (col:Int):Sc:={ S with c:={ S.c with Col:=col } }
end Sc
def q16 (v lo hi:Int):Int:=if hi<(if lo>v then lo else v) then hi else (if lo>v then lo else v)
namespace Sc
def to (S:Sc) (row col:Int):Sc:={ S with c:={ S.c with Row:=q16 row 0 (w64 ((S.g.rows:Int)-1)),Col:=q16 col 0 (w64 ((S.g.cols:Int)-1)),Wrap:=false } }
def scroll (S:Sc) (top past n:Int):Sc:=S.withG (yW S.g top past n S.blank)
def index (S:Sc):Sc:=if S.c.Row=w64 (S.past-1) then S.dry.scroll S.top S.past 1 else S.dry.to (w64 (S.c.Row+1)) S.c.Col
def home (S:Sc):Sc:=S.to (if S.c.Origin then S.top else 0) 0
def change (S:Sc) (f:List qZ->List qZ):Sc:=if 0<=S.c.Row/\S.c.Row<(S.g.rows:Int) then S.withG { S.g with L:=S.g.L.set S.c.Row.toNat (ZF (f (S.g.L.getD S.c.Row.toNat [])) S.g.cols) } else S
end Sc
def isW (r:Int):Bool:=decide (0<=r) && decide (r<=1114111) && (decide (r<55296) || decide (r>57343))
def inW (r:Int) (l:List (Int×Int)):Bool:=l.any λp=>decide (p.1<=r) && decide (r<=p.2)
def qzh:List (Int×Int):=[(0,31),(127,159),(768,879),(8203,8207),(65024,65039)]
def q8m:List (Int×Int):=[(4352,4447),(11904,42191),(44032,55203),(63744,64255),(65072,65135),(65280,65376),(65504,65510),(127744,129791),(131072,262141)]
def qdq (r:Int):Int:=if isW r=false\/inW r qzh=true then 0 else if inW r q8m=true then 2 else 1
def qng:List Int:=[160,9670,9618,9225,9228,9229,9226,176,177,9252,9227,9496,9488,9484,9492,9532,9146,9147,9472,9148,9149,9500,9508,9524,9516,9474,8804,8805,960,8800,163,183]
def qzj (set b:Int):Int:=if set=48/\95<=b/\b<=126 then qng.getD (b-95).toNat 0 else b
namespace Sc
def putL (S:Sc) (r w:Int) (xs:List qZ):List qZ:=q8z (if S.mode 4 then qj9 xs S.c.Col w S.c.A else xs) S.c.Col r w S.c.A
def laid (S:Sc) (r w:Int) (wrap:Bool):Sc :=
 let S1:=(S.change (S.putL r w)).setCol (w64 (S.c.Col+w))
 if S1.c.Col>=(S.g.cols:Int) then { S1 with c:={ S1.c with Col:=w64 ((S.g.cols:Int)-1),Wrap:=wrap } } else S1
def next (S:Sc):Sc:=(S.to S.c.Row 0).index
def layX (S1:Sc) (wrap:Bool):Sc:=if S1.c.Wrap=true/\wrap=true then S1.next else S1
def layY (S2:Sc) (cols:Nat) (r w:Int) (wrap:Bool):Sc :=
 if w64 (S2.c.Col+w)>(cols:Int) then
  (if w>(cols:Int) then S2 else if wrap then S2.next.laid r w wrap else (S2.setCol (w64 ((cols:Int)-w))).laid r w wrap)
 else S2.laid r w wrap
def lay (S:Sc) (r:Int):Sc:=if qdq r=0 then S else layY (layX { S with char:=r } (S.pmode 7)).dry S.g.cols r (qdq r) (S.pmode 7)
def set2 (S:Sc) (i:Int):Int:=if i=0 then S.c.Sets.e0 else S.c.Sets.e1
def print (S:Sc) (r:Int):Sc:=if 0<=r/\r<128 then S.lay (qzj (S.set2 S.c.Shift) r) else S.lay r
def save (S:Sc):Sc:=S.withS ⟨S.c,true⟩
def restore (S:Sc):Sc :=
 let x:Cur:=if S.sv.is then S.sv.c else qc1
 { S with c:={ x with Row:=q16 x.Row 0 (w64 ((S.g.rows:Int)-1)),Col:=q16 x.Col 0 (w64 ((S.g.cols:Int)-1)) } }
def fillRow (S:Sc) (row from_ to:Int):Sc:=if 0<=row/\row<(S.g.rows:Int) then S.withG { S.g with L:=S.g.L.set row.toNat (ZF (zpa (S.g.L.getD row.toNat []) from_ to S.blank) S.g.cols) } else S
def fills (S:Sc) (row from_ to:Int):Nat->Sc
 | 0=>S
 | n+1=>(S.fills row from_ to n).fillRow (w64 (row+n)) from_ to
def erase (S:Sc) (row rows from_ to:Int):Sc :=
 if rows<1\/from_>=to then S
 else
  let S1:=S.fills row from_ to rows.toNat
  { S1 with areas:=S1.areas++[⟨S.alt,w64 (S1.g.top+row),rows,from_,to⟩] }
end Sc
def qzc (p:List Int) (i:Nat) (none:Int):Int:=match p[i]? with
 | some v=>if v=0 then none else v
 | Option.none=>none
namespace Sc
def show_ (S:Sc) (to all:Bool):Sc :=
 if S.alt=to then S
 else
  let S1:=if all=true/\to=true then S.save else S
  let S2:Sc:={ S1 with alt:=to }
  if all=true/\to=true then S2.dry.erase 0 S2.g.rows 0 S2.g.cols
  else if all then S2.restore
  else S2
def turn (S:Sc) (n:Int) (on:Bool):Sc :=
 if n=6 then ({ S with c:={ S.c with Origin:=on } }:Sc).home
 else if n=1\/n=7\/n=25\/n=1000\/n=2004 then { S with priv:=kD S.priv n on }
 else if n=47\/n=1047 then S.show_ on false
 else if n=1049 then S.show_ on true
 else S
end Sc
def k1:List qZ:=[⟨0,0,⟨0,0,0⟩⟩,⟨19968,1,⟨0,0,0⟩⟩,⟨0,2,⟨0,0,0⟩⟩,⟨0,0,⟨0,0,0⟩⟩]
def k2:List qZ:=[⟨0,0,⟨0,0,0⟩⟩,⟨0,0,⟨0,0,0⟩⟩,⟨120,0,⟨1,0,0⟩⟩,⟨0,0,⟨0,0,0⟩⟩]
theorem zez (n:Int) (a:yX):JB (Vv n a)=true:=by
 unfold Vv;split
 ·rfl
 ·have:=q2q (xs:=[]) rfl n.toNat a;simpa using this
def Plain (xs:List qZ):Prop:=∀c∈xs,c.Kind=0
theorem q73 {xs:List qZ} (h:Plain xs):JB xs=true:=qg4.2 λk x a=>by
 have b:=h x (List.mem_of_getElem? a);exact ⟨(Jm a).2 (.inl b),λe=>by rw [b] at e;cases e⟩
theorem qiv {xs:List qZ} (h:Plain xs):jA xs=xs:=zll (q73 h)
theorem qjm (n:Nat) (a:yX):Plain (List.replicate n (vk a)):=λc b=>by rw [List.eq_of_mem_replicate b];rfl
theorem Z3 {xs ys:List qZ} (h:Plain xs) (h':Plain ys):Plain (xs++ys):=λc b=>by
 rcases mem_append.1 b with a | a
 ·exact h c a
 ·exact h' c a
theorem qda {xs:List qZ} (h:Plain xs) (n:Nat):Plain (xs.take n):=λc a=>h c (mem_of_mem_take a)
theorem qq9 {xs:List qZ} (h:Plain xs) (n:Nat):Plain (xs.drop n):=λc a=>h c (mem_of_mem_drop a)
def a0:yX:=⟨0,0,0⟩
theorem zee {xs:List qZ} (h:Plain xs) {col k c:Int} {a:yX} (hc:qee xs.length col k=c) (h0:c≠0) :
  qj9 xs col k a=xs.take col.toNat++List.replicate c.toNat (vk a)++(xs.take (xs.length-c.toNat)).drop col.toNat:=by
 unfold qj9;rw [hc];rw [if_neg h0,qiv h];exact qiv (Z3 (Z3 (qda h _) (qjm _ _)) (qq9 (qda h _) _))
theorem zo5 {xs:List qZ} (h:Plain xs) {col n:Int} {a:yX} (hcol:0<=col) (hcl:col<xs.length) (hn:1<=n) :
  delL (qj9 xs col n a) col n a=xs.take (xs.length-(min n (xs.length-col)).toNat)++List.replicate (min n (xs.length-col)).toNat (vk a)/\(qj9 xs col n a).length=xs.length:=by
 have g:qee xs.length col n=min n (xs.length-col):=by rw [qee,if_neg (by omega)]
 have d:=zee h (a:=a) g (by omega);have i:1<=min n ((xs.length:Int)-col):=by omega
 have j:min n ((xs.length:Int)-col)<=xs.length-col:=by omega
 generalize min n ((xs.length:Int)-col)=c at *;have b:(qj9 xs col n a).length=xs.length:=by rw [d];simp;omega
 refine ⟨?_,b⟩;have e:Plain (qj9 xs col n a):=by
  rw [d];exact Z3 (Z3 (qda h _) (qjm _ _)) (qq9 (qda h _) _)
 have k:delL (qj9 xs col n a) col n a=jA ((qj9 xs col n a).take col.toNat++(qj9 xs col n a).drop (col+c).toNat++List.replicate c.toNat (vk a)):=by
  unfold delL;rw [b,g];rw [if_neg (by omega),qiv e]
 rw [k,qiv (Z3 (Z3 (qda e _) (qq9 e _)) (qjm _ _))];have l:(xs.take col.toNat).length=col.toNat:=by simp;omega
 have f:(xs.take col.toNat++List.replicate c.toNat (vk a)).length=(col+c).toNat:=by simp;omega
 have m:(qj9 xs col n a).take col.toNat=xs.take col.toNat:=by
  rw [d,List.append_assoc,List.take_append_of_le_length (by omega),List.take_of_length_le (by omega)]
 have o:(qj9 xs col n a).drop (col+c).toNat=(xs.take (xs.length-c.toNat)).drop col.toNat:=by
  rw [d,<-f,List.drop_left]
 rw [m,o];have:xs.take col.toNat=(xs.take (xs.length-c.toNat)).take col.toNat:=by rw [List.take_take,Nat.min_eq_left (by omega)]
 rw [this,List.take_append_drop]
theorem zl3 {n:Nat} (h:n<=1000) (a:yX):Vv n a=List.replicate n (vk a):=by
 rw [Vv,if_neg (by omega)];simp
theorem q5e {most:Nat} {old:List (List qZ)} {x:List qZ} (h:old.length<=most):(qk1 most old x).length<=most:=by
 unfold qk1;split
 ·exact h
 ·split
  ·simp;omega
  ·simp;omega
theorem qzm {most:Nat} (xs:List (List qZ)):∀{old:List (List qZ)},old.length<=most->(VK most old xs).length<=most:=by
 induction xs with
 | nil=>intro old h;exact h
 | cons x r a=>intro old h;exact a (q5e h)
theorem q8p {S:GS} {top past n:Int} {a:yX} (h:S.old.length<=S.most):(yW S top past n a).old.length<=S.most:=by
 unfold yW;split
 ·exact h
 ·split
  ·exact qzm _ h
  ·exact h
structure GOk (S:GS):Prop where
 len:S.L.length=S.rows
 rows:1<=S.rows/\S.rows<=1000
 cols:1<=S.cols/\S.cols<=1000
 L:∀xs∈S.L,JB xs=true/\xs.length=S.cols/\okR xs
 old:∀xs∈S.old,xs.length<=1000/\okR xs
 olen:S.old.length<=S.most
 most:S.most<=16384
theorem zew (xs:List qZ) (n:Int):JB (ZF xs n)=true:=by
 unfold ZF;dsimp only;split
 ·exact q0z _
 ·exact q2q (q0z _) _ _
theorem q3x {n:Nat} (h:n<=1000) (a:yX):JB (Vv n a)=true/\(Vv n a).length=n/\okR (Vv n a):=by
 refine ⟨zez _ _,q6l h a,?_⟩;rw [zl3 h];exact qrg _ _
theorem zie {xs:List qZ} {n:Nat} (h0:n<=1000) (h:okR xs):JB (ZF xs n)=true/\(ZF xs n).length=n/\okR (ZF xs n):=by
 refine ⟨zew _ _,?_,zlp h _⟩;rw [q72];omega
theorem ze1 {most:Nat} {old:List (List qZ)} {x y:List qZ} (h:y∈qk1 most old x):y∈old\/y=x:=by
 unfold qk1 at h;split at h
 ·exact .inl h
 ·split at h
  ·rcases mem_append.1 h with h | h
   ·exact .inl h
   ·exact .inr (mem_singleton.1 h)
  ·rcases mem_append.1 h with h | h
   ·exact .inl (List.mem_of_mem_tail h)
   ·exact .inr (mem_singleton.1 h)
theorem q7p {most:Nat} (xs:List (List qZ)):∀{old:List (List qZ)} {y:List qZ},y∈VK most old xs->y∈old\/y∈xs:=by
 induction xs with
 | nil=>intro old y h;exact .inl h
 | cons x r a =>
  intro old y h;rcases a h with h | h
  ·rcases ze1 h with h | h
   ·exact .inl h
   ·exact .inr (by simp [h])
  ·exact .inr (by simp [h])
section
variable {S:GS}
theorem GOk.set (h:GOk S) (i:Nat) {xs:List qZ} (hx:JB xs=true/\xs.length=S.cols/\okR xs):GOk { S with L:=S.L.set i xs }:=by
 refine ⟨by show (S.L.set i xs).length=_;rw [List.length_set];exact h.len,h.rows,h.cols,λb a=>?_,h.old,h.olen,h.most⟩;rcases List.mem_or_eq_of_mem_set a with a | a
 ·exact h.L b a
 ·rw [a];exact hx
theorem q7v {cols:Nat} {L:List (List qZ)} {top past n:Int} {a:yX} {xs:List qZ} (h:xs∈qjr cols L top past n a):xs∈L\/xs=Vv cols a:=by
 unfold qjr at h;split at h
 ·simp only [mem_append] at h;rcases h with ((h | h) | h) | h
  ·exact .inl (mem_of_mem_take h)
  ·exact .inl (mem_of_mem_take (mem_of_mem_drop h))
  ·exact .inr (List.eq_of_mem_replicate h)
  ·exact .inl (mem_of_mem_drop h)
 ·simp only [mem_append] at h;rcases h with ((h | h) | h) | h
  ·exact .inl (mem_of_mem_take h)
  ·exact .inr (List.eq_of_mem_replicate h)
  ·exact .inl (mem_of_mem_take (mem_of_mem_drop h))
  ·exact .inl (mem_of_mem_drop h)
theorem GOk.scroll (h:GOk S) (top past n:Int) (a:yX):GOk (yW S top past n a):=by
 obtain ⟨i,e,f,g⟩:=qdr h.len;have d:=q8p (top:=top) (past:=past) (n:=n) (a:=a) h.olen;refine ⟨by rw [i,e],by rw [e];exact h.rows,by rw [f];exact h.cols,λc b=>?_,λc b=>?_,by rw [g];exact d,by rw [g];exact h.most⟩
 ·rw [f];have:c∈S.L\/c=Vv S.cols a:=by
   unfold yW at b;split at b
   ·exact .inl b
   ·split at b<;>exact q7v b
  rcases this with b | rfl
  ·exact h.L c b
  ·exact q3x h.cols.2 a
 ·have:c∈S.old\/c∈S.L:=by
   unfold yW at b;split at b
   ·exact .inl b
   ·split at b
    ·rcases q7p _ b with b | b
     ·exact .inl b
     ·exact .inr (mem_of_mem_take b)
    ·exact .inl b
  rcases this with b | b
  ·exact h.old c b
  ·obtain ⟨_,j,k⟩:=h.L c b;exact ⟨by rw [j];exact h.cols.2,k⟩
theorem GOk.new {rows cols most:Nat} (hr:1<=rows/\rows<=1000) (hc:1<=cols/\cols<=1000) (hm:most<=16384):GOk (gs0 rows cols most):=by
 refine ⟨by simp [gs0],hr,hc,λb a=>?_,(λb a=>by cases a),zero_le _,hm⟩;rw [List.eq_of_mem_replicate a];exact q3x hc.2 _
end
theorem GridM.ty {w:World} {base:Nat} {f:Foot} {S:GS} (h:GridM w base f S):∀k,kg f k->∃t cs,Blk w k t cs/\(t=yI\/t=zj\/t=zA):=by
 obtain ⟨o,d,p⟩:=h.row;obtain ⟨g,c,i,j,l,b,m,n,e,q,r⟩:=h.ring;rintro k (rfl | rfl | hk | hk)
 ·exact ⟨_,_,h.blk,.inl rfl⟩
 ·exact ⟨_,_,l,.inr (.inl rfl)⟩
 ·obtain ⟨cs,a⟩:=d.blk_t hk;exact ⟨_,_,a,.inr (.inr rfl)⟩
 ·obtain ⟨cs,a⟩:=b.blk_t hk;exact ⟨_,_,a,.inr (.inr rfl)⟩
set_option maxRecDepth 400000
def q1d:Bool->Value:=λb=>.bool b
structure ScF where
 f0:Foot
 f1:Foot
 tg:Nat
 tr:Nat
 mm:Nat
 mp:Nat
 ar:Slc
def ScF.f (F:ScF) (alt:Bool):Foot:=if alt then F.f1 else F.f0
def ScF.put (F:ScF) (alt:Bool) (f:Foot):ScF:=if alt then { F with f1:=f } else { F with f0:=f }
def scX (F:ScF) (S:Sc):qE:=⟨⟨some ⟨F.f0.g,0,none⟩,some ⟨F.f1.g,0,none⟩⟩,if S.alt then 1 else 0,S.c,⟨S.s0,S.s1⟩,some F.mm,some F.mp,S.top,S.past,some ⟨F.tg,0,none⟩,S.char,F.ar⟩
def scS (g:Nat) (F:ScF) (k:Nat):Prop:=k=g\/kg F.f0 k\/kg F.f1 k\/k=F.tg\/k=F.tr\/k=F.mm\/k=F.mp\/F.ar.blk=some k
structure ScOk (S:Sc):Prop where
 g0:GOk S.g0
 g1:GOk S.g1
 rows:S.g1.rows=S.g0.rows
 cols:S.g1.cols=S.g0.cols
 row:0<=S.c.Row/\S.c.Row<(S.g0.rows:Int)
 col:0<=S.c.Col/\S.c.Col<(S.g0.cols:Int)
 shift:S.c.Shift=0\/S.c.Shift=1
 sh0:S.s0.c.Shift=0\/S.s0.c.Shift=1
 sh1:S.s1.c.Shift=0\/S.s1.c.Shift=1
 top:0<=S.top/\S.top<S.past/\S.past<=(S.g0.rows:Int)
 marg:2<=S.g0.rows->S.top+2<=S.past
 stops:S.stops.length=S.g0.cols
structure ScM (w:World) (base g:Nat) (F:ScF) (S:Sc):Prop where
 blk:Blk w g zL (qE.rep.cells (scX F S))
 hg:base<=g
 g0:GridM w base F.f0 S.g0
 g1:GridM w base F.f1 S.g1
 st:StopsM w F.tg F.tr S.stops
 hst:base<=F.tg/\base<=F.tr
 mo:jf q1d w F.mm S.modes
 pr:jf q1d w F.mp S.priv
 hm:base<=F.mm/\base<=F.mp
 dm:F.mm≠F.mp/\F.tr≠F.mm/\F.tr≠F.mp
 ar:Go.Vc.Own qp8 w base F.ar S.areas
 dg:∀k,kg F.f0 k->¬kg F.f1 k
 ok:ScOk S
section
variable {w w':World} {base g:Nat} {F:ScF} {S S':Sc}
theorem qye {f:Foot} {G:GS} (h:GridM w base f G) {k:Nat} (hk:kg f k) {t:TypeId} {cs:List Value} (hb:Blk w k t cs):t=yI\/t=zj\/t=zA:=by
 obtain ⟨b,c,a,d⟩:=h.ty k hk;by_cases e:t=b
 ·rw [e];exact d
 ·exact absurd rfl (hb.ne_t a e)
theorem VN {V:Type} {enc:V->Value} {r:Nat} {L:List (Int×V)} (h:jf enc w r L) {k:Nat} {t:TypeId} {cs:List Value} (hb:Blk w k t cs):k≠r:=λe=>h.ne_blk hb e.symm
theorem ScM.of_g (h:ScM w base g F S):∀k,(kg F.f0 k\/kg F.f1 k\/k=F.tg\/k=F.tr\/k=F.mm\/k=F.mp\/F.ar.blk=some k)->k≠g:=by
 rintro k (hk | hk | rfl | rfl | rfl | rfl | hk) rfl
 ·have:=qye h.g0 hk h.blk;revert this;decide
 ·have:=qye h.g1 hk h.blk;revert this;decide
 ·exact h.blk.ne_t h.st.blk (by decide) rfl
 ·exact VN h.st.map h.blk rfl
 ·exact VN h.mo h.blk rfl
 ·exact VN h.pr h.blk rfl
 ·obtain ⟨b,a⟩:=h.ar.blk_t hk;exact h.blk.ne_t a (by decide) rfl
theorem ScM.gridF (h:ScM w base g F S) (alt:Bool):∃G,GridM w base (F.f alt) G:=by
 cases alt
 ·exact ⟨_,h.g0⟩
 ·exact ⟨_,h.g1⟩
theorem ScM.of_grid (h:ScM w base g F S) (alt:Bool):∀k,kg (F.f alt) k->k≠g/\¬kg (F.f (!alt)) k/\k≠F.tg/\k≠F.tr/\k≠F.mm/\k≠F.mp/\F.ar.blk≠some k:=by
 intro k a;obtain ⟨G,j⟩:=h.gridF alt;obtain ⟨t,m,b,i⟩:=j.ty k a;refine ⟨h.of_g k (by cases alt;exact .inl a;exact .inr (.inl a)),?_,?_,VN h.st.map b,VN h.mo b,VN h.pr b,?_⟩
 ·cases alt
  ·exact h.dg k a
  ·exact λc=>h.dg k c a
 ·rintro rfl;exact b.ne_t h.st.blk (by rcases i with rfl | rfl | rfl<;>decide) rfl
 ·intro e;obtain ⟨l,d⟩:=h.ar.blk_t e;exact b.ne_t d (by rcases i with rfl | rfl | rfl<;>decide) rfl
theorem ScM.notC (h:ScM w base g F S):∀k cs,scS g F k->¬Blk w k zi cs:=by
 rintro k cs (rfl | hk | hk | rfl | rfl | rfl | rfl | hk) hb
 ·exact h.blk.ne_t hb (by decide) rfl
 ·exact h.g0.notC k cs hk hb
 ·exact h.g1.notC k cs hk hb
 ·exact h.st.blk.ne_t hb (by decide) rfl
 ·exact VN h.st.map hb rfl
 ·exact VN h.mo hb rfl
 ·exact VN h.pr hb rfl
 ·obtain ⟨b,a⟩:=h.ar.blk_t hk;exact a.ne_t hb (by decide) rfl
theorem ScM.keep {T:Nat->Prop} (h:ScM w base g F S) (hc:Chg T w w') (hT:∀k,scS g F k->¬T k) (hC:∀k cs,T k->¬Blk w k zi cs):ScM w' base g F S :=
 ⟨h.blk.chg hc (hT _ (.inl rfl)),h.hg,h.g0.chg hc (λk a=>hT k (.inr (.inl a))) hC,h.g1.chg hc (λk a=>hT k (.inr (.inr (.inl a)))) hC,
  h.st.keep hc (hT _ (.inr (.inr (.inr (.inl rfl))))) (hT _ (.inr (.inr (.inr (.inr (.inl rfl)))))),h.hst,h.mo.chg hc (hT _ (.inr (.inr (.inr (.inr (.inr (.inl rfl))))))),
  h.pr.chg hc (hT _ (.inr (.inr (.inr (.inr (.inr (.inr (.inl rfl)))))))),h.hm,h.dm,h.ar.chg hc λk a=>hT k (.inr (.inr (.inr (.inr (.inr (.inr (.inr a))))))),h.dg,h.ok⟩
theorem ScM.ext (h:ScM w base g F S) (hB:Uc w w'):ScM w' base g F S:=h.keep (Chg.of_ext hB) (λ_ _ h=>h) λ_ _ h=>h.elim
theorem ScM.drew (h:ScM w base g F S):ScM w.drew base g F S:=h.ext ((Below.refl _ w).drew)
theorem ScM.below (h:ScM w base g F S):∀k,scS g F k->base<=k/\k<w.heap.size:=by
 rintro k (rfl | hk | hk | rfl | rfl | rfl | rfl | hk)
 ·exact ⟨h.hg,h.blk.lt⟩
 ·exact h.g0.below k hk
 ·exact h.g1.below k hk
 ·exact ⟨h.hst.1,h.st.blk.lt⟩
 ·exact ⟨h.hst.2,h.st.map.lt⟩
 ·exact ⟨h.hm.1,h.mo.lt⟩
 ·exact ⟨h.hm.2,h.pr.lt⟩
 ·exact h.ar.lt k hk
theorem ScM.struct (h:ScM w base g F S) (hc:Chg (λk=>k=g) w w') (hb:Blk w' g zL (qE.rep.cells (scX F S'))) (e0:S'.g0=S.g0) (e1:S'.g1=S.g1) (es:S'.stops=S.stops) (em:S'.modes=S.modes) (ep:S'.priv=S.priv) (ea:S'.areas=S.areas) (ok:ScOk S'):ScM w' base g F S':=by
 have d:=λk b a c=>h.notC k b (.inl a) c;refine ⟨hb,h.hg,?_,?_,?_,h.hst,?_,?_,h.hm,h.dm,?_,h.dg,ok⟩
 ·rw [e0];exact h.g0.chg hc (λk a=>h.of_g k (.inl a)) d
 ·rw [e1];exact h.g1.chg hc (λk a=>h.of_g k (.inr (.inl a))) d
 ·rw [es];exact h.st.keep hc (h.of_g _ (.inr (.inr (.inl rfl)))) (h.of_g _ (.inr (.inr (.inr (.inl rfl)))))
 ·rw [em];exact h.mo.chg hc (h.of_g _ (.inr (.inr (.inr (.inr (.inl rfl))))))
 ·rw [ep];exact h.pr.chg hc (h.of_g _ (.inr (.inr (.inr (.inr (.inr (.inl rfl)))))))
 ·rw [ea];exact h.ar.chg hc λk a=>h.of_g k (.inr (.inr (.inr (.inr (.inr (.inr a))))))
theorem ScM.grid (h:ScM w base g F S) {f':Foot} {G':GS} (hg:GridM w' base f' G') (hto:(F.f S.alt).to f' w.heap.size) (hc:Chg (kg (F.f S.alt)) w w') (ok:ScOk (S.withG G')):ScM w' base g (F.put S.alt f') (S.withG G'):=by
 have q:∀k r,kg (F.f S.alt) k->¬Blk w k zi r:=λk r b s=>h.notC k r (by cases hS:S.alt<;>rw [hS] at b;exact .inr (.inl b);exact .inr (.inr (.inl b))) s;have c:=h.of_grid S.alt;have a:=hto.old;have d:=hto.g;have j:=h.blk.chg hc λe=>(c g e).1 rfl;have l:=h.st.keep hc (λe=>(c _ e).2.2.1 rfl) (λe=>(c _ e).2.2.2.1 rfl);have m:=h.mo.chg hc (λe=>(c _ e).2.2.2.2.1 rfl);have n:=h.pr.chg hc (λe=>(c _ e).2.2.2.2.2.1 rfl);have o:=h.ar.chg hc λk b e=>(c k e).2.2.2.2.2.2 b;cases hS:S.alt
 ·rw [hS] at c a d hc q;have t:S.withG G'={ S with g0:=G' }:=by unfold Sc.withG;rw [hS];rfl
  rw [t] at ok ⊢;refine ⟨?_,h.hg,hg,h.g1.chg hc (λk b e=>(c k e).2.1 b) q,l,h.hst,m,n,h.hm,h.dm,o,λk b i=>?_,ok⟩
  ·have u:scX (F.put false f') { S with g0:=G' }=scX F S:=by
    unfold scX ScF.put;rw [if_neg (by decide)];rw [d];rfl
   rw [u];exact j
  ·rcases a k b with p | p
   ·exact h.dg k p i
   ·have:=(h.g1.below k i).2;omega
 ·rw [hS] at c a d hc q;have t:S.withG G'={ S with g1:=G' }:=by unfold Sc.withG;rw [hS];rfl
  rw [t] at ok ⊢;refine ⟨?_,h.hg,h.g0.chg hc (λk b e=>(c k e).2.1 b) q,hg,l,h.hst,m,n,h.hm,h.dm,o,λk b i=>?_,ok⟩
  ·have u:scX (F.put true f') { S with g1:=G' }=scX F S:=by
    unfold scX ScF.put;rw [if_pos rfl];rw [d];rfl
   rw [u];exact j
  ·rcases a k i with p | p
   ·exact h.dg k b p
   ·have:=(h.g0.below k b).2;omega
structure ScT (base g:Nat) (w:World) (F F':ScF) (S':Sc) (w':World):Prop where
 m:ScM w' base g F' S'
 old:∀k,scS g F' k->scS g F k\/w.heap.size<=k
 chg:Chg (scS g F) w w'
theorem ScT.refl (h:ScM w base g F S):ScT base g w F F S w:=⟨h,λk a=>.inl a,Chg.refl _ _⟩
theorem ScT.trans {w1 w2:World} {F1 F2:ScF} {S1 S2:Sc} (h:ScT base g w F F1 S1 w1) (h2:ScT base g w1 F1 F2 S2 w2):ScT base g w F F2 S2 w2:=by
 have c:=h.chg.size;refine ⟨h2.m,λk b=>?_,h.chg.trans h2.chg λi d b=>?_⟩
 ·rcases h2.old k b with a | a
  ·exact h.old k a
  ·exact .inr (by omega)
 ·rcases h.old i b with a | a
  ·exact a
  ·omega
theorem ScT.ext {w1 w2:World} {F1:ScF} {S1:Sc} (h:ScT base g w F F1 S1 w1) (hB:Uc w1 w2):ScT base g w F F1 S1 w2 :=
 h.trans ⟨h.m.ext hB,λk a=>.inl a,Chg.of_ext hB⟩
theorem ScT.of_ext (h:ScM w base g F S) (hB:Uc w w'):ScT base g w F F S w':=(ScT.refl h).ext hB
theorem ScT.drew {F1:ScF} {S1:Sc} (h:ScT base g w F F1 S1 w'):ScT base g w F F1 S1 w'.drew:=h.ext ((Below.refl _ w').drew)
theorem ScT.mk_struct (h:ScM w base g F S) (hc:Chg (λk=>k=g) w w') (hb:Blk w' g zL (qE.rep.cells (scX F S'))) (e0:S'.g0=S.g0) (e1:S'.g1=S.g1) (es:S'.stops=S.stops) (em:S'.modes=S.modes) (ep:S'.priv=S.priv) (ea:S'.areas=S.areas) (ok:ScOk S'):ScT base g w F F S' w' :=
 ⟨h.struct hc hb e0 e1 es em ep ea ok,λk a=>.inl a,hc.mono λi b e=>.inl e⟩
theorem ScT.mk_grid (h:ScM w base g F S) {f':Foot} {G':GS} (hg:GridM w' base f' G') (hto:(F.f S.alt).to f' w.heap.size) (hc:Chg (kg (F.f S.alt)) w w') (ok:ScOk (S.withG G')):ScT base g w F (F.put S.alt f') (S.withG G') w':=by
 refine ⟨h.grid hg hto hc ok,λk b=>?_,hc.mono λi d e=>?_⟩
 ·have a:=hto.old;revert b a;cases S.alt
  ·rintro (rfl | b | b | b) a
   ·exact .inl (.inl rfl)
   ·rcases a k b with c | c
    ·exact .inl (.inr (.inl c))
    ·exact .inr c
   ·exact .inl (.inr (.inr (.inl b)))
   ·exact .inl (.inr (.inr (.inr b)))
  ·rintro (rfl | b | b | b) a
   ·exact .inl (.inl rfl)
   ·exact .inl (.inr (.inl b))
   ·rcases a k b with c | c
    ·exact .inl (.inr (.inr (.inl c)))
    ·exact .inr c
   ·exact .inl (.inr (.inr (.inr b)))
 ·revert e;cases S.alt
  ·exact λe=>.inr (.inl e)
  ·exact λe=>.inr (.inr (.inl e))
theorem ScM.gOk (h:ScM w base g F S):GOk S.g:=by
 unfold Sc.g;cases S.alt
 ·exact h.ok.g0
 ·exact h.ok.g1
theorem ScM.gM (h:ScM w base g F S):GridM w base (F.f S.alt) S.g:=by
 unfold Sc.g ScF.f;cases S.alt
 ·exact h.g0
 ·exact h.g1
theorem ScOk.grows (h:ScOk S):S.g.rows=S.g0.rows/\S.g.cols=S.g0.cols:=by
 unfold Sc.g;cases S.alt
 ·exact ⟨rfl,rfl⟩
 ·exact ⟨h.rows,h.cols⟩
theorem ScOk.gOk (h:ScOk S):GOk S.g:=by
 unfold Sc.g;cases S.alt
 ·exact h.g0
 ·exact h.g1
end
theorem zH (w:World):Uc w w.drew:=(Below.refl _ w).drew
theorem zM {w w1 w2:World} (h:Uc w w1) (h2:Uc w1 w2):Uc w w2:=h.trans (h2.mono h.size)
theorem q9t {zs vs:List Value} (hl:vs.length=zs.length):putL zs 0 vs=vs:=by
 refine List.ext_getElem? λm=>?_;rw [Yp vs zs 0 m (by omega)];by_cases hm:m<vs.length
 ·rw [if_pos (by omega)];rfl
 ·rw [if_neg (by omega),List.getElem?_eq_none (by omega),List.getElem?_eq_none (by omega)]
theorem qh2 {g:Nat} {t:TypeId} {vs us:List Value} {w:World} {K:Ub} (h:Blk w g t vs) (hl:us.length=vs.length) (hK:∀w',Blk w' g t us->Chg (λk=>k=g) w w'->w'.heap.size=w.heap.size->K w'):stK ⟨g,0,none⟩ us w K :=
 qD h (by omega) λw' a b c=>hK w' (by rw [q9t hl] at a;exact a) (Chg.gg b) c
theorem q8b {r:Rep} {g:Nat} {t:TypeId} {vs us:List Value} {x:r.T} {w:World} {K:r.T->Ub} (h:Blk w g t vs) (hus:r.cells x=us) (hl:us.length=vs.length) (hK:∀w',Chg (λk=>k=g) w w'->w'.heap.size=w.heap.size->K x w') :
  stK ⟨g,0,none⟩ us w λw'=>ldS r ⟨g,0,none⟩ w' λy=>K y w' :=
 qh2 h hl λw' a b c=>qz (by rw [hus];exact a.cells) (hK w' b c)
theorem ki {w w1 w2:World} {g:Nat} (h:Uc w w1) (hc:Chg (λk=>k=g) w1 w2) (hg:w.heap.size<=g):Uc w w2 :=
 h.trans (hc.below h.size λi a e=>by omega)
theorem zdb {v lo hi:Int} (h:lo<=hi):lo<=q16 v lo hi/\q16 v lo hi<=hi:=by
 unfold q16;split<;>omega
theorem q0a {x:Int} (h:-9223372036854775808<=x/\x<=9223372036854775807):w64 x=x:=qM h
section
variable {S:Sc}
theorem ScOk.cur (h:ScOk S) {c:Cur} (hr:0<=c.Row/\c.Row<(S.g.rows:Int)) (hc:0<=c.Col/\c.Col<(S.g.cols:Int)) (hs:c.Shift=0\/c.Shift=1):ScOk { S with c:=c }:=by
 obtain ⟨a,b⟩:=h.grows;rw [a] at hr;rw [b] at hc;exact ⟨h.g0,h.g1,h.rows,h.cols,hr,hc,hs,h.sh0,h.sh1,h.top,h.marg,h.stops⟩
theorem ScOk.rowg (h:ScOk S):0<=S.c.Row/\S.c.Row<(S.g.rows:Int):=by rw [h.grows.1];exact h.row
theorem ScOk.colg (h:ScOk S):0<=S.c.Col/\S.c.Col<(S.g.cols:Int):=by rw [h.grows.2];exact h.col
theorem ScOk.bnd (h:ScOk S):1<=S.g.rows/\S.g.rows<=1000/\1<=S.g.cols/\S.g.cols<=1000:=⟨h.gOk.rows.1,h.gOk.rows.2,h.gOk.cols.1,h.gOk.cols.2⟩
theorem ScOk.to (h:ScOk S) (row col:Int):ScOk (S.to row col):=by
 have c:=h.bnd;have a:w64 ((S.g.rows:Int)-1)=(S.g.rows:Int)-1:=q0a (by omega);have b:w64 ((S.g.cols:Int)-1)=(S.g.cols:Int)-1:=q0a (by omega);have d:=zdb (v:=row) (lo:=0) (hi:=(S.g.rows:Int)-1) (by omega);have e:=zdb (v:=col) (lo:=0) (hi:=(S.g.cols:Int)-1) (by omega);unfold Sc.to;rw [a,b];exact h.cur (by show 0<=q16 _ _ _/\_;dsimp only;omega) (by show 0<=q16 _ _ _/\_;dsimp only;omega) h.shift
theorem ScOk.dry (h:ScOk S):ScOk S.dry:=h.cur h.rowg h.colg h.shift
theorem ScOk.withG (h:ScOk S) {G:GS} (hG:GOk G) (hr:G.rows=S.g.rows) (hc:G.cols=S.g.cols):ScOk (S.withG G):=by
 obtain ⟨d,e⟩:=h.grows;unfold Sc.withG;split
 ·exact ⟨h.g0,hG,hr.trans d,hc.trans e,h.row,h.col,h.shift,h.sh0,h.sh1,h.top,h.marg,h.stops⟩
 ·have a:=hr.trans d;have b:=hc.trans e;refine ⟨hG,h.g1,by show S.g1.rows=G.rows;rw [a,h.rows],by show S.g1.cols=G.cols;rw [b,h.cols],?_,?_,h.shift,h.sh0,h.sh1,?_,?_,?_⟩
  ·rw [a];exact h.row
  ·rw [b];exact h.col
  ·rw [a];exact h.top
  ·rw [a];exact h.marg
  ·rw [b];exact h.stops
theorem ScOk.scroll (h:ScOk S) (top past n:Int):ScOk (S.scroll top past n):=by
 have b:=qdr (top:=top) (past:=past) (n:=n) (a:=S.blank) h.gOk.len;exact h.withG (h.gOk.scroll top past n S.blank) b.2.1 b.2.2.1
theorem zc3 (S:Sc) (G:GS):(S.withG G).g=G:=by
 unfold Sc.withG Sc.g;cases h:S.alt<;>simp
theorem zc9 (S:Sc) (G:GS):(S.withG G).c=S.c:=by unfold Sc.withG;split<;>rfl
end
section
variable {w:World} {base g:Nat} {F:ScF} {S:Sc}
theorem q9q {v lo hi:Int} {K:Int->Ub} (hK:K (q16 v lo hi) w):qbp v lo hi w K:=by
 refine qxp _ _ _ ?_;exact hK
theorem vK {v lo hi:Int} {K:Bool->Ub} (hK:K (decide (lo<=v/\v<=hi)) w):j6 v lo hi w K:=by
 refine qp0 _ _ _ ?_;refine cO (λe=>?_) λe=>?_
 ·have e:=oTq e;rw [show decide (lo<=v/\v<=hi)=decide (v<=hi) by simp;intro _;exact e] at hK;exact hK
 ·have e:=oFq e;rw [show decide (lo<=v/\v<=hi)=false by simp;omega] at hK;exact hK
theorem qsp {K:Option Addr->Ub} (h:ScM w base g F S) (hK:K (some ⟨(F.f S.alt).g,0,none⟩) w.drew):j9 (some ⟨g,0,none⟩) w K:=by
 refine YK _ ?_;have a:=h.drew.blk;refine lI (x:=if S.alt then 1 else 0) (a.cells 2 _ rfl) ?_;revert hK;cases hS:S.alt
 ·intro hK;exact ⟨⟨by decide,by decide⟩,qS (a.cells 0 _ rfl) hK⟩
 ·intro hK;exact ⟨⟨by decide,by decide⟩,qS (a.cells 1 _ rfl) hK⟩
theorem qrh {K:Int->Int->Ub} (h:ScM w base g F S) (hK:K S.g.rows S.g.cols w.drew.drew):jJ (some ⟨g,0,none⟩) w K:=by
 refine JY _ ?_;exact qsp h (qz3 h.drew.gM hK)
theorem zbf {K:yX->Ub} (h:ScM w base g F S) (hK:∀w',Uc w w'->K S.blank w'):xM (some ⟨g,0,none⟩) w K:=by
 refine qf6 _ ?_;refine nwb λk d a e=>?_;refine lI ((h.ext a).blk.cells 7 _ rfl) ?_;refine qh2 d rfl λf i b j=>?_;exact qz (x:=S.blank) i.cells (hK f (ki a b (le_refl _)))
theorem qsu {row col:Int} {K:Ub} (h:ScM w base g F S) (hK:∀w',ScT base g w F F (S.to row col) w'->K w'):ju (some ⟨g,0,none⟩) row col w K:=by
 refine qls _ _ _ ?_;refine qrh h (q9q (q9q ?_));simp only [onPtr_some];have a:=(ScT.refl h).drew.drew;refine qD a.m.blk (by simp [qE.rep]) λw4 b c o=>?_;rw [qC];refine qD b (by simp [qE.rep,putL]) λs d e p=>?_;refine qD d (by simp [qE.rep,putL]) λn f j q=>?_;have r:=((Chg.gg c).trans (Chg.gg e) λi _ l=>l).trans (Chg.gg j) λi _ l=>l;exact hK n (a.trans (ScT.mk_struct a.m r f rfl rfl rfl rfl rfl rfl (h.ok.to row col)))
end
section
variable {w:World} {base g:Nat} {F:ScF} {S:Sc}
theorem ScM.base_le (h:ScM w base g F S):base<=w.heap.size:=by
 have:=h.below g (.inl rfl);omega
theorem q83 {top past n:Int} {K:Int->Ub} (h:ScM w base g F S) (hn:-9223372036854775808<=n/\n<=9223372036854775807) (hK:∀v F' w',ScT base g w F F' (S.scroll top past n) w'->K v w'):xV (some ⟨(F.f S.alt).g,0,none⟩) top past n S.blank w K:=by
 have a:=h.gOk;refine q53 h.gM a.len a.rows.2 (by have:=a.most;omega) h.base_le hn λe w' c b d=>?_;exact hK _ _ w' (ScT.mk_grid h c b d (h.ok.scroll top past n))
theorem zkn {n top past:Int} {K:Int->Ub} (h:ScM w base g F S) (ht:top=S.top) (hp:past=S.past) (hn:-9223372036854775808<=n/\n<=9223372036854775807) (hK:∀v F' w',ScT base g w F F' (S.scroll S.top S.past n) w'->K v w') :
  j9 (some ⟨g,0,none⟩) w λt18 w2=>w2.cell? ((⟨g,0,none⟩:Addr).add 38)=some (Ua past)/\w2.cell? ((⟨g,0,none⟩:Addr).add 37)=some (Ua top) /\
   xM (some ⟨g,0,none⟩) w2 λt28 w3=>w3.cell? ((⟨g,0,none⟩:Addr).add 38)=some (Ua past)/\w3.cell? ((⟨g,0,none⟩:Addr).add 37)=some (Ua top) /\
    xV t18 top past n t28 w3 K:=by
 subst ht hp;refine qsp h ⟨h.drew.blk.cells 38 _ rfl,h.drew.blk.cells 37 _ rfl,?_⟩;refine zbf h.drew λw3 a=>?_;have b:=h.drew.ext a;refine ⟨b.blk.cells 38 _ rfl,b.blk.cells 37 _ rfl,?_⟩;refine q83 b hn λv F' w' c=>hK v F' w' ?_;exact ((ScT.refl h).drew.ext a).trans c
theorem ScT.dry (h:ScM w base g F S) {w':World} (hb:Blk w' g zL (putL (qE.rep.cells (scX F S)) 5 vD)) (hg:w.grownBy w' (some g)):ScT base g w F F S.dry w' :=
 ScT.mk_struct h (Chg.gg hg) hb rfl rfl rfl rfl rfl rfl h.ok.dry
theorem qsb {K:Ub} (h:ScM w base g F S) (hK:∀F' w',ScT base g w F F' S.index w'->K w'):ji (some ⟨g,0,none⟩) w K:=by
 refine qfu _ ?_;simp only [onPtr_some];rw [qC];refine qD h.blk (by simp [qE.rep]) λk b d l=>?_;have f:=ScT.dry h b d;have i:=f.drew;refine lI (i.m.blk.cells 3 _ rfl) (lI (i.m.blk.cells 38 _ rfl) ?_);have a:=i.drew;unfold Sc.index at hK;refine cO (λe=>?_) λe=>?_
 ·have e:S.c.Row=w64 (S.past-1):=eq_of_beq e;rw [if_pos e] at hK;refine lI (a.m.blk.cells 37 _ rfl) (lI (a.m.blk.cells 38 _ rfl) ?_);exact zkn a.m rfl rfl (by decide) λv F' w' j=>hK F' w' (a.trans j)
 ·have e:¬S.c.Row=w64 (S.past-1):=beq_eq_false_iff_ne.1 e;rw [if_neg e] at hK;refine lI (a.m.blk.cells 3 _ rfl) (lI (a.m.blk.cells 4 _ rfl) ?_);exact qsu a.m λw' j=>hK F w' (a.trans j)
theorem zbt {K:Cur->Ub} (hK:∀w',Uc w w'->K qc1 w'):qdm w K:=by
 refine qua ?_;refine nwb λg c a d=>?_;exact q8b c rfl rfl λe b f=>hK e (ki a b (le_refl _))
theorem q22 {S:Sc} (h:ScM w base g F S):qG w ((⟨g,0,none⟩:Addr).add 3) (qQ.rep.cells S.c):=by
 rw [qC];intro j v a;have:(qE.rep.cells (scX F S))[3+j]?=some v:=by
  match j,a with
  | 0,a=>exact a
  | 1,a=>exact a
  | 2,a=>exact a
  | 3,a=>exact a
  | 4,a=>exact a
  | 5,a=>exact a
  | 6,a=>exact a
  | 7,a=>exact a
  | 8,a=>exact a
  | 9,a=>exact a
  | j+10,a=>cases a
 have b:=h.blk.cells (3+j) v this;rw [qC] at b ⊢;rw [show 0+3+j=0+(3+j) by omega];exact b
theorem qxc {K:Cur->Ub} (h:ScM w base g F S) (hK:∀w',Uc w w'->K S.c w'):kG (some ⟨g,0,none⟩) w K:=by
 refine qd8 _ ?_;refine nwb λj d a e=>?_;refine qz (q22 (h.ext a)) ?_;exact q8b d rfl rfl λf b i=>hK f (ki a b (le_refl _))
theorem q8v {K:Bool->Ub} (h:ScM w base g F S) (hK:K S.alt w):yo (some ⟨g,0,none⟩) w K:=by
 refine qiz _ ?_;refine lI (x:=if S.alt then 1 else 0) (h.blk.cells 2 _ rfl) ?_;cases hS:S.alt<;>rw [hS] at hK<;>exact hK
end
def q80:El xQ where
 cells:=xQ.rep.cells
 t:=qe7
 k:=2
 pos:=by decide
 len _:=rfl
 one x v hv:=by
  simp only [xQ.rep,List.mem_cons,List.mem_nil_iff,or_false] at hv;rcases hv with rfl | rfl<;>rfl
def zmr:El Int where
 cells x:=[.int .i32 x]
 t:=Qe
 k:=1
 pos:=by decide
 len _:=rfl
 one x v hv:=by
  simp only [List.mem_cons,List.mem_nil_iff,or_false] at hv;rcases hv with rfl
  rfl
def qqu (l:List (Int×Int)):List xQ:=l.map λp=>⟨p.1,p.2⟩
def inS (r:Int) (p:xQ):Bool:=decide (p.lo<=r) && decide (r<=p.hi)
theorem q3r (r:Int) (l:List (Int×Int)):(qqu l).any (inS r)=inW r l:=by
 unfold qqu inW;rw [List.any_map];rfl
section
variable {w:World}
theorem zdt {r:Int} {l:Slc} {xs:List xQ} {K:Bool->Ub} (hl:Rd q80 w l xs) (hxs:xs.length<=1000) (hK:∀w',Uc w w'->K (xs.any (inS r)) w'):qsv r l w K:=by
 refine q6a _ _ ?_;refine lpR (λ(st:Int×Unit) w1=>∃k:Nat,st.1=(k:Int)/\k<=xs.length/\(xs.take k).any (inS r)=false/\Uc w w1) (λst=>xs.length-st.1.toNat) ⟨0,rfl,zero_le _,rfl,Below.refl _ _⟩ ?_;rintro ⟨i,u⟩ w1 ⟨k,hi,hk,hno,hB1⟩ I hI;subst hi;rw [hl.n];refine cO (λe=>?_) λe=>?_
 ·have e:=oTq e;have hkl:k<xs.length:=by omega
  have hl1:=hl.ext hB1;have hx:=List.getElem?_eq_getElem hkl;refine hl1.ix rfl (by omega) (by omega) λhc=>?_;refine qz (hl1.at_ k _ hx) ?_;refine nwb λw2 h2 hB2 hs2=>qh2 h2 rfl λw3 h3 hc3 hs3=>?_;have hB3:=zM hB1 (ki hB2 hc3 (le_refl _));have step:inS r xs[k]=false->I (i64.wrap ((k:Int)+1),()) w3:=by
   intro hf;rw [qM (by omega)];refine hI _ _ ⟨k+1,by simp,by omega,?_,hB3⟩ (by dsimp only;omega);rw [List.take_add_one,hx,List.any_append,hno];simpa using hf
  have found:inS r xs[k]=true->K true w3:=by
   intro ht;have:=hK w3 hB3;rw [show xs.any (inS r)=true from List.any_eq_true.2 ⟨_,List.getElem_mem hkl,ht⟩] at this;exact this
  refine lI (h3.cells 0 _ rfl) (cO (λe1=>?_) λe1=>?_)
  ·have e1:=oTq e1;refine lI (h3.cells 1 _ rfl) (cO (λe2=>?_) λe2=>?_)
   ·exact found (by unfold inS;rw [dTq e1,e2];rfl)
   ·exact step (by unfold inS;rw [dTq e1,e2];rfl)
  ·exact step (by unfold inS;rw [show decide (xs[k].lo<=r)=false from e1];rfl)
 ·have e:=oFq e;obtain rfl:k=xs.length:=by omega
  rw [List.take_length] at hno;have:=hK w1 hB1;rw [hno] at this;exact this
theorem zfs {K:Slc->Ub} (hK:∀s w',Rd q80 w' s (qqu qzh)->Uc w w'->K s w'):qre w K:=by
 refine q17 ?_;exact nwb λb c a d=>hK _ b (rd_lits (ys:=qqu qzh) c (by simp [qqu,qzh,maxLen]) rfl) a
theorem ze4 {K:Slc->Ub} (hK:∀s w',Rd q80 w' s (qqu q8m)->Uc w w'->K s w'):qr3 w K:=by
 refine q1v ?_;exact nwb λb c a d=>hK _ b (rd_lits (ys:=qqu q8m) c (by simp [qqu,q8m,maxLen]) rfl) a
theorem zh1 {r:Int} {K:Bool->Ub} (hK:K (isW r) w):qnp r w K:=by
 refine qww _ ?_;unfold isW at hK;refine cO (λa=>?_) λa=>?_
 ·have d:=oTq a;rw [dTq d] at hK;refine cO (λb=>?_) λb=>?_
  ·rw [b] at hK;refine cO (λc=>?_) λc=>?_
   ·rw [c] at hK;exact hK
   ·rw [c] at hK;exact hK
  ·rw [b] at hK;exact hK
 ·rw [show decide ((0:Int)<=r)=false from a] at hK;exact hK
theorem zb4 {r:Int} {K:Int->Ub} (hK:∀w',Uc w w'->K (qdq r) w'):qni r w K:=by
 refine qzo _ ?_;unfold qdq at hK;refine jpO λm d=>zh1 ?_;refine cO (λe=>?_) λe=>?_
 ·have e:isW r=false:=by simpa using e
  rw [if_pos (.inl e)] at hK;exact d _ _ (cT rfl (hK w (Below.refl _ _)))
 ·have e:isW r=true:=by simpa using e
  refine zfs λs n f g=>zdt f (by simp [qqu,qzh]) λl h=>?_;refine d _ _ ?_;have a:=zM g h;refine cO (λc=>?_) λc=>?_
  ·rw [if_pos (.inr c)] at hK;exact hK l a
  ·have c:inW r qzh=false:=c;rw [if_neg (by rw [e,c];simp)] at hK;refine ze4 λs o f i=>zdt f (by simp [qqu,q8m]) λw4 j=>?_;rw [q3r];have b:=zM (zM a i) j;refine cO (λk=>?_) λk=>?_
   ·rw [if_pos k] at hK;exact hK w4 b
   ·rw [if_neg (by rw [k];decide)] at hK;exact hK w4 b
theorem zi8 {r:Int} (h:qdq r≠0):0<=r/\r<=1114111:=by
 unfold qdq at h;by_cases e:isW r=false
 ·rw [if_pos (.inl e)] at h;exact absurd rfl h
 ·have e:isW r=true:=by simpa using e
  unfold isW at e;simp only [Bool.and_eq_true,decide_eq_true_eq] at e;exact e.1
theorem zgq (r:Int):qdq r=0\/qdq r=1\/qdq r=2:=by
 unfold qdq;split
 ·exact .inl rfl
 ·split
  ·exact .inr (.inr rfl)
  ·exact .inr (.inl rfl)
theorem q42 {set b:Int} {K:Int->Ub} (hb:0<=b/\b<=255) (hK:∀w',Uc w w'->K (qzj set b) w'):qf2 set b w K:=by
 refine qvt _ _ ?_;unfold qzj at hK;have o:i32.wrap b=b:=by
  obtain ⟨n,rfl⟩:∃n:Nat,b=n:=⟨b.toNat,by omega⟩;exact xN .i32 (by show _<2^31;omega)
 rw [o];refine jpO λp c=>?_;have g:¬(set=48/\95<=b/\b<=126)->∀v:Bool,v=false->p (v,()) w:=by
  rintro f v rfl;rw [if_neg f] at hK;exact c _ _ (cF rfl (hK w (Below.refl _ _)))
 refine cO (λe=>?_) λe=>?_
 ·have e:=eq_of_beq e;refine cO (λa=>?_) λa=>?_
  ·have a:=oTq a;by_cases h2:b<=126
   ·rw [dTq h2];rw [if_pos ⟨e,a,h2⟩] at hK;refine c _ _ (cT rfl ?_);refine q0i ?_;refine nwb λk q h r=>?_;have l:=rd_lits (E:=zmr) (ys:=qng) q (by simp [qng,maxLen]) rfl;obtain ⟨n,f⟩:∃n:Nat,b-95=n:=⟨(b-95).toNat,by omega⟩;rw [f,show IntKind.u8.wrap (n:Int)=n from xN .u8 (by show _<2^8;omega)];have j:n<qng.length:=by show n<32;omega
    refine l.ix rfl (by omega) (by show (n:Int)<((32:Nat):Int);omega) λ_=>?_;have m:=List.getElem?_eq_getElem j;refine lI (by simpa using l.at_ n _ m 0 _ rfl) ?_;have:=hK k h;rw [f,Int.toNat_natCast,List.getD_eq_getElem?_getD,m] at this;exact this
   ·exact g (λd=>h2 d.2.2) _ (dFq h2)
  ·have a:=oFq a;exact g (λd=>a d.2.1) _ rfl
 ·have e:=beq_eq_false_iff_ne.1 e;exact g (λd=>e d.1) _ rfl
end
section
variable {w:World} {base g:Nat} {F:ScF} {S:Sc}
theorem ScOk.changed (h:ScOk S) {f:List qZ->List qZ} (hok:∀xs,okR xs->okR (f xs)) {row:Int} (hr:0<=row/\row<(S.g.rows:Int)):ScOk (S.withG { S.g with L:=S.g.L.set row.toNat (ZF (f (S.g.L.getD row.toNat [])) S.g.cols) }):=by
 have a:=h.gOk;refine h.withG (a.set row.toNat ?_) rfl rfl;refine zie a.cols.2 (hok _ ?_);have b:row.toNat<S.g.L.length:=by rw [a.len];omega
 rw [List.getD_eq_getElem?_getD,List.getElem?_eq_getElem b];exact (a.L _ (List.getElem_mem b)).2.2
theorem q88 {fv:Value} {f:List qZ->List qZ} {row:Int} {K:Bool->Ub} (h:ScM w base g F S) (hr:0<=row/\row<(S.g.rows:Int)) (hlen:∀xs,(f xs).length=xs.length) (hok:∀xs,okR xs->okR (f xs))
  (hf:∀(l:Slc) (xs:List qZ) (K':Slc->Ub),Rd zD w.drew l xs->xs.length<=10000->(∀s w2,Go.Vc.Own zD w2 w.drew.heap.size s (f xs)->Below w.drew.heap.size w.drew w2->K' s w2)->j7 C fv [.slice l.a l.n l.c] [Kind.slice] w.drew K')
  (hK:∀F' w',ScT base g w F F' (S.withG { S.g with L:=S.g.L.set row.toNat (ZF (f (S.g.L.getD row.toNat [])) S.g.cols) }) w'->K true w'):JI (some ⟨(F.f S.alt).g,0,none⟩) row fv w K:=by
 refine qly _ _ _ ?_;have e:=h.gM;have v:=h.gOk;have z:=h.base_le;refine jpO λJ Q=>?_;refine qy1 e ?_;rw [dTq hr];refine lSl (e.drew.blk.cells 3 _ rfl) ?_;refine lSl (e.drew.blk.cells 3 _ rfl) ?_;obtain ⟨r,I,A⟩:=e.row;have R:=A.1;have T:=v.len;refine I.drew.rd.ix rfl hr.1 (by omega) λU=>?_;have k:r[row.toNat]?=some (r[row.toNat]'(by omega)):=List.getElem?_eq_getElem _;have j:S.g.L[row.toNat]?=some (S.g.L[row.toNat]'(by omega)):=List.getElem?_eq_getElem _;refine lSl (by simpa using U 0 _ rfl) ?_;refine lI (e.drew.blk.cells 2 _ rfl) ?_;have o:(S.g.L[row.toNat]'(by omega)).length<=10000:=by
  have:=(v.L _ (List.mem_of_getElem? j)).2.1;have:=v.cols.2;omega
 refine hf _ _ _ (A.2 _ _ _ k j).drew.rd o λt w4 V B=>?_;have b:=(zH w).trans B;have M:=e.ext b;refine ⟨M.blk.cells 2 _ rfl,M.blk.cells 3 _ rfl,?_⟩;refine q7n V.rd (by rw [hlen];exact o) λu W X D=>?_;have d:=b.trans (D.mono b.size);have N:=e.ext d;refine ⟨N.blk.cells 3 _ rfl,?_⟩;have p:=I.ext d;have Y:=b.size;refine p.rd.ix rfl hr.1 (by omega) λ_=>?_;refine p.st0 k rfl λZ E G aa=>?_;obtain ⟨O,H⟩:=N.setLine (A.ext d) (X.base (by omega)) E G;refine Q _ _ (qy1 O ?_);rw [dTq hr];have P:=h.ok.changed hok hr;rw [List.getD_eq_getElem?_getD,j] at hK P;have q:=ScT.of_ext h d;refine hK _ Z (q.trans (ScT.mk_grid q.m O (Foot.to.refl _ _) (H.mono λi _ hi=>.inr (.inr (.inl hi))) P))
end
section
variable {S:Sc}
theorem zhe (S:Sc) (top past n:Int):(S.scroll top past n).g=yW S.g top past n S.blank:=zc3 _ _
theorem q9x (h:ScOk S):S.index.g.cols=S.g.cols/\S.index.g.rows=S.g.rows:=by
 unfold Sc.index;split
 ·rw [zhe];have b:=qdr (top:=S.dry.top) (past:=S.dry.past) (n:=1) (a:=S.dry.blank) h.dry.gOk.len;exact ⟨b.2.2.1,b.2.1⟩
 ·exact ⟨rfl,rfl⟩
theorem q3g (h:ScOk S):S.next.g.cols=S.g.cols/\S.next.g.rows=S.g.rows:=q9x (h.to S.c.Row 0)
theorem ScOk.setCol (h:ScOk S) {col:Int} (hc:0<=col/\col<(S.g.cols:Int)):ScOk (S.setCol col):=h.cur h.rowg hc h.shift
theorem zgs (S:Sc) (r w:Int) (xs:List qZ):(S.putL r w xs).length=xs.length:=by
 unfold Sc.putL;rw [q7d];split
 ·exact qwo _ _ _ _
 ·rfl
theorem q9j (S:Sc) {r:Int} (hr:0<=r/\r<=1114111) (w:Int) (xs:List qZ) (h:okR xs):okR (S.putL r w xs):=by
 refine zkz ?_ (by omega);split
 ·exact zlq h _ _ _
 ·exact h
theorem q7x (S:Sc) (f:List qZ->List qZ):(S.change f).c=S.c:=by
 unfold Sc.change;split
 ·exact zc9 _ _
 ·rfl
theorem q7j (S:Sc) (f:List qZ->List qZ):(S.change f).g.cols=S.g.cols/\(S.change f).g.rows=S.g.rows:=by
 unfold Sc.change;split
 ·rw [zc3];exact ⟨rfl,rfl⟩
 ·exact ⟨rfl,rfl⟩
theorem ScOk.change (h:ScOk S) {f:List qZ->List qZ} (hok:∀xs,okR xs->okR (f xs)):ScOk (S.change f):=by
 unfold Sc.change;rw [if_pos h.rowg];exact h.changed hok h.rowg
theorem ScOk.char (h:ScOk S) (r:Int):ScOk { S with char:=r }:=⟨h.g0,h.g1,h.rows,h.cols,h.row,h.col,h.shift,h.sh0,h.sh1,h.top,h.marg,h.stops⟩
theorem ScOk.laid (h:ScOk S) {r wd:Int} (hr:0<=r/\r<=1114111) (hw:1<=wd/\wd<=2) (wrap:Bool):ScOk (S.laid r wd wrap):=by
 have e:=h.change (q9j S hr wd);have k:=h.bnd;have l:=h.colg;obtain ⟨i,m⟩:=q7j S (S.putL r wd);unfold Sc.laid;dsimp only;have j:w64 (S.c.Col+wd)=S.c.Col+wd:=q0a (by omega);have f:w64 ((S.g.cols:Int)-1)=(S.g.cols:Int)-1:=q0a (by omega);rw [j,f];have a:=e.rowg;have b:=e.shift;split
 ·exact e.cur a (by dsimp only;rw [i];omega) b
 ·rename_i d;have d:¬S.c.Col+wd>=(S.g.cols:Int):=d;exact e.cur a (by dsimp only;rw [i];omega) b
end
structure Bx (w:World) (bs br bw g:Nat) (r wd:Int):Prop where
 s:Blk w bs qch [.pointer (some ⟨g,0,none⟩)]
 r:Blk w br Qe [.int .i32 r]
 w:Blk w bw zJ [.int .i64 wd]
theorem Bx.chg {w w':World} {bs br bw g:Nat} {r wd:Int} {T:Nat->Prop} (h:Bx w bs br bw g r wd) (hc:Chg T w w') (h1:¬T bs) (h2:¬T br) (h3:¬T bw):Bx w' bs br bw g r wd:=⟨h.s.chg hc h1,h.r.chg hc h2,h.w.chg hc h3⟩
theorem Bx.ext {w w':World} {bs br bw g:Nat} {r wd:Int} (h:Bx w bs br bw g r wd) (hB:Uc w w'):Bx w' bs br bw g r wd:=⟨h.s.ext hB,h.r.ext hB,h.w.ext hB⟩
structure LayS (base g:Nat) (w0:World) (F0:ScF) (bs br bw:Nat) (r wd:Int) (F:ScF) (S:Sc) (w:World):Prop where
 t:ScT base g w0 F0 F S w
 bx:Bx w bs br bw g r wd
 ne:∀k,scS g F k->k≠bs/\k≠br/\k≠bw
section
variable {w0 w w':World} {base g bs br bw:Nat} {F0 F F':ScF} {S S':Sc} {r wd:Int}
theorem LayS.step (h:LayS base g w0 F0 bs br bw r wd F S w) (hT:ScT base g w F F' S' w'):LayS base g w0 F0 bs br bw r wd F' S' w':=by
 refine ⟨h.t.trans hT,h.bx.chg hT.chg (λe=>(h.ne _ e).1 rfl) (λe=>(h.ne _ e).2.1 rfl) (λe=>(h.ne _ e).2.2 rfl),λk b=>?_⟩;rcases hT.old k b with a | a
 ·exact h.ne k a
 ·have c:=h.bx.s.lt;have d:=h.bx.r.lt;have f:=h.bx.w.lt;omega
theorem LayS.drew (h:LayS base g w0 F0 bs br bw r wd F S w):LayS base g w0 F0 bs br bw r wd F S w.drew:=h.step (ScT.refl h.t.m).drew
theorem qoy {r:Nat} {L:List (Int×Bool)} (h:jf q1d w r L) {k:Int} {K:Bool->Ub} (hK:K ((zy L k).getD false) w):zO PG (Instr.lookup zp (.map (some r)) (Ua k) false) Kind.bool w K:=by
 refine ⟨(zy L k).getD false,w,?_,hK⟩;rw [h.lookup zc8 zdq znm k];cases zy L k<;>rfl
theorem q1f (h:ScM w base g F S):qG w (((⟨g,0,none⟩:Addr).add 3).add 3) (qA.rep.cells S.c.A):=by
 have d:=q22 h;intro j v a;have:(qQ.rep.cells S.c)[3+j]?=some v:=by
  match j,a with
  | 0,a=>exact a
  | 1,a=>exact a
  | 2,a=>exact a
  | j+3,a=>cases a
 have b:=d (3+j) v this;simp only [qC] at b ⊢;rw [show 0+3+3+j=0+3+(3+j) by omega];exact b
theorem q98:C.plain yY=true:=by kernel_rfl
theorem zed {l:Slc} {xs:List qZ} {K:Slc->Ub} (h:ScM w base g F S) (hx:Bx w bs br bw g r wd) (hl:Rd zD w l xs) (hlen:xs.length<=10000)
  (hK:∀s w',Go.Vc.Own zD w' w.heap.size s (S.putL r wd xs)->Uc w w'->K s w') :
  j7 C (.func (.func yY) #[] #[.pointer (some ⟨bs,0,none⟩),.pointer (some ⟨bw,0,none⟩),.pointer (some ⟨br,0,none⟩)]) [.slice l.a l.n l.c] [Kind.slice] w K:=by
 have y:Vo l ⟨bs,0,none⟩ ⟨bw,0,none⟩ ⟨br,0,none⟩ w K:=by
  refine qfw _ _ _ _ ?_;refine jpO λz o=>?_;have i:∀s d,Rd zD d s (if S.mode 4 then qj9 xs S.c.Col wd S.c.A else xs)->Uc w d->z (s,()) d:=by
   intro s d B b;refine o _ _ ?_;have u:=(h.ext b).drew;have k:=(hx.ext b).ext (zH d);refine qS (x:=some ⟨g,0,none⟩) (by simpa using k.s.cells 0 _ rfl) ?_;simp only [onPtr_some];refine lI (x:=S.c.Col) (by simp only [qC];exact u.blk.cell 4 rfl) ?_;refine lI (x:=r) (by simpa using k.r.cells 0 _ rfl) (lI (x:=wd) (by simpa using k.w.cells 0 _ rfl) ?_);refine qS (x:=some ⟨g,0,none⟩) (by simpa using k.s.cells 0 _ rfl) ?_;simp only [onPtr_some];refine qz (r:=qA.rep) (x:=S.c.A) (q1f u) ?_;refine q9y (B.ext (zH d)) (by split;rw [qwo];exact hlen;exact hlen) λt m p f=>?_;have j:Uc w m:=zM (zM b (zH d)) f;exact hK t m (p.base (zM b (zH d)).size) j
  refine qS (x:=some ⟨g,0,none⟩) (by simpa using hx.s.cells 0 _ rfl) ?_;simp only [onPtr_some];refine km (x:=some F.mm) (h.blk.cells 35 _ rfl) (qoy h.mo ?_);have v:=h.drew;have q:=hx.ext (zH w);show cond (S.mode 4) _ _;cases hm:S.mode 4
  ·exact i l w (by rw [hm];exact hl) (Below.refl _ _)
  ·refine cT rfl ?_;refine qS (x:=some ⟨g,0,none⟩) (by simpa using q.s.cells 0 _ rfl) ?_;simp only [onPtr_some];refine lI (x:=S.c.Col) (by simp only [qC];exact v.blk.cell 4 rfl) ?_;refine lI (x:=wd) (by simpa using q.w.cells 0 _ rfl) ?_;refine qS (x:=some ⟨g,0,none⟩) (by simpa using q.s.cells 0 _ rfl) ?_;simp only [onPtr_some];refine qz (r:=qA.rep) (x:=S.c.A) (q1f v) ?_;refine q9n (hl.ext (zH w)) hlen λt m p f=>?_;exact i t m (by rw [hm];exact p.rd) (zM (zH w) f)
 refine callR_plain q98 (Calls.mono y ?_);rintro e w' ⟨t,rfl,D⟩;exact ⟨t,rfl,D⟩
end
section
variable {w0 w w':World} {base g bs br bw:Nat} {F0 F F':ScF} {S S':Sc} {r wd:Int}
theorem q8u {K:Ub} (h:ScM w base g F S) (hK:∀F' w',ScT base g w F F' (S.lay r) w'->K w'):yr (some ⟨g,0,none⟩) r w K:=by
 refine qj4 _ _ ?_;refine nwb λw1 aw ax z1=>nwb λw2 aj ak z2=>?_;refine lI (x:=r) (by simpa using aj.cells 0 _ rfl) (zb4 λw3 H=>?_);refine nwb λw4 ay T z4=>qh2 ay rfl λw5 al U z5=>?_;have z3:=H.size;have aa:Uc w w4:=zM (zM (zM ax ak) H) T;have ab:Uc w w5:=ki aa U (by omega);have az:=((aw.ext ak).ext H).ext T;have a1:=(aj.ext H).ext T;obtain ⟨a,V⟩:∃a,a=qdq r:=⟨_,rfl⟩;rw [<-V] at al;have a2:Bx w5 w.heap.size w1.heap.size w3.heap.size g r a:=⟨az.chg U (by omega),a1.chg U (by omega),al⟩;have a3:ScT base g w F F S w5:=ScT.of_ext h ab;have L5:LayS base g w F w.heap.size w1.heap.size w3.heap.size r a F S w5:=⟨a3,a2,λk hk=>by have:=(h.below k hk).2;omega⟩;refine qS (x:=some ⟨g,0,none⟩) (by simpa using L5.bx.s.cells 0 _ rfl) ?_;refine qrh L5.t.m ?_;have R:=L5.drew.drew;generalize w5.drew.drew=w6 at R ⊢;clear L5 a3 a2 az a1 al U T ay aj aw ax ak H aa ab;refine lI (x:=a) (by simpa using R.bx.w.cells 0 _ rfl) ?_;unfold Sc.lay at hK;rw [<-V] at hK;refine cO (λe=>?_) λe=>?_
 ·have e:a=0:=eq_of_beq e;rw [if_pos e] at hK;exact hK F w6 R.t
 have e:¬a=0:=beq_eq_false_iff_ne.1 e;rw [if_neg e] at hK;have a4:=zi8 (r:=r) (by rw [<-V];exact e);have a5:1<=a/\a<=2:=by
  rcases zgq r with h1 | h1 | h1
  ·exact absurd (V.trans h1) e
  ·omega
  ·omega
 refine qS (x:=some ⟨g,0,none⟩) (by simpa using R.bx.s.cells 0 _ rfl) ?_;refine lI (x:=r) (by simpa using R.bx.r.cells 0 _ rfl) ?_;simp only [onPtr_some];rw [qC];refine qD R.t.m.blk (by simp [qE.rep]) λw7 a6 a7 bn=>?_;obtain ⟨I,W⟩:∃I:Sc,I={ S with char:=r }:=⟨_,rfl⟩;have a8:ScT base g w6 F F I w7:=by
  rw [W];exact ScT.mk_struct R.t.m (Chg.gg a7) a6 rfl rfl rfl rfl rfl rfl (R.t.m.ok.char r)
 have L7:=R.step a8;have D:I.g.cols=S.g.cols:=by rw [W];rfl
 have bo:I.pmode 7=S.pmode 7:=by rw [W];rfl
 rw [<-W] at hK;obtain ⟨d,J⟩:∃d,d=S.pmode 7:=⟨_,rfl⟩;rw [<-J] at hK;clear a6 a7 bn a8 R;refine qS (x:=some ⟨g,0,none⟩) (by simpa using L7.bx.s.cells 0 _ rfl) ?_;simp only [onPtr_some];refine km (x:=some F.mp) (by rw [qC];exact L7.t.m.blk.cell 36 rfl) (qoy L7.t.m.pr ?_);rw [show (zy I.priv 7).getD false=d by rw [J,<-bo];rfl];obtain ⟨Sx,z⟩:∃Sx,Sx=I.layX d:=⟨_,rfl⟩;rw [<-z] at hK;unfold Sc.layX at z;unfold Sc.layY at hK;have a9:=L7.t.m.ok;have bp:Sx.g.cols=S.g.cols:=by
  rw [z];split
  ·rw [(q3g a9).1,D]
  ·exact D
 have b7:=h.ok.bnd;refine jpO λJ1 bq=>?_;have E:∀F1 w9,LayS base g w F w.heap.size w1.heap.size w3.heap.size r a F1 Sx w9->J1 () w9:=by
  intro F1 w9 L9;refine bq _ _ ?_;refine qS (x:=some ⟨g,0,none⟩) (by simpa using L9.bx.s.cells 0 _ rfl) ?_;simp only [onPtr_some];rw [qC,qC];refine qD L9.t.m.blk (by simp [qE.rep]) λb8 ac ad ba=>?_;have am:=L9.step (ScT.dry L9.t.m ac ad);clear ac ad ba L9;obtain ⟨G,an⟩:∃G,G=Sx.dry:=⟨_,rfl⟩;rw [<-an] at am hK;have X:G.g.cols=S.g.cols:=by rw [an];exact bp
  refine jpO λJ2 br=>?_;have q:∀(p:Sc) F2 ao,LayS base g w F w.heap.size w1.heap.size w3.heap.size r a F2 p ao->p.g.cols=S.g.cols->p.c.Wrap=false->(∀F' w',ScT base g w F F' (p.laid r a d) w'->K w')->J2 () ao:=by
   intro p F2 ao ap bs b2 M;refine br _ _ ?_;have o:=ap.drew;refine qS (x:=some ⟨g,0,none⟩) (by simpa using o.bx.s.cells 0 _ rfl) (qS (x:=some ⟨g,0,none⟩) (by simpa using o.bx.s.cells 0 _ rfl) ?_);simp only [onPtr_some];refine lI (x:=p.c.Row) (by simp only [qC];exact o.t.m.blk.cell 3 rfl) ?_;refine qsp o.t.m ?_;have n:=o.drew;refine ⟨by simp only [qC];exact n.t.m.blk.cell 3 rfl,by simpa using n.bx.s.cells 0 _ rfl,?_⟩;have N:=ap.t.m.ok;refine q88 (f:=p.putL r a) n.t.m N.rowg (zgs p r a) (q9j p a4 a) (λl xs K' hl bb hk=>?_) λF4 bt ae=>?_
   ·exact zed n.drew.t.m n.drew.bx hl bb hk
   have aq:=n.step ae;have bc:p.withG { p.g with L:=p.g.L.set p.c.Row.toNat (ZF (p.putL r a (p.g.L.getD p.c.Row.toNat [])) p.g.cols) }=p.change (p.putL r a):=by
    unfold Sc.change;rw [if_pos N.rowg]
   rw [bc] at aq;clear ae ap o n bc;obtain ⟨y,ar⟩:∃y,y=p.change (p.putL r a):=⟨_,rfl⟩;rw [<-ar] at aq;have bu:y.c=p.c:=by rw [ar];exact q7x _ _
   have j:=aq.drew;refine qS (x:=some ⟨g,0,none⟩) (by simpa using j.bx.s.cells 0 _ rfl) ?_;simp only [onPtr_some];refine lI (x:=y.c.Col) (by simp only [qC];exact j.t.m.blk.cell 4 rfl) ?_;refine lI (x:=a) (by simpa using j.bx.w.cells 0 _ rfl) ?_;rw [qC,qC];refine qD j.t.m.blk (by simp [qE.rep]) λA u bd b3=>?_;have O:=Chg.gg bd;have be:Bx A w.heap.size w1.heap.size w3.heap.size g r a:=j.bx.chg O (λe=>(j.ne g (.inl rfl)).1 e.symm) (λe=>(j.ne g (.inl rfl)).2.1 e.symm) (λe=>(j.ne g (.inl rfl)).2.2 e.symm);have u:Blk A g zL (qE.rep.cells (scX F4 (y.setCol (w64 (y.c.Col+a))))):=u;refine qS (x:=some ⟨g,0,none⟩) (by simpa using be.s.cells 0 _ rfl) ?_;simp only [onPtr_some];refine lI (x:=w64 (y.c.Col+a)) (by exact u.cell 4 rfl) ?_;have v:=N.laid a4 a5 d;have au:p.laid r a d=(if w64 (y.c.Col+a)>=(S.g.cols:Int) then { y.setCol (w64 (y.c.Col+a)) with c:={ (y.setCol (w64 (y.c.Col+a))).c with Col:=w64 ((S.g.cols:Int)-1),Wrap:=d } } else y.setCol (w64 (y.c.Col+a))):=by
    unfold Sc.laid;dsimp only;rw [<-ar,<-bu,bs];rfl
   rw [au] at M v;refine cO (λB=>?_) λB=>?_
   ·have B:w64 (y.c.Col+a)>=(S.g.cols:Int):=oTq B;rw [if_pos B] at M v;have xd:=be.ext (zH A);refine qS (x:=some ⟨g,0,none⟩) (by simpa using xd.s.cells 0 _ rfl) (qS (x:=some ⟨g,0,none⟩) (by simpa using xd.s.cells 0 _ rfl) ?_);simp only [onPtr_some];rw [qC,qC];refine qD u.drew (by simp [qE.rep]) λb9 bf bg b4=>?_;have af:=Chg.gg bg;have bv:=xd.chg af (λe=>(j.ne g (.inl rfl)).1 e.symm) (λe=>(j.ne g (.inl rfl)).2.1 e.symm) (λe=>(j.ne g (.inl rfl)).2.2 e.symm);refine ⟨by simpa using bv.s.cells 0 _ rfl,?_⟩;rw [qC];refine qD bf (by simp [qE.rep,putL]) λY bh bi b5=>?_;have bw:Chg (λk=>k=g) A A.drew:=Chg.of_ext (zH A);have bj:Chg (λk=>k=g) bt.drew Y:=((O.trans bw λi _ hi=>hi).trans af λi _ hi=>hi).trans (Chg.gg bi) λi _ hi=>hi;exact M F4 Y (j.t.trans (ScT.mk_struct j.t.m bj bh rfl rfl rfl rfl rfl rfl v))
   ·have B:¬w64 (y.c.Col+a)>=(S.g.cols:Int):=oFq B;rw [if_neg B] at M v;exact M F4 A (j.t.trans (ScT.mk_struct j.t.m O u rfl rfl rfl rfl rfl rfl v))
  have o:=am.drew;refine qS (x:=some ⟨g,0,none⟩) (by simpa using o.bx.s.cells 0 _ rfl) ?_;simp only [onPtr_some];refine lI (x:=G.c.Col) (by simp only [qC];exact o.t.m.blk.cell 4 rfl) ?_;refine lI (x:=a) (by simpa using o.bx.w.cells 0 _ rfl) ?_;have ah:G.c.Wrap=false:=by rw [an];rfl
  refine cO (λB=>?_) λB=>?_
  ·have B:w64 (G.c.Col+a)>(S.g.cols:Int):=oTq B;rw [if_pos B] at hK;refine lI (x:=a) (by simpa using o.bx.w.cells 0 _ rfl) ?_;refine cO (λe3=>?_) λe3=>?_
   ·have e3:a>(S.g.cols:Int):=oTq e3;rw [if_pos e3] at hK;exact hK F1 _ o.t
   ·have e3:¬a>(S.g.cols:Int):=oFq e3;rw [if_neg e3] at hK;cases hwv:d
    ·rw [hwv] at hK q;rw [if_neg (by decide)] at hK;refine cF rfl ?_;refine qS (x:=some ⟨g,0,none⟩) (by simpa using o.bx.s.cells 0 _ rfl) ?_;refine lI (x:=a) (by simpa using o.bx.w.cells 0 _ rfl) ?_;simp only [onPtr_some];rw [qC,qC];refine qD o.t.m.blk (by simp [qE.rep]) λca bk bl b6=>?_;have ew:w64 ((S.g.cols:Int)-a)=(S.g.cols:Int)-a:=q0a (by omega);have bm:ScOk (G.setCol (w64 ((S.g.cols:Int)-a))):=o.t.m.ok.setCol (by rw [ew,X];omega);have bz:=o.step (ScT.mk_struct o.t.m (Chg.gg bl) (S':=G.setCol (w64 ((S.g.cols:Int)-a))) bk rfl rfl rfl rfl rfl rfl bm);exact q _ _ _ bz X ah hK
    ·rw [hwv] at hK q;rw [if_pos rfl] at hK;refine cT rfl ?_;have n:=o.drew;refine qS (x:=some ⟨g,0,none⟩) (by simpa using n.bx.s.cells 0 _ rfl) (qS (x:=some ⟨g,0,none⟩) (by simpa using n.bx.s.cells 0 _ rfl) ?_);simp only [onPtr_some];refine lI (x:=G.c.Row) (by simp only [qC];exact n.t.m.blk.cell 3 rfl) ?_;refine qsu n.t.m λY P=>?_;have C:=n.step P;refine qS (x:=some ⟨g,0,none⟩) (by simpa using C.bx.s.cells 0 _ rfl) ?_;refine qsb C.t.m λF5 b0 Q=>?_;have av:=C.step Q;have hn:=q3g am.t.m.ok;refine q G.next _ _ av (hn.1.trans X) ?_ hK;unfold Sc.next Sc.index;split
     ·show (Sc.scroll _ _ _ _).c.Wrap=false;unfold Sc.scroll;rw [zc9];rfl
     ·rfl
  ·have B:¬w64 (G.c.Col+a)>(S.g.cols:Int):=oFq B;rw [if_neg B] at hK;exact q G _ _ o X ah hK
 refine jpO λJ3 b1=>?_;refine qS (x:=some ⟨g,0,none⟩) (by simpa using L7.bx.s.cells 0 _ rfl) ?_;simp only [onPtr_some];refine jw (x:=I.c.Wrap) (by simp only [qC];exact L7.t.m.blk.cell 5 rfl) ?_;have ai:∀b:Bool,(b=true↔I.c.Wrap=true/\d=true)->J3 (b,()) w7:=by
  intro b hb;refine b1 _ _ ?_;refine cO (λe=>?_) λe=>?_
  ·have e:=hb.1 e;rw [if_pos e] at z;have o:=L7.drew;refine qS (x:=some ⟨g,0,none⟩) (by simpa using o.bx.s.cells 0 _ rfl) (qS (x:=some ⟨g,0,none⟩) (by simpa using o.bx.s.cells 0 _ rfl) ?_);simp only [onPtr_some];refine lI (x:=I.c.Row) (by simp only [qC];exact o.t.m.blk.cell 3 rfl) ?_;refine qsu o.t.m λY P=>?_;have C:=o.step P;refine qS (x:=some ⟨g,0,none⟩) (by simpa using C.bx.s.cells 0 _ rfl) ?_;refine qsb C.t.m λF5 b0 Q=>?_;have av:=C.step Q;rw [z] at E;exact E _ _ av
  ·have e:¬(I.c.Wrap=true/\d=true):=λZ=>by rw [hb.2 Z] at e;cases e
   rw [if_neg e] at z;rw [z] at E;exact E _ _ L7
 refine cO (λe=>ai _ ?_) λe=>ai _ ?_
 ·exact ⟨λZ=>⟨e,Z⟩,λZ=>Z.2⟩
 ·exact ⟨(λZ=>by cases Z),λZ=>absurd Z.1 (by rw [e];decide)⟩
theorem zfq (h:ScM w base g F S) {K:Int->Prop} (hK:K (S.set2 S.c.Shift)):ixA (((⟨g,0,none⟩:Addr).add 3).add 7) 2 S.c.Shift 1 λt=>ldI .u8 t w K:=by
 have a:=h.ok.shift;unfold Sc.set2 at hK;rcases a with e | e
 ·rw [e] at hK ⊢;exact ⟨⟨by decide,by decide⟩,lI (x:=S.c.Sets.e0) (by simp only [qC];exact h.blk.cell 10 rfl) hK⟩
 ·rw [e] at hK ⊢;exact ⟨⟨by decide,by decide⟩,lI (x:=S.c.Sets.e1) (by simp only [qC];exact h.blk.cell 11 rfl) hK⟩
theorem zaz {K:Ub} (h:ScM w base g F S) (hK:∀F' w',ScT base g w F F' (S.print r) w'->K w'):Qv (some ⟨g,0,none⟩) r w K:=by
 refine qf4 _ _ ?_;simp only [onPtr_some];refine jpO λo f=>?_;unfold Sc.print at hK;have d:∀b:Bool,(b=true↔0<=r/\r<128)->o (b,()) w:=by
  intro b k;refine f _ _ ?_;refine cO (λe=>?_) λe=>?_
  ·have e:=k.1 e;rw [if_pos e] at hK;have i:=(ScT.refl h).drew;refine lI (x:=S.c.Shift) (by simp only [qC];exact i.m.blk.cell 12 rfl) (zfq i.m ?_);obtain ⟨n,rfl⟩:∃n:Nat,r=n:=⟨r.toNat,by omega⟩;rw [show IntKind.u8.wrap (n:Int)=n from xN .u8 (by show _<2^8;omega)];refine q42 (by omega) λq j=>?_;have l:=i.ext j;exact q8u l.m λF' w' p=>hK F' w' (l.trans p)
  ·have e:¬(0<=r/\r<128):=λa=>by rw [k.2 a] at e;cases e
   rw [if_neg e] at hK;exact q8u h hK
 refine cO (λe=>d _ ?_) λe=>d _ ?_
 ·have e:r>=0:=oTq e;exact ⟨λa=>⟨e,oTq a⟩,λa=>dTq a.2⟩
 ·have e:¬r>=0:=oFq e;exact ⟨(λa=>by cases a),λa=>absurd a.1 e⟩
end
section
variable {w w':World} {base g:Nat} {F F':ScF} {S S':Sc}
theorem qu0 {r:Nat} {L:List (Int×Bool)} (h:jf q1d w r L) {n:Int} (hn:-9223372036854775808<=n/\n<=9223372036854775807) {b:Bool} {K:Option Value->Ub}
  (hK:∀w',jf q1d w' r (kD L n b)->Chg (λk=>k=r) w w'->w'.heap.size=w.heap.size->K none w'):qma PG (Instr.mapUpdate zp (.map (some r)) (Ua n) (.bool b)) w K:=by
 obtain ⟨w',a,c,d,e⟩:=h.update zc8 zdq hn b;exact ⟨w',a,hK w' c d e⟩
theorem ScOk.areas (h:ScOk S) (l:List jz):ScOk { S with areas:=l }:=⟨h.g0,h.g1,h.rows,h.cols,h.row,h.col,h.shift,h.sh0,h.sh1,h.top,h.marg,h.stops⟩
end
end Go.Proofs.YtjhgepnpnapnoaaGreatDoor
