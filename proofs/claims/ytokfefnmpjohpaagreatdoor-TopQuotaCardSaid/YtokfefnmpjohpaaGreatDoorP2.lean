import Derived.Test.YtokfefnmpjohpaaGreatDoorP1
import Derived.Lib.Builder
import Derived.Lib.UnsafeStr
import Derived.Laws.Externs
import Derived.Laws.BytesArg
import Derived.MapKept
import Derived.Maps.Own
import Derived.Shelf.SlIterI.Nil
import Derived.Shelf.SortM.Plain
import Derived.Shelf.SortM.SortNone
import Derived.RangeFuncBox
import Derived.RangeFuncLeaves
import Derived.RangeFuncFrom
import Derived.RangeFuncWrites
import Derived.Shelf.Abstract
import Derived.WalkKit
import Derived.OwnWalkIn
import Derived.TacticsInMore
import Derived.LoopNIn
import Derived.LoopIn
import Derived.BigFrameIn
import Derived.BigRegionIn
import Derived.BigGuardIn
import Derived.BigGuardPartIn
import Derived.Scope
set_option linter.unusedVariables false
namespace Go.Proofs.YtokfefnmpjohpaaGreatDoor
open Go.Vc Go.RowKit
open IntKind (i64)
open _root_.List (length_append length_cons length_nil)
open _root_.Nat (le_refl)
def QQ (l:List UInt8):ByteArray:=⟨l.toArray⟩
theorem Yf (l:List UInt8):(QQ l).toList=l:=by rw [ByteArray.toList_eq];rfl
theorem XG (l:List UInt8):(QQ l).size=l.length:=by simp [QQ,ByteArray.size]
theorem qwj (l:List UInt8) (n:Nat):(QQ l).extract 0 n=QQ (l.take n):=by
 apply ByteArray.ext;rw [ByteArray.data_extract];simp [QQ]
def Bld (w:World) (g base:Nat) (bs:List UInt8):Prop :=
 ∃(p:Option Addr) (s:Slc),Blk w g ze [.pointer p,.slice s.a s.n s.c]/\(p=none\/p=some ⟨g,0,none⟩)/\Go.Vc.Own Xx w base s bs/\base<=g
def qv1 (w:World) (g base:Nat) (k:Nat):Prop:=base<=k/\(k=g\/∃cs,Blk w k qN cs)
theorem qpz {w:World} {g:Nat} {t:TypeId} {vs:List Value} (h:Blk w g t vs):w.shape? g=some (t,vs.length):=by
 unfold Blk at h;simp [World.shape?,h]
theorem qjv {g:Nat} {p:Option Addr} {s:Slc} {w:World} {K:Ub} (hb:Blk w g ze [.pointer p,.slice s.a s.n s.c]) (hp:p=none\/p=some ⟨g,0,none⟩)
  (hK:∀w',Blk w' g ze [.pointer (some ⟨g,0,none⟩),.slice s.a s.n s.c]->Chg (λk=>k=g) w w'->w'.heap.size=w.heap.size->K w'):jH (some ⟨g,0,none⟩) w K:=by
 refine XB _ ?_;refine qK (x:=p) (hb.cells 0 _ rfl) ?_;have hsh:=qpz hb;rcases hp with rfl | rfl
 ·dsimp only [Option.isNone_none,cond_true];refine ⟨some ⟨g,0,none⟩,w,?_,?_⟩
  ·exact Lib.run_to_unsafe w ⟨g,0,none⟩ (t:=ze) (j:=(PG.info? ze).getD default) (by kernel_rfl) (by kernel_rfl) (by kernel_rfl) (by rw [show ((PG.info? ze).getD default).size=2 by kernel_rfl];decide) hsh (by simp)
  refine ⟨some ⟨g,0,none⟩,w,?_,?_⟩
  ·rw [run_callFunc_extern Tryz.func142 (by kernel_rfl) (by kernel_rfl) (by kernel_rfl) (e:=Extern.AbiNoEscape.same) (by kernel_rfl)];show ((Extern.AbiNoEscape.same #[_]).run PG w).andThen _=_;rw [Lib.run_noEscape];rfl
  refine ⟨some ⟨g,0,none⟩,w,?_,?_⟩
  ·exact Lib.run_from_unsafe w ⟨g,0,none⟩ (u:=ze) (j:=(PG.info? ze).getD default) (by kernel_rfl) (by kernel_rfl) (by kernel_rfl) hsh (by kernel_rfl)
  show stK ((⟨g,0,none⟩:Addr).add 0) _ w _;rw [add_zero];exact qw hb (by simp) λw' hb' hg' hs'=>hK w' hb' (Chg.of_grown hg' λk hk=>by cases hk;rfl) hs'
 ·dsimp only [Option.isNone_some,cond_false];refine qK (x:=some ⟨g,0,none⟩) (hb.cells 0 _ rfl) ?_;refine ⟨λa b ha hb=>by cases ha;cases hb;rfl,?_⟩;rw [dTq rfl];exact hK w hb (Chg.refl _ _) rfl
theorem qgx {w:World} {g base:Nat} {s:Slc} {bs:List UInt8} {vs:List Value} (ho:Go.Vc.Own Xx w base s bs) (hb:Blk w g ze vs):∀k,s.blk=some k->k≠g:=by
 intro k hk;obtain ⟨cs,hcs⟩:=ho.blk_t hk;exact hcs.ne_t hb (by decide)
theorem q7r {w w1 w2:World} {g base:Nat} {s r:Slc} {bs cs:List UInt8} {K:Ub} (hb:Blk w1 g ze [.pointer (some ⟨g,0,none⟩),.slice s.a s.n s.c]) (ho:Go.Vc.Own Xx w1 base s bs) (hg:base<=g)
  (hch:Chg (qv1 w g base) w w1) (ho2:Go.Vc.Own Xx w2 base r (bs++cs)) (hg2:w1.grownBy w2 s.blk) (hsb:∀k,s.blk=some k->k<w.heap.size->qv1 w g base k)
  (hK:∀w',Bld w' g base (bs++cs)->Chg (qv1 w g base) w w'->K w'):stK ((⟨g,0,none⟩:Addr).add 1) [.slice r.a r.n r.c] w2 K:=by
 have hb2:Blk w2 g ze [.pointer (some ⟨g,0,none⟩),.slice s.a s.n s.c]:=hb.grown hg2 λe=>qgx ho hb g e.symm rfl;refine qw hb2 (by simp) λw3 hb3 hg3 hs3=>hK w3 ⟨some ⟨g,0,none⟩,r,hb3,.inr rfl,?_,hg⟩ ?_
 ·exact ho2.kept hg3 (by
   cases hr:r.blk with
   | none=>exact .inl rfl
   | some k=>exact .inr λe=>qgx ho2 hb2 k hr (Option.some.inj e))
 ·refine (hch.trans (S':=λk=>s.blk=some k) (Chg.of_grown hg2 λk hk=>hk) λi hi hs=>hsb i hs hi).trans (S':=λk=>k=g) (Chg.of_grown hg3 λk hk=>by cases hk;rfl) λi hi e=>?_;exact ⟨by omega,.inl e⟩
theorem qta {g base:Nat} {bs:List UInt8} {c:Int} {w:World} {K:Value->Ub} (h:Bld w g base bs) (hl:bs.length<=1000000) (hc:0<=c/\c<256)
  (hK:∀w',Bld w' g base (bs++[u8 c])->Chg (qv1 w g base) w w'->K .nilIface w'):xB (some ⟨g,0,none⟩) c w K:=by
 obtain ⟨p,s,hb,hp,ho,hg⟩:=h;refine XJ _ _ ?_;refine qjv hb hp λw1 hb1 hc1 hs1=>?_;simp only [onPtr_some];refine lSl (x:=s) (hb1.cells 1 _ rfl) ?_;have ho1:Go.Vc.Own Xx w1 base s bs:=ho.chg hc1 (qgx ho hb);refine nwb λw2 hb2 hB2 hs2=>?_;have hx:Rd Xx w2 ⟨some ⟨w1.heap.size,0,none⟩,1,1⟩ [u8 c]:=by
  refine yg (E:=Xx) hb2 ?_;show [Value.int .u8 ((u8 c).toNat:Int)]=_;rw [qtx hc.1 hc.2]
 refine jx q3e (ho1.ext hB2) hx (by have:=hb.lt;omega) (by rw [zej];simp only [length_cons,length_nil];omega) (by simp only [maxLen,length_cons,length_nil];omega) λr w3 ho3 hg3 hr3=>?_;refine q7r (w:=w) (w1:=w2) (hb1.ext hB2) (ho1.ext hB2) hg ?_ ho3 hg3 (λk hk hkl=>?_) λw4 h4 hc4=>hK w4 h4 hc4
 ·exact (hc1.mono (S':=qv1 w g base) λi hi e=>⟨by omega,.inl e⟩).trans (Chg.of_ext (S:=λ_=>False) hB2) λi hi e=>e.elim
 ·exact ⟨(ho.lt k hk).1,.inr (ho.blk_t hk)⟩
theorem qyx {g base:Nat} {bs cs:List UInt8} {p:Slc} {w:World} {K:Int->Value->Ub} (h:Bld w g base bs) (hp:Rd Xx w p cs) (hpb:∀a,p.a=some a->¬a.block=g) (hl:bs.length<=1000000) (hl':cs.length<=1000000)
  (hK:∀n w',Bld w' g base (bs++cs)->Chg (qv1 w g base) w w'->K n .nilIface w'):vg (some ⟨g,0,none⟩) p w K:=by
 obtain ⟨q,s,hb,hq,ho,hg⟩:=h;refine Y5 _ _ ?_;refine qjv hb hq λw1 hb1 hc1 hs1=>?_;simp only [onPtr_some];refine lSl (x:=s) (hb1.cells 1 _ rfl) ?_;have ho1:Go.Vc.Own Xx w1 base s bs:=ho.chg hc1 (qgx ho hb);refine jx q3e ho1 (hp.chg hc1 hpb) (by have:=hb.lt;omega) (by rw [zej];omega) (by simp only [maxLen];omega) λr w3 ho3 hg3 hr3=>?_;refine q7r (w:=w) (w1:=w1) hb1 ho1 hg ?_ ho3 hg3 (λk hk hkl=>?_) λw4 h4 hc4=>hK _ w4 h4 hc4
 ·exact hc1.mono (S':=qv1 w g base) λi hi e=>⟨by omega,.inl e⟩
 ·exact ⟨(ho.lt k hk).1,.inr (ho.blk_t hk)⟩
theorem q24 {g base:Nat} {bs:List UInt8} {w:World} {K:ByteArray->Ub} (h:Bld w g base bs) (hl:bs.length<=1000000)
  (hK:∀w',Chg (qv1 w g base) w w'->K (QQ bs) w'):kI (some ⟨g,0,none⟩) w K:=by
 obtain ⟨p,s,hb,hp,ho,hg⟩:=h;refine Ya _ ?_;simp only [onPtr_some];refine lSl (x:=s) (hb.drew.cells 1 _ rfl) ?_;refine lSl (x:=s) (hb.drew.cells 1 _ rfl) ?_;rcases ho.form with ⟨rfl,rfl⟩ | ⟨g',cur,hs,hb',hblk,h1,h2,h3,h4⟩
 ·refine ⟨none,w.drew,Lib.run_unsafeSliceData_nil w.drew _ _ _ _,hb.drew.cells 1 _ rfl,QQ [],w.drew,?_,hK _ ⟨rfl,rfl,rfl,le_refl _,λ_ _ _=>rfl⟩⟩;exact Lib.run_unsafeString_none w.drew yH zd zo none
 ·have hsn:s.n=bs.length:=by rw [hs]
  have hsa:s.a=some ⟨g',0,none⟩:=by rw [hs]
  by_cases h0:bs=[]
  ·subst h0;by_cases hc:s.c=0
   ·have hcur:cur=[]:=List.eq_nil_of_length_eq_zero (by rw [h3,hc];simp);have hz:=Lib.run_unsafeSliceData_zero (P:=PG) w.drew #[qg] yH qN (by kernel_rfl) ⟨g',0,none⟩ s.n _ (qpz hblk.drew);rw [hsa,hc] at hb ⊢;refine ⟨_,_,hz,(hb.drew.alloc _).cells 1 _ rfl,QQ [],w.drew.alloc (.view ⟨g',0,none⟩ 5),?_,hK _ ?_⟩
    ·rw [hsn];exact Lib.run_unsafeString_none _ yH zd zo _
    ·exact Chg.of_ext ((Below.refl _ w).drew.alloc (le_refl _) _)
   ·refine ⟨some ⟨g',0,none⟩,w.drew,?_,hb.drew.cells 1 _ rfl,QQ [],w.drew,?_,hK _ ⟨rfl,rfl,rfl,le_refl _,λ_ _ _=>rfl⟩⟩
    ·rw [hsa];exact Lib.run_unsafeSliceData_row w.drew _ _ _ _ _ hc
    ·rw [hsn];exact Lib.run_unsafeString_none w.drew yH zd zo _
  ·have hlen:0<bs.length:=List.length_pos_iff.2 h0;have hc:s.c≠0:=by omega
   refine ⟨some ⟨g',0,none⟩,w.drew,?_,hb.drew.cells 1 _ rfl,QQ bs,w.drew.freeze ⟨g',0,none⟩ bs.length,?_,hK _ ?_⟩
   ·rw [hsa];exact Lib.run_unsafeSliceData_row w.drew _ _ _ _ _ hc
   ·rw [hsn];refine Lib.run_unsafeString_row w.drew yH zd zo 5 (by kernel_rfl) (by kernel_rfl) g' cur.length (qpz hblk.drew) bs h0 (by rw [h3];simp [Xx];omega) (by omega) λj x hj=>?_;have hr:=ho.drew.rd.at_ j x hj;have:=hr 0 (.int .u8 x.toNat) rfl;simp only [Slc.at_,hsa,Option.getD_some,add_zero] at this
    rwa [show j*Xx.k=j from Nat.mul_one j] at this
   ·unfold World.freeze;rw [if_neg (by omega)];refine ⟨rfl,rfl,rfl,by simp,λk hk hn=>?_⟩;have hne:g'≠k:=by
     rintro rfl;exact hn ⟨hb',.inr ⟨_,hblk⟩⟩
    show (w.heap.modify g' _)[k]?=w.heap[k]?;rw [Array.getElem?_modify,if_neg hne]
def ql6 (l:List UInt8):List UInt8:=(l.reverse.dropWhile (·==32)).reverse
theorem q3i (l:List UInt8):ql6 (l++[32])=ql6 l:=by simp [ql6]
theorem q4y (l:List UInt8) (b:UInt8) (h:b≠32):ql6 (l++[b])=l++[b]:=by
 have:(b==32)=false:=by simpa using h
 simp [ql6,this]
theorem qwb {l:List UInt8} {w:World} {K:ByteArray->Ub} (hl:l.length<=4611686018427387904) (hK:K (QQ (ql6 l)) w):vk (QQ l) 32 w K:=by
 refine Yz _ _ ?_;refine lpR (λ(s:ByteArray×Unit) w2=>∃m:List UInt8,s.1=QQ m/\ql6 m=ql6 l/\m.length<=l.length/\w2=w) (λs=>s.1.size) ⟨l,rfl,rfl,le_refl _,rfl⟩ ?_;rintro ⟨s,_⟩ w2 ⟨m,rfl,hm,hml,rfl⟩ I hI;dsimp only at *;refine jpO λJ hJ=>?_;rw [XG];refine cO (λh=>?_) (λh=>?_)
 ·have h:=oTq h;obtain ⟨r,b,rfl⟩:∃r b,m=r++[b]:=⟨m.dropLast,m.getLast (by intro e;subst e;simp at h),(List.dropLast_concat_getLast _).symm⟩;rw [length_append] at *;simp only [length_cons,length_nil] at *;rw [qP (by omega)];have hi:(((r.length+(0+1):Nat):Int)-1).toNat=r.length:=by omega
  refine ⟨⟨by omega,by rw [XG,length_append];simp;omega⟩,?_⟩;rw [hi];have hb:((QQ (r++[b])).data.getD r.length 0)=b:=by simp [QQ]
  rw [hb];refine cO (λe=>?_) (λe=>?_)
  ·have e:b=32:=by
    have e:=eq_of_beq e;have e:b.toNat=32:=Int.ofNat_inj.1 e;exact UInt8.toNat_inj.1 e
   subst e;refine hJ _ _ ?_;rw [XG,length_append];simp only [length_cons,length_nil];rw [qP (by omega)];refine ⟨⟨by omega,by rw [XG,length_append];simp;omega⟩,?_⟩;rw [hi];show I ((QQ (r++[32])).extract 0 r.length,()) w2;rw [qwj,List.take_left];refine hI _ _ ⟨r,rfl,by rw [<-hm,q3i],by omega,rfl⟩ (by simp [XG])
  ·have e:b≠32:=by
    have e:=beq_eq_false_iff_ne.1 e;rintro rfl;exact e rfl
   rw [<-hm,q4y r b e] at hK;exact hK
 ·have h:=oFq h;have:m=[]:=List.eq_nil_of_length_eq_zero (by omega);subst this;rw [<-hm] at hK;exact hK
theorem qui {l:List UInt8} {w:World} {K:ByteArray->Ub} (hl:l.length<=4611686018427387904) (hK:K (QQ (ql6 l)) w):Q5 (QQ l) (⟨#[32]⟩:ByteArray) w K:=by
 refine qew _ _ ?_;refine jpO λJ hJ=>?_;refine cO (λh=>?_) (λh=>?_)
 ·have h:=eq_of_beq h;rw [Yf] at h;have:l=[]:=by rw [h];exact Yf []
  subst this;exact hK
 ·refine cF (by rw [show ((⟨#[32]⟩:ByteArray)).toList=[32] from Yf [32],show ((⟨#[]⟩:ByteArray)).toList=[] from Yf []];rfl) ?_;refine hJ _ _ ?_;refine jpO λJ2 hJ2=>jpO λJ3 hJ3=>?_;refine cT rfl ?_;have hz:(0:Int)<(QQ [32]).size:=by rw [XG];decide
  refine ⟨⟨Int.le_refl _,hz⟩,?_⟩;refine hJ3 _ _ ?_;refine cT ?_ ⟨⟨Int.le_refl _,hz⟩,?_⟩
  ·kernel_rfl
  ·exact qwb hl hK
def xG (c:qO):List UInt8:=if c.Kind=2 then [] else if c.R=0 then [32] else qtu c.R
def zh1 (xs:List qO):List UInt8:=(jp xs).flatMap xG
def zf8 (xs:List qO):ByteArray:=QQ (ql6 (zh1 xs))
theorem qr1 (r:Int):(qtu r).length<=4:=q3q _
theorem qyy (c:qO):(xG c).length<=4:=by
 unfold xG;split
 ·simp
 ·split
  ·simp
  ·exact qr1 _
theorem qn7:∀ys:List qO,(ys.flatMap xG).length<=4*ys.length
 | []=>by simp
 | c::r=>by
  have h1:=qyy c;have h2:=qn7 r;rw [List.flatMap_cons,length_append,length_cons];omega
theorem q96 {l:Slc} {xs:List qO} {w:World} {K:ByteArray->Ub} (h:Rd zr w l xs) (hl:xs.length<=10000)
  (hK:∀w',Uc w w'->K (zf8 xs) w'):XD l w K:=by
 refine qkx _ ?_;refine nwb λw1 hb1 hB1 hs1=>?_;refine Yo (h.ext hB1) (by omega) λm w2 ho2 hB2=>?_;have hml:=ja xs;have hmn:m.n=xs.length:=by have:=ho2.rd.n;rwa [hml] at this
 have hbld:Bld w2 w.heap.size w.heap.size []:=⟨none,⟨none,0,0⟩,hb1.ext hB2,.inl rfl,Go.Vc.Own.nil _ _ _,le_refl _⟩;have hB02:Uc w w2:=hB1.trans (hB2.mono (by omega));have ho2:Go.Vc.Own zr w2 w.heap.size m (jp xs):=ho2.base (by omega);refine lpR (λ(s:Int×Unit) w3=>∃k:Nat,s.1=k/\k<=xs.length/\Go.Vc.Own zr w3 w.heap.size m (jp xs)/\Bld w3 w.heap.size w.heap.size (((jp xs).take k).flatMap xG)/\Uc w w3)
  (λs=>xs.length-s.1.toNat) ⟨0,rfl,by omega,ho2,by simpa using hbld,hB02⟩ ?_
 rintro ⟨i,_⟩ w3 ⟨k,rfl,hk,ho,hbl,hB⟩ I hI;dsimp only at *;have hblen:(((jp xs).take k).flatMap xG).length<=4*k:=by
  have:=qn7 ((jp xs).take k);rw [List.length_take] at this;omega
 have keepO:∀{a b:World},Go.Vc.Own zr a w.heap.size m (jp xs)->(∃vs,Blk a w.heap.size ze vs)->Chg (qv1 a w.heap.size w.heap.size) a b->Go.Vc.Own zr b w.heap.size m (jp xs):=by
  rintro a b ho ⟨vs,hv⟩ hc;refine ho.chg hc λg hg=>?_;rintro ⟨_,e | ⟨cs,hcs⟩⟩
  ·obtain ⟨cs,hcs⟩:=ho.blk_t hg;exact hcs.ne_t hv (by decide) e
  ·obtain ⟨cs',hcs'⟩:=ho.blk_t hg;exact hcs'.ne_t hcs (by decide) rfl
 have keepB:∀{a b:World},Uc w a->Chg (qv1 a w.heap.size w.heap.size) a b->Uc w b:=λhB hc=>
  hB.trans (hc.below hB.size λi hi hs=>by have:=hs.1;omega)
 refine cO (λhlt=>?_) (λhge=>?_)
 ·have hlt:=oTq hlt;rw [hmn] at hlt;have hkl:k<(jp xs).length:=by omega
  obtain ⟨x,hx,hxs⟩:=get_of hkl;have htake:((jp xs).take (k+1)).flatMap xG=((jp xs).take k).flatMap xG++xG x:=by
   rw [List.take_add_one,hx];simp
  have hwr:i64.wrap ((k:Int)+1)=(k:Int)+1:=qP (by omega);refine ho.rd.ix rfl (by omega) (by omega) λhc=>?_;rw [hxs] at hc;refine qx (x:=x) hc ?_;refine ko rfl λw5 hb5 hB5 hs5=>?_;have hB05:Uc w w5:=hB.trans (hB5.mono hB.size);have ho5:=ho.ext hB5;have hbl5:Bld w5 w.heap.size w.heap.size (((jp xs).take k).flatMap xG):=by
   obtain ⟨p,s,h1,h2,h3,h4⟩:=hbl;exact ⟨p,s,h1.ext hB5,h2,h3.ext hB5,h4⟩
  have hv5:∃vs,Blk w5 w.heap.size ze vs:=by obtain ⟨p,s,h1,_⟩:=hbl5;exact ⟨_,h1⟩
  have fin:∀{w6:World},Bld w6 w.heap.size w.heap.size (((jp xs).take k).flatMap xG++xG x)->Go.Vc.Own zr w6 w.heap.size m (jp xs)->Uc w w6->I (i64.wrap ((k:Int)+1),()) w6:=λhb6 ho6 hB6=>by
   rw [hwr];exact hI _ _ ⟨k+1,by simp,by omega,ho6,by rw [htake];exact hb6,hB6⟩ (by simp;omega)
  refine lI (hb5.cells 1 _ rfl) ?_;refine cO (λh2=>?_) (λh2=>?_)
  ·have h2:=eq_of_beq h2;have e:xG x=[]:=by rw [xG,if_pos h2]
   exact fin (by rw [e,List.append_nil];exact hbl5) ho5 hB05
  ·have h2:=beq_eq_false_iff_ne.1 h2;refine lI (hb5.cells 0 _ rfl) ?_;refine cO (λh0=>?_) (λh0=>?_)
   ·have h0:=eq_of_beq h0;have e:xG x=[32]:=by rw [xG,if_neg h2,if_pos h0]
    refine qta hbl5 (by omega) (by decide) λw6 hb6 hc6=>?_;exact fin (by rw [e];exact hb6) (keepO ho5 hv5 hc6) (keepB hB05 hc6)
   ·have h0:=beq_eq_false_iff_ne.1 h0;have e:xG x=qtu x.R:=by rw [xG,if_neg h2,if_neg h0]
    refine lI (hb5.cells 0 _ rfl) ?_;refine nwb λw7 hb7 hB7 hs7=>?_;have hr7:Rd zdg w7 ⟨some ⟨w5.heap.size,0,none⟩,1,1⟩ [x.R]:=yg (E:=zdg) hb7 rfl;refine q22 hr7 (by simp) λr w8 ho8 hB8=>?_;have hB58:Uc w5 w8:=hB7.trans (hB8.mono (by omega));have hbl8:Bld w8 w.heap.size w.heap.size (((jp xs).take k).flatMap xG):=by
     obtain ⟨p,s,h1,h2,h3,h4⟩:=hbl5;exact ⟨p,s,h1.ext hB58,h2,h3.ext hB58,h4⟩
    have hv8:∃vs,Blk w8 w.heap.size ze vs:=by obtain ⟨p,s,h1,_⟩:=hbl8;exact ⟨_,h1⟩
    have hrd:Rd Xx w8 r (qtu x.R):=by have:=ho8.rd;simpa using this
    have hne:∀a,r.a=some a->¬a.block=w.heap.size:=by
     intro a ha e;have:=(ho8.lt a.block (by simp [Slc.blk,ha])).1;have h1:=hB05.size;obtain ⟨vs,hv⟩:=hv5;have:=hv.lt;omega
    have:=qr1 x.R;refine qyx hbl8 hrd hne (by omega) (by omega) λn w9 hb9 hc9=>?_;exact fin (by rw [e];exact hb9) (keepO (ho5.ext hB58) hv8 hc9) (keepB (hB05.trans (hB58.mono hB05.size)) hc9)
 ·have hge:=oFq hge;rw [hmn] at hge;have:k=xs.length:=by omega
  subst this;rw [<-hml,List.take_length] at hbl hblen;refine q24 hbl (by omega) λw4 hc4=>?_;refine qui (by omega) ?_;exact hK w4 (keepB hB hc4)
def okR (xs:List qO):Prop:=∀c∈xs,-9223372036854775808<=c.R/\c.R<=9223372036854775807
theorem QO {xs:List qO} (h:okR xs):okR (jp xs):=by
 intro c hc;obtain ⟨i,hi⟩:=List.getElem?_of_mem hc;have hlt:i<xs.length:=by have:=(List.getElem?_eq_some_iff.1 hi).1;rwa [ja] at this
 obtain ⟨x,hx,_⟩:=get_of hlt;rw [Yq xs i x hx] at hi;cases hi;have:=h x (List.mem_of_getElem? hx);unfold V5;split
 ·exact this
 ·split
  ·exact ⟨show (-9223372036854775808:Int)<=0 by decide,show (0:Int)<=9223372036854775807 by decide⟩
  ·split
   ·exact ⟨show (-9223372036854775808:Int)<=0 by decide,show (0:Int)<=9223372036854775807 by decide⟩
   ·exact this
theorem q7q {xs:List qO} {i:Nat} {k:Int}:isB xs i k=true↔∃y,xs[i]?=some y/\y.Kind=k:=by
 unfold isB;rw [Bool.and_eq_true,Bool.and_eq_true,decide_eq_true_iff,decide_eq_true_iff,beq_iff_eq];constructor
 ·rintro ⟨⟨_,h⟩,e⟩;have hl:i<xs.length:=by omega
  refine ⟨xs[i],List.getElem?_eq_getElem hl,?_⟩;rw [qgu (List.getElem?_eq_getElem hl)] at e;exact e
 ·rintro ⟨y,hy,e⟩;have:=(List.getElem?_eq_some_iff.1 hy).1;exact ⟨⟨by omega,by omega⟩,by rw [qgu hy,e]⟩
theorem QM {xs:List qO} {k:Nat} {x:qO} (hx:xs[k]?=some x) :
  Xz xs k=true↔x.Kind=0\/(x.Kind=1/\∃y,xs[k+1]?=some y/\y.Kind=2)\/(x.Kind=2/\1<=k/\∃y,xs[k-1]?=some y/\y.Kind=1):=by
 have hkk:=qgu hx;unfold Xz;rw [hkk];by_cases h0:x.Kind=0
 ·rw [if_pos h0];exact ⟨λ_=>.inl h0,λ_=>rfl⟩
 ·rw [if_neg h0];by_cases h1:x.Kind=1
  ·rw [if_pos h1,show (k:Int)+1=((k+1:Nat):Int) by omega,q7q];constructor
   ·exact λh=>.inr (.inl ⟨h1,h⟩)
   ·rintro (h | ⟨_,h⟩ | ⟨h,_⟩)
    ·exact absurd h h0
    ·exact h
    ·omega
  ·rw [if_neg h1];by_cases h2:x.Kind=2
   ·rw [if_pos h2];by_cases hk:1<=k
    ·rw [show (k:Int)-1=((k-1:Nat):Int) by omega,q7q];constructor
     ·exact λh=>.inr (.inr ⟨h2,hk,h⟩)
     ·rintro (h | ⟨h,_⟩ | ⟨_,_,h⟩)
      ·exact absurd h h0
      ·exact absurd h h1
      ·exact h
    ·have:isB xs ((k:Int)-1) 1=false:=by
      unfold isB;rw [dFq (by omega)];rfl
     rw [this];constructor
     ·intro h;cases h
     ·rintro (h | ⟨h,_⟩ | ⟨_,h,_⟩)
      ·exact absurd h h0
      ·exact absurd h h1
      ·exact absurd h hk
   ·rw [if_neg h2];constructor
    ·intro h;cases h
    ·rintro (h | ⟨h,_⟩ | ⟨h,_⟩)
     ·exact absurd h h0
     ·exact absurd h h1
     ·exact absurd h h2
theorem qd7 {xs:List qO}:Zm xs=true↔∀(k:Nat) x,xs[k]?=some x->Xz xs k=true/\(x.Kind=2->x.R=0):=by
 constructor
 ·intro h k x hx;have hk:=(List.getElem?_eq_some_iff.1 hx).1;have:=q8e hx;have h1:okB xs k=true:=by
   unfold Zm at h;rw [List.all_eq_true] at h;exact h k (List.mem_range.2 hk)
  rw [this,Bool.and_eq_true] at h1;refine ⟨h1.1,λe=>?_⟩;have:=h1.2;rw [e] at this;simpa using this
 ·intro h;refine q85 λk hk=>?_;obtain ⟨x,hx,_⟩:=get_of hk;obtain ⟨h1,h2⟩:=h k x hx;rw [q8e hx,h1];by_cases e:x.Kind=2
  ·simp [e,h2 e]
  ·simp [e]
theorem qvw {xs:List qO} {k:Nat} {x:qO} (hx:xs[k]?=some x) (h:Xz xs k=true):¬(x.Kind≠0/\x.Kind≠1/\x.Kind≠2):=by
 rintro ⟨h0,h1,h2⟩;rcases (QM hx).1 h with h | h | h
 ·exact h0 h
 ·exact h1 h.1
 ·exact h2 h.1
theorem qm2 {xs:List qO} {k:Nat} {x:qO} (hx:xs[k]?=some x) (h:Xz xs k=true):(V5 xs k x).Kind=x.Kind/\(x.Kind=2->(V5 xs k x).R=0):=by
 unfold V5;rw [if_neg (qvw hx h),if_neg (by rw [h];decide)];split
 ·exact ⟨rfl,λ_=>rfl⟩
 ·next h2=>exact ⟨rfl,λe=>absurd e h2⟩
theorem q4o {xs:List qO} {k:Nat} {x:qO} (h:Xz xs k=false):(V5 xs k x).Kind=0:=by
 unfold V5;rw [h];split
 ·rfl
 ·rfl
theorem qt6 (xs:List qO):Zm (jp xs)=true:=by
 refine qd7.2 λk x' hx'=>?_;have hk:k<xs.length:=by have:=(List.getElem?_eq_some_iff.1 hx').1;rwa [ja] at this
 obtain ⟨x,hx,_⟩:=get_of hk;have hm:=Yq xs k x hx;rw [hx'] at hm;cases hm;cases hf:Xz xs k with
 | false =>
  have h0:=q4o (x:=x) hf;exact ⟨(QM hx').2 (.inl h0),λe=>by rw [h0] at e;cases e⟩
 | true =>
  obtain ⟨e1,e2⟩:=qm2 hx hf;rw [e1];refine ⟨(QM hx').2 ?_,e2⟩;rw [e1];rcases (QM hx).1 hf with h | ⟨h,y,hy,h2⟩ | ⟨h,hk1,y,hy,h2⟩
  ·exact .inl h
  ·refine .inr (.inl ⟨h,_,Yq xs _ y hy,?_⟩);have:Xz xs ((k+1:Nat):Int)=true:=(QM hy).2 (.inr (.inr ⟨h2,by omega,x,hx,h⟩));rw [(qm2 hy this).1,h2]
  ·refine .inr (.inr ⟨h,hk1,_,Yq xs _ y hy,?_⟩);have:Xz xs ((k-1:Nat):Int)=true:=(QM hy).2 (.inr (.inl ⟨h2,x,by rw [show k-1+1=k by omega];exact hx,h⟩));rw [(qm2 hy this).1,h2]
theorem zfh {xs:List qO} (h:Zm xs=true):jp xs=xs:=by
 refine List.ext_getElem? λk=>?_;cases hx:xs[k]? with
 | none=>rw [List.getElem?_eq_none_iff] at hx ⊢;rw [ja];exact hx
 | some x =>
  rw [Yq xs k x hx];obtain ⟨h1,h2⟩:=qd7.1 h k x hx;unfold V5;rw [if_neg (qvw hx h1),if_neg (by rw [h1];decide)];split
  ·next e =>
   have:=h2 e;cases x;simp only at this;rw [this]
  ·rfl
theorem qxh {xs:List qO} (h:Zm xs=true) (n:Nat) (a:vQ):Zm (xs++List.replicate n (kr a))=true:=by
 have hR:=qd7.1 h;refine qd7.2 λk x hx=>?_;rcases Nat.lt_or_ge k xs.length with hk | hk
 ·rw [List.getElem?_append_left hk] at hx;obtain ⟨h1,h2⟩:=hR k x hx;refine ⟨(QM (by rw [List.getElem?_append_left hk];exact hx)).2 ?_,h2⟩;rcases (QM hx).1 h1 with h | ⟨h,y,hy,h'⟩ | ⟨h,hp,y,hy,h'⟩
  ·exact .inl h
  ·have:=(List.getElem?_eq_some_iff.1 hy).1;exact .inr (.inl ⟨h,y,by rw [List.getElem?_append_left this];exact hy,h'⟩)
  ·have:=(List.getElem?_eq_some_iff.1 hy).1;exact .inr (.inr ⟨h,hp,y,by rw [List.getElem?_append_left this];exact hy,h'⟩)
 ·have hx0:=hx;rw [List.getElem?_append_right hk,List.getElem?_replicate] at hx;split at hx
  ·cases hx;exact ⟨(QM hx0).2 (.inl rfl),λ_=>rfl⟩
  ·cases hx
theorem q07 (xs:List qO) (col r width:Int) (a:vQ):(q3r xs col r width a).length=xs.length:=by
 unfold q3r;split
 ·exact ja xs
 ·rw [qvo,qzb,ja]
theorem qrr (xs:List qO) (col k:Int) (a:vQ):(qfk xs col k a).length=xs.length:=by
 unfold qfk;have hml:=ja xs;obtain ⟨hc0,hc1⟩:=qon (n:=xs.length) (col:=col) (k:=k);dsimp only;generalize qbo xs.length col k=c at *;split
 ·exact hml
 ·next h =>
  have:=hc1 h;rw [ja];simp;omega
theorem q2v (xs:List qO) (cols:Int):(Z3 xs cols).length=(min 1000 (max 0 cols)).toNat:=by
 unfold Z3;have hml:=ja xs;dsimp only;split
 ·rw [ja];simp;omega
 ·simp;omega
theorem qs7 {xs:List qO} (h:okR xs) {i:Nat} {c:qO} (hc:-9223372036854775808<=c.R/\c.R<=9223372036854775807):okR (xs.set i c):=λx hx=>by
 rcases List.mem_or_eq_of_mem_set hx with h1 | h1
 ·exact h x h1
 ·rw [h1];exact hc
theorem qyn (a:vQ):-9223372036854775808<=(kr a).R/\(kr a).R<=9223372036854775807:=⟨show (-9223372036854775808:Int)<=0 by decide,show (0:Int)<=9223372036854775807 by decide⟩
theorem qng (n:Nat) (a:vQ):okR (List.replicate n (kr a)):=λc hc=>by rw [List.eq_of_mem_replicate hc];exact qyn a
theorem qm7 {xs ys:List qO} (h:okR xs) (h':okR ys):okR (xs++ys):=λc hc=>by
 rcases List.mem_append.1 hc with h1 | h1
 ·exact h c h1
 ·exact h' c h1
theorem qt0 {xs:List qO} (h:okR xs) (n:Nat):okR (xs.take n):=λc hc=>h c (List.mem_of_mem_take hc)
theorem zc7 {xs:List qO} (h:okR xs) (n:Nat):okR (xs.drop n):=λc hc=>h c (List.mem_of_mem_drop hc)
theorem q1a {xs:List qO} (h:okR xs) (p:Int):okR (qbl xs p):=by
 unfold qbl;split
 ·exact qs7 h (qyn _)
 ·exact h
theorem zfy {xs:List qO} (h:okR xs) {col r width:Int} {a:vQ} (hr:-9223372036854775808<=r/\r<=9223372036854775807):okR (q3r xs col r width a):=by
 unfold q3r;split
 ·exact QO h
 ·refine q1a (q1a ?_ _) _;unfold qt3;split
  ·exact qs7 (qs7 (QO h) hr) ⟨show (-9223372036854775808:Int)<=0 by decide,show (0:Int)<=9223372036854775807 by decide⟩
  ·exact qs7 (QO h) hr
theorem zfq {xs:List qO} (h:okR xs) (col k:Int) (a:vQ):okR (qfk xs col k a):=by
 unfold qfk;dsimp only;split
 ·exact QO h
 ·exact QO (qm7 (qm7 (qt0 (QO h) _) (qng _ _)) (zc7 (qt0 (QO h) _) _))
theorem zeu {xs:List qO} (h:okR xs) (cols:Int):okR (Z3 xs cols):=by
 unfold Z3;dsimp only;split
 ·exact QO (qt0 (QO h) _)
 ·exact qm7 (QO h) (qng _ _)
def zhs:El Slc where
 cells s:=[.slice s.a s.n s.c]
 t:=qR
 k:=1
 pos:=by decide
 len _:=rfl
 one x v hv:=by
  simp only [List.mem_cons,List.mem_nil_iff,or_false] at hv;rcases hv with rfl
  rfl
noncomputable def qkd:SlT PG slE qR where
 ht:=by kernel_rfl
 i:=(PG.info? zk).getD default
 hi:=by kernel_rfl
 z:=.slice none 0 0
 hz:=by kernel_rfl
 hs:=by kernel_rfl
 hzs:=rfl
theorem q30:qkd.i.bytes=24:=by kernel_rfl
theorem za0 {n:Int} {w:World} {K:Slc->Ub} (h0:0<=n) (hn:n<=1000000) (hK:∀r w',Go.Vc.Own slE w' w.heap.size r []->Uc w w'->K r w'):jI (⟨none,0,0⟩:Slc) n w K:=by
 refine QC _ _ ?_;refine jpO λJ hJ=>?_;refine cF (by simpa using h0) (hJ _ _ ?_);have hw:i64.wrap (n-(i64.wrap (((0:Nat):Int)-((0:Nat):Int))))=n:=by
  rw [qP (x:=((0:Nat):Int)-((0:Nat):Int)) (by omega),qP (by omega)];omega
 simp only [hw];refine cO (λh=>?_) (λh=>?_)
 ·have h:=oTq h;refine vj (by omega) (by omega) (yT ?_);refine qys qkd (kk:=.i64) (by kernel_rfl) (n:=n.toNat) (by omega) (by omega) (by simp only [maxLen];omega) (by rw [q30];omega) λcap w' h1 h2 ho hB=>?_;refine vj (by omega) (by simp) (yT ?_);have e:cut (some ⟨w.heap.size,0,none⟩) 0 cap 1=some ⟨w.heap.size,0,none⟩:=by
   unfold cut;split
   ·rfl
   ·simp
  show K ⟨cut (some ⟨w.heap.size,0,none⟩) 0 cap 1,0,cap⟩ w';rw [e];exact hK _ _ ho hB
 ·exact hK _ _ (Go.Vc.Own.nil _ _ _) (Below.refl _ _)
def zcc (w:World) (ss:List Slc) (xss:List (List Slc)):Prop:=ss.length=xss.length/\∀(i:Nat) s xs,ss[i]?=some s->xss[i]?=some xs->Rd slE w s xs
theorem qy4 (xss:List (List Slc)) (k:Nat):(xss.take k).flatten.length<=xss.flatten.length:=by
 conv=>rhs;rw [<-List.take_append_drop k xss]
 rw [List.flatten_append,length_append];omega
theorem qlw {xss:List (List Slc)} {k:Nat} {xs:List Slc} (h:xss[k]?=some xs):(xss.take (k+1)).flatten=(xss.take k).flatten++xs:=by
 rw [List.take_add_one,h];simp
theorem qn4 {p:Slc} {ss:List Slc} {xss:List (List Slc)} {w:World} {K:Slc->Ub} (hp:Rd zhs w p ss) (hss:zcc w ss xss) (hl:xss.flatten.length<=1000000) (hn:ss.length<=1000000)
  (hK:∀r w',Go.Vc.Own slE w' w.heap.size r xss.flatten->Uc w w'->K r w'):zz p w K:=by
 refine yV _ ?_;have hpn:=hp.n;obtain ⟨hsl,hss⟩:=hss;refine lpR (λ(s:Int×Int×Unit) w2=>∃k:Nat,s.2.1=k/\k<=ss.length/\s.1=((xss.take k).flatten.length:Nat)/\w2=w) (λs=>ss.length-s.2.1.toNat) ⟨0,rfl,by omega,rfl,rfl⟩ ?_;rintro ⟨t,i,_⟩ w2 ⟨k,rfl,hk,rfl,rfl⟩ I hI;dsimp only at *;have hle:=qy4 xss;refine cO (λhlt=>?_) (λhge=>?_)
 ·have hlt:=oTq hlt;rw [hpn] at hlt;have hkl:k<ss.length:=by omega
  have hx:ss[k]?=some ss[k]:=List.getElem?_eq_getElem hkl;have hy:xss[k]?=some (xss[k]'(by omega)):=List.getElem?_eq_getElem _;refine hp.ix rfl (by omega) (by omega) λhc=>?_;refine lSl (x:=ss[k]) (by simpa using hc 0 _ rfl) ?_;have hr:=hss k _ _ hx hy;have hrn:=hr.n;have hf:=qlw hy;have h1:=hle (k+1);rw [hf,length_append] at h1;rw [hrn,qP (by omega)];refine cF (by simp;omega) ?_;rw [qP (by omega)];exact hI _ _ ⟨k+1,by simp,by omega,by rw [hf];simp,rfl⟩ (by simp;omega)
 ·have hge:=oFq hge;rw [hpn] at hge;have:k=ss.length:=by omega
  subst this;have h1:=hle ss.length;refine za0 (by omega) (by omega) λg w3 ho3 hB3=>?_;refine lpR (λ(s:Slc×Int×Unit) w4=>∃k:Nat,s.2.1=k/\k<=ss.length/\Go.Vc.Own slE w4 w2.heap.size s.1 ((xss.take k).flatten)/\Uc w2 w4) (λs=>ss.length-s.2.1.toNat) ⟨0,rfl,by omega,by simpa using ho3,hB3⟩ ?_;rintro ⟨t,i,_⟩ w4 ⟨k,rfl,hk,ho,hB⟩ I2 hI2;dsimp only at *;refine cO (λhlt=>?_) (λhge=>?_)
  ·have hlt:=oTq hlt;rw [hpn] at hlt;have hkl:k<ss.length:=by omega
   have hx:ss[k]?=some ss[k]:=List.getElem?_eq_getElem hkl;have hy:xss[k]?=some (xss[k]'(by omega)):=List.getElem?_eq_getElem _;refine (hp.ext hB).ix rfl (by omega) (by omega) λhc=>?_;refine lSl (x:=ss[k]) (by simpa using hc 0 _ rfl) ?_;have hr:=(hss k _ _ hx hy).ext hB;have hf:=qlw hy;have h1:=hle (k+1);rw [hf,length_append] at h1;refine jx qkd ho hr hB.size (by rw [q30];omega) (by simp only [maxLen];omega) λr w5 ho5 hg5 hr5=>?_;rw [qP (by omega)];exact hI2 _ _ ⟨k+1,by simp,by omega,by rw [hf];exact ho5,hB.grown hg5 hB.size λg hg=>(ho.lt g hg).1⟩ (by simp;omega)
  ·have hge:=oFq hge;rw [hpn] at hge;have:k=ss.length:=by omega
   subst this;rw [hsl,List.take_length] at ho;exact hK _ _ ho hB
theorem q7z {w:World} {a b c d:Slc} {xs ys zs us:List Slc} (ha:Rd slE w a xs) (hb:Rd slE w b ys) (hc:Rd slE w c zs) (hd:Rd slE w d us):zcc w [a,b,c,d] [xs,ys,zs,us]:=by
 refine ⟨rfl,λi s l hs hl=>?_⟩
 match i,hs,hl with
 | 0,hs,hl=>cases hs;cases hl;exact ha
 | 1,hs,hl=>cases hs;cases hl;exact hb
 | 2,hs,hl=>cases hs;cases hl;exact hc
 | 3,hs,hl=>cases hs;cases hl;exact hd
 | i+4,hs,hl=>cases hs
def Lines (w:World) (base:Nat) (ls:List Slc) (xss:List (List qO)):Prop:=ls.length=xss.length/\∀(i:Nat) s xs,ls[i]?=some s->xss[i]?=some xs->Go.Vc.Own zr w base s xs
section
variable {w w':World} {base:Nat} {ls ms:List Slc} {xss yss:List (List qO)}
theorem Lines.nil (w:World) (base:Nat):Lines w base [] []:=⟨rfl,λi s xs h=>by simp at h⟩
theorem Lines.ext (h:Lines w base ls xss) (hb:Uc w w'):Lines w' base ls xss:=⟨h.1,λi s xs h1 h2=>(h.2 i s xs h1 h2).ext hb⟩
theorem Lines.chg {S:Nat->Prop} (h:Lines w base ls xss) (hc:Chg S w w') (hS:∀k cs,S k->¬Blk w k qT cs):Lines w' base ls xss :=
 ⟨h.1,λi s xs h1 h2=>(h.2 i s xs h1 h2).chg hc λg hg hs=>by
  obtain ⟨cs,hcs⟩:=(h.2 i s xs h1 h2).blk_t hg;exact hS g cs hs hcs⟩
theorem Lines.append (h:Lines w base ls xss) (h':Lines w base ms yss):Lines w base (ls++ms) (xss++yss):=by
 refine ⟨by rw [length_append,length_append,h.1,h'.1],λi s xs h1 h2=>?_⟩;rcases Nat.lt_or_ge i ls.length with hi | hi
 ·rw [List.getElem?_append_left hi] at h1;rw [List.getElem?_append_left (by rw [<-h.1];exact hi)] at h2;exact h.2 i s xs h1 h2
 ·rw [List.getElem?_append_right hi] at h1;rw [List.getElem?_append_right (by rw [<-h.1];exact hi),<-h.1] at h2;exact h'.2 _ s xs h1 h2
theorem Lines.take (h:Lines w base ls xss) (n:Nat):Lines w base (ls.take n) (xss.take n):=by
 refine ⟨by simp [h.1],λi s xs h1 h2=>?_⟩;rw [List.getElem?_take] at h1 h2;split at h1
 ·next hi=>rw [if_pos hi] at h2;exact h.2 i s xs h1 h2
 ·cases h1
theorem Lines.drop (h:Lines w base ls xss) (n:Nat):Lines w base (ls.drop n) (xss.drop n):=by
 refine ⟨by simp [h.1],λi s xs h1 h2=>?_⟩;rw [List.getElem?_drop] at h1 h2;exact h.2 _ s xs h1 h2
theorem Lines.set (h:Lines w base ls xss) (i:Nat) {s:Slc} {xs:List qO} (hs:Go.Vc.Own zr w base s xs):Lines w base (ls.set i s) (xss.set i xs):=by
 refine ⟨by simp [h.1],λj t ys h1 h2=>?_⟩;rw [List.getElem?_set] at h1 h2;by_cases hij:i=j
 ·rw [if_pos hij] at h1 h2;split at h1
  ·rw [if_pos (by rw [<-h.1];assumption)] at h2;cases h1;cases h2;exact hs
  ·cases h1
 ·rw [if_neg hij] at h1 h2;exact h.2 j t ys h1 h2
theorem Lines.one {s:Slc} {xs:List qO} (hs:Go.Vc.Own zr w base s xs):Lines w base [s] [xs]:=by
 refine ⟨rfl,λi t ys h1 h2=>?_⟩
 match i,h1,h2 with
 | 0,h1,h2=>cases h1;cases h2;exact hs
 | i+1,h1,h2=>cases h1
end
def ZV (w:World) (base r:Nat) (s:Slc) (most:Nat) (old:List (List qO)):Prop :=
 ∃(at_:Nat) (gone:Int) (ls:List Slc) (xss:List (List qO)),Blk w r qQ [.int .i64 most,.slice s.a s.n s.c,.int .i64 at_,.int .i64 gone]/\Go.Vc.Own slE w base s ls/\Lines w base ls xss/\base<=r /\
  old=xss.drop at_++xss.take at_/\xss.length<=most/\(at_=0\/(at_<xss.length/\xss.length=most))
theorem qy5 {base:Nat} {most:Int} {w:World} {K:Option Addr->Int->Ub} (h0:0<=most) (h1:most<=65536) (hb:base<=w.heap.size)
  (hK:∀w',ZV w' base w.heap.size ⟨none,0,0⟩ most.toNat []->Uc w w'->w'.heap.size=w.heap.size+1->K (some ⟨w.heap.size,0,none⟩) 0 w'):yZ most w K:=by
 refine qdz _ ?_;refine jpO λJ hJ=>?_;refine cF (by simpa using h0) (cF (by simpa using h1) (hJ _ _ ?_));refine nwb λw1 hb1 hB1 hs1=>hK _ ⟨0,0,[],[],?_,Go.Vc.Own.nil _ _ _,Lines.nil _ _,hb,rfl,by simp,.inl rfl⟩ hB1 hs1;rw [show ((most.toNat:Nat):Int)=most by omega];exact hb1
theorem q0g {base r most:Nat} {s:Slc} {old:List (List qO)} {w:World} {K:Int->Ub} (h:ZV w base r s most old) (hK:K old.length w):kq (some ⟨r,0,none⟩) w K:=by
 obtain ⟨at_,gone,ls,xss,hb,ho,hl,hbr,e,hm,ha⟩:=h;refine Vq _ ?_;simp only [onPtr_some];refine lSl (x:=s) (hb.cells 1 _ rfl) ?_;have hn:s.n=old.length:=by
  rw [ho.rd.n,hl.1,e,length_append,List.length_drop,List.length_take];omega
 rw [hn];exact hK
def qg8 (most:Nat) (old:List (List qO)) (x:List qO):List (List qO):=if most=0 then old else if old.length<most then old++[x] else old.tail++[x]
def qg9 (r:Nat) (s:Slc) (k:Nat):Prop:=k=r\/s.blk=some k
theorem q81 {r:Nat} {vs:List Value} {w:World} {K:Ub} (hb:Blk w r qQ vs) (h2:vs[2]?=some (Ua 0)) (hK:K w):xU (some ⟨r,0,none⟩) w K:=by
 refine Kt _ ?_;simp only [onPtr_some];refine lI (x:=0) (hb.cells 2 _ h2) ?_;exact cF rfl hK
theorem qkv {w:World} {base r:Nat} {s:Slc} {ls:List Slc} {vs:List Value} (ho:Go.Vc.Own slE w base s ls) (hb:Blk w r qQ vs):∀k,s.blk=some k->k≠r:=by
 intro k hk;obtain ⟨cs,hcs⟩:=ho.blk_t hk;exact hcs.ne_t hb (by decide)
theorem q8m {base r most:Nat} {s t:Slc} {old:List (List qO)} {xs:List qO} {w:World} {K:Slc->Bool->Ub} (h:ZV w base r s most old) (ht:Go.Vc.Own zr w base t xs) (hmost:most<=100000) (hbase:base<=w.heap.size)
  (hK:∀u b s' w',ZV w' base r s' most (qg8 most old xs)->Chg (qg9 r s) w w'->(s'.blk=s.blk\/∃k,s'.blk=some k/\w.heap.size<=k)->K u b w'):jQ (some ⟨r,0,none⟩) t w K:=by
 obtain ⟨at_,gone,ls,xss,hb,ho,hl,hbr,e,hm,ha⟩:=h;refine Kr _ _ ?_;simp only [onPtr_some];have hsn:s.n=ls.length:=ho.rd.n;have hll:=hl.1;have hol:old.length=xss.length:=by rw [e,length_append,List.length_drop,List.length_take];omega
 have notC:∀k cs,qg9 r s k->¬Blk w k qT cs:=by
  rintro k cs (rfl | hk) hc
  ·exact hc.ne_t hb (by decide) rfl
  ·obtain ⟨cs',hcs'⟩:=ho.blk_t hk;exact hc.ne_t hcs' (by decide) rfl
 refine lI (x:=(most:Int)) (hb.cells 0 _ rfl) ?_;refine cO (λh0=>?_) (λh0=>?_)
 ·have h0:most=0:=by have:=eq_of_beq h0;omega
  refine lI (x:=gone) (hb.cells 3 _ rfl) ?_;rw [q4];refine qw hb (by simp) λw1 hb1 hg1 hs1=>?_;have hc1:Chg (qg9 r s) w w1:=Chg.of_grown hg1 λk hk=>by cases hk;exact .inl rfl
  refine hK _ _ s w1 ⟨at_,_,ls,xss,hb1,ho.kept hg1 (.inr λee=>qkv ho hb _ ee rfl),hl.chg hc1 notC,hbr,?_,hm,ha⟩ hc1 (.inl rfl);rw [qg8,if_pos h0];exact e
 ·have h0:most≠0:=by have:=beq_eq_false_iff_ne.1 h0;omega
  have hbd:=hb.drew;refine lSl (x:=s) (hbd.cells 1 _ rfl) ?_;refine lI (x:=(most:Int)) (hbd.cells 0 _ rfl) ?_;refine cO (λh1=>?_) (λh1=>?_)
  ·have h1:=oTq h1;have hat:at_=0:=by rcases ha with h | ⟨_,h⟩<;>omega
   subst hat;refine q81 hbd rfl ?_;refine lSl (x:=s) (hbd.cells 1 _ rfl) ?_;refine nwb λw3 hb3 hB3 hs3=>?_;have hr3:Rd slE w3 ⟨some ⟨w.drew.heap.size,0,none⟩,1,1⟩ [t]:=yg (E:=slE) hb3 rfl;have hB03:Uc w w3:=(Below.refl _ w).drew.trans hB3;refine jx qkd (ho.ext hB03) hr3 (by have:=hB03.size;omega) (by rw [q30];simp;omega) (by simp [maxLen];omega) λq w4 ho4 hg4 hq4=>?_;have hb3r:=hb.ext hB03;have hb4:=hb3r.grown hg4 λee=>qkv ho hb _ ee.symm rfl;rw [q4];refine qw hb4 (by simp) λw5 hb5 hg5 hs5=>?_;have hc:Chg (qg9 r s) w w5:=((Chg.of_ext (S:=qg9 r s) hB03).trans (S':=λk=>s.blk=some k) (Chg.of_grown hg4 λk hk=>hk) λi _ hi=>.inr hi).trans (S':=λk=>k=r) (Chg.of_grown hg5 λk hk=>by cases hk;rfl) λi _ hi=>.inl hi;refine hK _ _ q w5 ⟨0,gone,ls++[t],xss++[xs],hb5,ho4.kept hg5 (.inr λee=>qkv ho4 hb4 _ ee rfl),(hl.chg hc notC).append (Lines.one (ht.chg hc λg hg hs=>?_)),hbr,?_,?_,.inl rfl⟩ hc ?_
   ·obtain ⟨cs,hcs⟩:=ht.blk_t hg;exact notC g cs hs hcs
   ·rw [qg8,if_neg h0,if_pos (by omega),e];simp
   ·simp;omega
   ·rcases hq4 with hh | hh
    ·exact .inl hh
    ·exact .inr ⟨_,hh,hB03.size⟩
  ·have h1:=oFq h1;have hfull:xss.length=most:=by omega
   have hatl:at_<ls.length:=by rcases ha with h | ⟨h,_⟩<;>omega
   have hbdd:Blk w.drew.drew r qQ _:=hb;have hod:Go.Vc.Own slE w.drew.drew base s ls:=ho;refine lSl (x:=s) (hbdd.cells 1 _ rfl) ?_;refine lI (x:=(at_:Int)) (hbdd.cells 2 _ rfl) ?_;refine hod.rd.ix rfl (by omega) (by omega) λhc=>?_;refine lSl (x:=ls[at_]) (by simpa using hc 0 _ rfl) ?_;have hbddd:Blk w.drew.drew.drew r qQ _:=hb;have hoddd:Go.Vc.Own slE w.drew.drew.drew base s ls:=ho;refine lSl (x:=s) (hbddd.cells 1 _ rfl) ?_;refine lI (x:=(at_:Int)) (hbddd.cells 2 _ rfl) ?_;refine hoddd.rd.ix rfl (by omega) (by omega) λ_=>?_;refine hoddd.st0 (x:=ls[at_]) (y:=t) (by rw [show ((at_:Int)).toNat=at_ from rfl];exact List.getElem?_eq_getElem _) rfl λw6 ho6 hg6 hs6=>?_;rw [show ((at_:Int)).toNat=at_ from rfl] at ho6;have hb6:Blk w6 r qQ _:=hbddd.grown hg6 λee=>qkv ho hb _ ee.symm rfl;have hc6:Chg (qg9 r s) w w6:=⟨hg6.os,hg6.tape,hg6.output,hg6.size,λk hk hn=>hg6.block k hk λee=>hn (.inr ee.symm)⟩;have hbd6:=hb6.drew;refine lI (x:=(at_:Int)) (hbd6.cells 2 _ rfl) ?_;refine lSl (x:=s) (hbd6.cells 1 _ rfl) ?_;refine ⟨by omega,?_⟩;rw [q4];refine qw hbd6 (by simp) λw7 hb7 hg7 hs7=>?_;refine lI (x:=gone) (hb7.cells 3 _ rfl) ?_;rw [q4];refine qw hb7 (by rw [Kf];simp) λw8 hb8 hg8 hs8=>?_;have hc7:Chg (λk=>k=r) w6 w7:=⟨hg7.os,hg7.tape,hg7.output,hg7.size,λk hk hn=>hg7.block k hk λee=>hn (by cases ee;rfl)⟩;have hc8:Chg (λk=>k=r) w7 w8:=Chg.of_grown hg8 λk hk=>by cases hk;rfl
   have hc:Chg (qg9 r s) w w8:=(hc6.trans hc7 λi _ hi=>.inl hi).trans hc8 λi _ hi=>.inl hi;have ho7:Go.Vc.Own slE w7 base s (ls.set at_ t):=ho6.chg hc7 λg hg=>qkv ho hb g hg;have ho8:Go.Vc.Own slE w8 base s (ls.set at_ t):=ho7.chg hc8 λg hg=>qkv ho hb g hg;have ht8:Go.Vc.Own zr w8 base t xs:=ht.chg hc λg hg hs=>by
    obtain ⟨cs,hcs⟩:=ht.blk_t hg;exact notC g cs hs hcs
   have hl8:=(hl.chg hc notC).set at_ ht8
   have hmod:(i64.wrap ((at_:Int)+1)).tmod ((s.n:Nat):Int)=(((at_+1)%xss.length:Nat):Int):=by
    rw [qP (by omega),hsn,hll,Int.tmod_eq_emod_of_nonneg (by omega),Int.natCast_emod,Int.natCast_add];rfl
   have htail:xss.drop at_=xss[at_]::xss.drop (at_+1):=List.drop_eq_getElem_cons (by omega)
   have hpush:qg8 most old xs=xss.drop (at_+1)++xss.take at_++[xs]:=by
    rw [qg8,if_neg h0,if_neg (by omega),e,htail,List.cons_append,List.tail_cons]
   refine hK _ _ s w8 ⟨(at_+1)%xss.length,i64.wrap (gone+1),ls.set at_ t,xss.set at_ xs,?_,ho8,hl8,hbr,?_,by simp;omega,?_⟩ hc (.inl rfl)
   ·rw [<-hmod];exact hb8
   ·rw [hpush];by_cases hend:at_+1=xss.length
    ·rw [hend,Nat.mod_self,List.drop_length];simp only [List.nil_append,List.drop_zero,List.take_zero,List.append_nil];rw [List.set_eq_take_append_cons_drop,if_pos (by omega),hend,List.drop_length]
    ·rw [Nat.mod_eq_of_lt (by omega),List.drop_set_of_lt (by omega),List.append_assoc];congr 1;rw [List.take_set,List.set_eq_take_append_cons_drop,if_pos (by simp;omega),List.take_take,Nat.min_eq_left (by omega),List.drop_take,Nat.sub_self];simp
   ·by_cases hend:at_+1=xss.length
    ·exact .inl (by rw [hend,Nat.mod_self])
    ·exact .inr ⟨by rw [Nat.mod_eq_of_lt (by omega)];simp;omega,by simp;omega⟩
structure Foot where
 g:Nat
 r:Nat
 ls:Slc
 rs:Slc
structure GS where
 rows:Nat
 cols:Nat
 most:Nat
 L:List (List qO)
 old:List (List qO)
 top:Int
def xo (f:Foot) (k:Nat):Prop:=k=f.g\/k=f.r\/f.ls.blk=some k\/f.rs.blk=some k
structure GridM (w:World) (base:Nat) (f:Foot) (S:GS):Prop where
 blk:Blk w f.g vH [.pointer (some ⟨f.r,0,none⟩),.int .i64 S.rows,.int .i64 S.cols,.slice f.ls.a f.ls.n f.ls.c,.int .i64 S.top]
 hg:base<=f.g
 row:∃ls,Go.Vc.Own slE w base f.ls ls/\Lines w base ls S.L
 ring:ZV w base f.r f.rs S.most S.old
 ne:∀k,f.ls.blk=some k->f.rs.blk≠some k
structure Foot.to (f f':Foot) (n:Nat):Prop where
 g:f'.g=f.g
 r:f'.r=f.r
 ls:f'.ls.blk=f.ls.blk\/∀k,f'.ls.blk=some k->n<=k
 rs:f'.rs.blk=f.rs.blk\/∀k,f'.rs.blk=some k->n<=k
theorem Foot.to.refl (f:Foot) (n:Nat):f.to f n:=⟨rfl,rfl,.inl rfl,.inl rfl⟩
theorem Foot.to.old {f f':Foot} {n:Nat} (h:f.to f' n):∀k,xo f' k->xo f k\/n<=k:=by
 rintro k (rfl | rfl | hk | hk)
 ·exact .inl (.inl h.g)
 ·exact .inl (.inr (.inl h.r))
 ·rcases h.ls with e | e
  ·exact .inl (.inr (.inr (.inl (by rw [<-e];exact hk))))
  ·exact .inr (e k hk)
 ·rcases h.rs with e | e
  ·exact .inl (.inr (.inr (.inr (by rw [<-e];exact hk))))
  ·exact .inr (e k hk)
theorem Foot.to.trans {f f' f'':Foot} {n n':Nat} (h:f.to f' n) (h':f'.to f'' n') (hn:n<=n'):f.to f'' n:=by
 refine ⟨h'.g.trans h.g,h'.r.trans h.r,?_,?_⟩
 ·rcases h'.ls with e | e
  ·rcases h.ls with e' | e'
   ·exact .inl (e.trans e')
   ·exact .inr λk hk=>e' k (by rw [<-e];exact hk)
  ·exact .inr λk hk=>Nat.le_trans hn (e k hk)
 ·rcases h'.rs with e | e
  ·rcases h.rs with e' | e'
   ·exact .inl (e.trans e')
   ·exact .inr λk hk=>e' k (by rw [<-e];exact hk)
  ·exact .inr λk hk=>Nat.le_trans hn (e k hk)
section
variable {w w':World} {base r most:Nat} {s:Slc} {old:List (List qO)} {f:Foot} {S:GS}
theorem ZV.chg {T:Nat->Prop} (h:ZV w base r s most old) (hc:Chg T w w') (hT:∀k,qg9 r s k->¬T k) (hC:∀k cs,T k->¬Blk w k qT cs):ZV w' base r s most old:=by
 obtain ⟨at_,gone,ls,xss,hb,ho,hl,hbr,e,hm,ha⟩:=h;exact ⟨at_,gone,ls,xss,hb.chg hc (hT r (.inl rfl)),ho.chg hc λg hg=>hT g (.inr hg),hl.chg hc hC,hbr,e,hm,ha⟩
theorem ZV.ext (h:ZV w base r s most old) (hb:Uc w w'):ZV w' base r s most old :=
 h.chg (Chg.of_ext (S:=λ_=>False) hb) (λ_ _ h=>h) (λ_ _ h=>h.elim)
theorem GridM.chg {T:Nat->Prop} (h:GridM w base f S) (hc:Chg T w w') (hT:∀k,xo f k->¬T k) (hC:∀k cs,T k->¬Blk w k qT cs):GridM w' base f S:=by
 obtain ⟨ls,ho,hl⟩:=h.row;exact ⟨h.blk.chg hc (hT _ (.inl rfl)),h.hg,⟨ls,ho.chg hc λg hg=>hT g (.inr (.inr (.inl hg))),hl.chg hc hC⟩,
  h.ring.chg hc (λk hk=>hT k (by rcases hk with hk | hk;exact .inr (.inl hk);exact .inr (.inr (.inr hk)))) hC,h.ne⟩
theorem GridM.ext (h:GridM w base f S) (hb:Uc w w'):GridM w' base f S :=
 h.chg (Chg.of_ext (S:=λ_=>False) hb) (λ_ _ h=>h) (λ_ _ h=>h.elim)
theorem GridM.drew (h:GridM w base f S):GridM w.drew base f S:=h.ext ((Below.refl _ w).drew)
theorem ZV.below (h:ZV w base r s most old):∀k,qg9 r s k->base<=k/\k<w.heap.size:=by
 obtain ⟨at_,gone,ls,xss,hb,ho,hl,hbr,e,hm,ha⟩:=h;rintro k (rfl | hk)
 ·exact ⟨hbr,hb.lt⟩
 ·exact ho.lt k hk
theorem GridM.below (h:GridM w base f S):∀k,xo f k->base<=k/\k<w.heap.size:=by
 obtain ⟨ls,ho,hl⟩:=h.row;rintro k (rfl | rfl | hk | hk)
 ·exact ⟨h.hg,h.blk.lt⟩
 ·exact h.ring.below _ (.inl rfl)
 ·exact ho.lt k hk
 ·exact h.ring.below _ (.inr hk)
theorem ZV.notC (h:ZV w base r s most old):∀k cs,qg9 r s k->¬Blk w k qT cs:=by
 obtain ⟨at_,gone,ls,xss,hb,ho,hl,hbr,e,hm,ha⟩:=h;rintro k cs (rfl | hk) hc
 ·exact hc.ne_t hb (by decide) rfl
 ·obtain ⟨cs',hcs'⟩:=ho.blk_t hk;exact hc.ne_t hcs' (by decide) rfl
theorem GridM.notC (h:GridM w base f S):∀k cs,xo f k->¬Blk w k qT cs:=by
 obtain ⟨ls,ho,hl⟩:=h.row;rintro k cs (rfl | rfl | hk | hk) hc
 ·exact hc.ne_t h.blk (by decide) rfl
 ·exact h.ring.notC _ cs (.inl rfl) hc
 ·obtain ⟨cs',hcs'⟩:=ho.blk_t hk;exact hc.ne_t hcs' (by decide) rfl
 ·exact h.ring.notC _ cs (.inr hk) hc
theorem GridM.g_ne (h:GridM w base f S):f.g≠f.r/\(∀k,f.ls.blk=some k->k≠f.g/\k≠f.r)/\(∀k,f.rs.blk=some k->k≠f.g/\k≠f.r):=by
 obtain ⟨ls,ho,hl⟩:=h.row;obtain ⟨at_,gone,ls',xss,hb,ho',hl',hbr,e,hm,ha⟩:=h.ring;refine ⟨h.blk.ne_t hb (by decide),λk hk=>?_,λk hk=>?_⟩
 ·obtain ⟨cs,hcs⟩:=ho.blk_t hk;exact ⟨hcs.ne_t h.blk (by decide),hcs.ne_t hb (by decide)⟩
 ·obtain ⟨cs,hcs⟩:=ho'.blk_t hk;exact ⟨hcs.ne_t h.blk (by decide),hcs.ne_t hb (by decide)⟩
end
section
variable {w:World} {base:Nat} {f:Foot} {S:GS}
theorem quk {row:Int} {K:Bool->Ub} (h:GridM w base f S) (hK:K (decide (0<=row/\row<S.rows)) w):yE (some ⟨f.g,0,none⟩) row w K:=by
 refine qn8 _ _ ?_;simp only [onPtr_some];refine cO (λh0=>?_) (λh0=>?_)
 ·have h0:0<=row:=oTq h0;refine lI (x:=(S.rows:Int)) (h.blk.cells 1 _ rfl) ?_;have:decide (row<(S.rows:Int))=decide (0<=row/\row<S.rows):=by simp [h0]
  rw [this];exact hK
 ·have h0:=oFq h0;have:decide (0<=row/\row<(S.rows:Int))=false:=by simp;omega
  rw [this] at hK;exact hK
theorem qxo {K:Int->Ub} (h:GridM w base f S) (hK:K S.top w):Zg (some ⟨f.g,0,none⟩) w K:=by
 refine qni _ ?_;simp only [onPtr_some];exact lI (x:=S.top) (h.blk.cells 4 _ rfl) hK
theorem qve {K:Int->Int->Ub} (h:GridM w base f S) (hK:K S.rows S.cols w.drew):XH (some ⟨f.g,0,none⟩) w K:=by
 refine qk3 _ ?_;simp only [onPtr_some];exact lI (x:=(S.rows:Int)) (h.blk.drew.cells 1 _ rfl) (lI (x:=(S.cols:Int)) (h.blk.drew.cells 2 _ rfl) hK)
theorem q58 {K:Int->Ub} (h:GridM w base f S) (hK:K S.old.length w):XA (some ⟨f.g,0,none⟩) w K:=by
 refine qll _ ?_;simp only [onPtr_some];refine qK (x:=some ⟨f.r,0,none⟩) (h.blk.cells 0 _ rfl) ?_;exact q0g h.ring hK
theorem q3d {K:Int->Ub} (h:GridM w base f S) (hK:K (i64.wrap (S.top-S.old.length)) w.drew):Jw (some ⟨f.g,0,none⟩) w K:=by
 refine qju _ ?_;simp only [onPtr_some];refine lI (x:=S.top) (h.blk.drew.cells 4 _ rfl) ?_;refine q58 h.drew ?_;exact ⟨h.blk.drew.cells 4 _ rfl,hK⟩
theorem q64 {row:Int} {K:Slc->Bool->Ub} (h:GridM w base f S) (hL:S.L.length=S.rows) (hw:∀xs∈S.L,xs.length<=1000000)
  (hK1:∀s xs w',0<=row->S.L[row.toNat]?=some xs->Go.Vc.Own zr w' w.heap.size s xs->Uc w w'->K s true w') (hK2:¬(0<=row/\row<S.rows)->K ⟨none,0,0⟩ false w):XL (some ⟨f.g,0,none⟩) row w K:=by
 refine qlf _ _ ?_;refine quk h ?_;simp only [onPtr_some];obtain ⟨ls,ho,hl⟩:=h.row;by_cases hr:0<=row/\row<(S.rows:Int)
 ·rw [dTq hr];refine cF rfl ?_;refine lSl (x:=f.ls) (h.blk.cells 3 _ rfl) ?_;have hll:=hl.1;refine ho.rd.ix rfl hr.1 (by omega) λhc=>?_;refine lSl (x:=ls[row.toNat]'(by omega)) (by simpa using hc 0 _ rfl) ?_;have hx:S.L[row.toNat]?=some (S.L[row.toNat]'(by omega)):=List.getElem?_eq_getElem _;have hown:=hl.2 _ _ _ (List.getElem?_eq_getElem (by omega:row.toNat<ls.length)) hx;exact qo9 hown.rd (hw _ (List.mem_of_getElem? hx)) λs w' ho' hB=>hK1 s _ w' hr.1 hx ho' hB
 ·rw [dFq hr];exact cT rfl (hK2 hr)
end
theorem q20 {n:Nat} (h:n<=1000) (a:vQ):(XE n a).length=n:=by
 rw [XE,if_neg (by omega)];simp
section
variable {w:World} {base:Nat} {f:Foot} {S:GS}
theorem qe5 {n:Int} {a:vQ} {K:Slc->Ub} (h:GridM w base f S) (hn:n<=100000)
  (hK:∀s ls w',Go.Vc.Own slE w' w.heap.size s ls->Lines w' w.heap.size ls (List.replicate n.toNat (XE S.cols a))->Uc w w'->K s w'):xR (some ⟨f.g,0,none⟩) n a w K:=by
 refine qhj _ _ _ ?_;simp only [onPtr_some];refine nwb λw1 hb1 hB1 hs1=>?_;refine lpR (λ(s:Slc×Int×Unit) w2=>∃(k:Nat) (ls:List Slc),s.2.1=k/\(k:Int)<=max n 0/\Go.Vc.Own slE w2 w.heap.size s.1 ls/\Lines w2 w.heap.size ls (List.replicate k (XE S.cols a))/\Blk w2 w.heap.size jF (qt.rep.cells a)/\Uc w w2/\(∀g,s.1.blk=some g->g≠w.heap.size))
  (λs=>(n-s.2.1).toNat) ⟨0,[],rfl,by omega,Go.Vc.Own.nil _ _ _,Lines.nil _ _,hb1,hB1,λg hg=>by cases hg⟩ ?_
 rintro ⟨s,i,_⟩ w2 ⟨k,ls,rfl,hk,ho,hl,hb,hB,hne⟩ I hI;dsimp only at *;refine cO (λhh=>?_) (λhh=>?_)
 ·have hh:=oTq hh;have hg2:=(h.ext hB).drew;refine lI (x:=(S.cols:Int)) (hg2.blk.cells 2 _ rfl) ?_;refine qx (x:=a) hb.drew.cells ?_;refine q54 λt w3 ho3 hB3=>?_;refine nwb λw4 hb4 hB4 hs4=>?_;have hB24:Uc w2 w4:=((Below.refl _ w2).drew.trans hB3).trans (hB4.mono hB3.size);have hB04:Uc w w4:=hB.trans (hB24.mono hB.size);have hr4:Rd slE w4 ⟨some ⟨w3.heap.size,0,none⟩,1,1⟩ [t]:=yg (E:=slE) hb4 rfl;have hll:=hl.1;rw [List.length_replicate] at hll;have hbl:=hb.lt;have hs23:w2.heap.size<=w3.heap.size:=hB3.size;have ho4:=ho.ext hB24;refine jx qkd ho4 hr4 hB04.size (by rw [q30];simp;omega) (by simp [maxLen];omega) λq w5 ho5 hg5 hq5=>?_;rw [qP (by omega)];have notC:∀k cs,s.blk=some k->¬Blk w4 k qT cs:=λk cs hk hc=>by
   obtain ⟨cs',hcs'⟩:=ho4.blk_t hk;exact hc.ne_t hcs' (by decide) rfl
  have hc5:Chg (λk=>s.blk=some k) w4 w5:=Chg.of_grown hg5 λk hk=>hk;have ht4:Go.Vc.Own zr w4 w.heap.size t (XE S.cols a):=(ho3.base (by have:=hB.size;show w.heap.size<=w2.heap.size;omega)).ext hB4;refine hI _ _ ⟨k+1,ls++[t],by simp,by omega,ho5,?_,?_,hB04.grown hg5 hB04.size λg hg=>(ho.lt g hg).1,?_⟩ (by simp;omega)
  ·rw [List.replicate_succ'];refine Lines.append ((hl.ext hB24).chg hc5 notC) (Lines.one (ht4.chg hc5 λg hg hs=>?_));obtain ⟨cs,hcs⟩:=ht4.blk_t hg;exact notC g cs hs hcs
  ·exact (hb.ext hB24).grown hg5 λe=>hne _ e.symm rfl
  ·intro g hg;rcases hq5 with e | e
   ·rw [e] at hg;exact hne g hg
   ·rw [e] at hg;cases hg;have:=hB24.size;omega
 ·have hh:=oFq hh;have:n.toNat=k:=by omega
  rw [<-this] at hl;exact hK _ _ _ ho hl hB
theorem GridM.newRow {w1 w2:World} {s:Slc} {ls:List Slc} {L:List (List qO)} {top:Int} {B:Nat} (h:GridM w1 base f S) (hrow:Go.Vc.Own slE w1 base s ls) (hl:Lines w1 base ls L) (hne:∀k,s.blk=some k->k≠f.g/\k≠f.r/\f.rs.blk≠some k)
  (hb:Blk w2 f.g vH [.pointer (some ⟨f.r,0,none⟩),.int .i64 S.rows,.int .i64 S.cols,.slice s.a s.n s.c,.int .i64 top]) (hg:w1.grownBy w2 (some f.g)) (_:B<=w1.heap.size):GridM w2 base { f with ls:=s } { S with L:=L,top:=top }:=by
 have hc:Chg (λk=>k=f.g) w1 w2:=Chg.of_grown hg λk hk=>by cases hk;rfl
 have notC:∀k cs,k=f.g->¬Blk w1 k qT cs:=λk cs hk hcs=>h.notC k cs (.inl hk) hcs;obtain ⟨g1,g2,g3⟩:=h.g_ne;refine ⟨hb,h.hg,⟨ls,hrow.chg hc λg hg=>(hne g hg).1,hl.chg hc notC⟩,h.ring.chg hc (λk hk=>?_) notC,λk hk=>(hne k hk).2.2⟩;rcases hk with rfl | hk
 ·exact λe=>g1 e.symm
 ·exact (g3 k hk).1
theorem q3t {a:vQ} {K:Ub} (h:GridM w base f S) (hrows:S.rows<=100000) (hbase:base<=w.heap.size)
  (hK:∀f' w',GridM w' base f' { S with L:=List.replicate S.rows (XE S.cols a) }->f.to f' w.heap.size->Chg (xo f) w w'->K w'):Jr (some ⟨f.g,0,none⟩) a w K:=by
 refine qiz _ _ ?_;simp only [onPtr_some];refine nwb λw1 hb1 hB1 hs1=>?_;have h1:=(h.ext hB1).drew;refine lI (x:=(S.rows:Int)) (h1.blk.cells 1 _ rfl) ?_;refine qx (x:=a) hb1.drew.cells ?_;refine qe5 h1 (by omega) λs ls w2 ho hl hB2=>?_;have hB02:Uc w w2:=hB1.drew.trans (hB2.mono hB1.size);have h2:=h.ext hB02;have hfresh:∀k,s.blk=some k->w.heap.size<=k:=λk hk=>by have:=(ho.lt k hk).1;have:=hB1.size;have e:w1.drew.heap.size=w1.heap.size:=rfl;omega
 rw [q4];refine qw h2.blk (by simp) λw3 hb3 hg3 hs3=>?_;have hsz:w.heap.size<=w1.drew.heap.size:=hB1.size;have h3:=h2.newRow (B:=0) (top:=S.top) (ho.base (by omega)) (L:=List.replicate S.rows (XE S.cols a)) ⟨hl.1,λi t xs e1 e2=>(hl.2 i t xs e1 e2).base (by omega)⟩ (λk hk=>?_) hb3 hg3 (Nat.zero_le _)
 ·refine hK _ w3 h3 ⟨rfl,rfl,.inr hfresh,.inl rfl⟩ ?_;exact (Chg.of_ext (S:=xo f) hB02).trans (S':=λk=>k=f.g) (Chg.of_grown hg3 λk hk=>by cases hk;rfl) λi _ hi=>.inl hi
 ·have hk':=hfresh k hk;refine ⟨λe=>?_,λe=>?_,λe=>?_⟩
  ·have:=(h.below k (.inl e)).2;omega
  ·have:=(h.below k (.inr (.inl e))).2;omega
  ·have:=(h.below k (.inr (.inr (.inr e)))).2;omega
end
def gs0 (rows cols most:Nat):GS:=⟨rows,cols,most,List.replicate rows (XE cols ⟨0,0,0⟩),[],0⟩
def qbj (rows cols back:Int):Prop:=¬(1<=rows/\rows<=1000)\/¬(1<=cols/\cols<=1000)\/back<0\/back>16384
theorem qxz {rows cols back:Int} {w:World} {K:Option Addr->Int->Ub} (hK1:qbj rows cols back->K none 1 w)
  (hK2:¬qbj rows cols back->∀f w',GridM w' w.heap.size f (gs0 rows.toNat cols.toNat back.toNat)->Uc w w'->K (some ⟨f.g,0,none⟩) 0 w'):qgw rows cols back w K:=by
 refine qv7 _ _ _ ?_;have size:∀{n:Int} {K:Bool->Ub},K (decide (1<=n/\n<=1000)) w->qb1 n w K:=by
  intro n K hk;refine qvs _ ?_;refine cO (λh=>?_) (λh=>?_)
  ·have h:1<=n:=oTq h;have:decide (n<=1000)=decide (1<=n/\n<=1000):=by simp [h]
   rw [this];exact hk
  ·have h:=oFq h;have:decide (1<=n/\n<=1000)=false:=by simp;omega
   rw [this] at hk;exact hk
 refine jpO λJ hJ=>?_;refine size ?_;by_cases h1:1<=rows/\rows<=1000
 ·rw [dTq h1];refine cF rfl (size ?_);by_cases h2:1<=cols/\cols<=1000
  ·rw [dTq h2];refine cF rfl ?_;refine cO (λh3=>hK1 (.inr (.inr (.inl (oTq h3))))) (λh3=>?_);refine cO (λh4=>hK1 (.inr (.inr (.inr (oTq h4))))) (λh4=>?_);have h3:=oFq h3;have h4:=oFq h4;have hgood:¬qbj rows cols back:=by unfold qbj;omega
   refine hJ _ _ ?_;refine qy5 (base:=w.heap.size) (by omega) (by omega) (le_refl _) λw1 hr1 hB1 hs1=>?_;refine nwb λw2 hb2 hB2 hs2=>?_;have hB02:Uc w w2:=hB1.trans (hB2.mono (by omega));have hg2:GridM w2 w.heap.size ⟨w1.heap.size,w.heap.size,⟨none,0,0⟩,⟨none,0,0⟩⟩ ⟨rows.toNat,cols.toNat,back.toNat,[],[],0⟩:=by
    refine ⟨?_,by show w.heap.size<=w1.heap.size;omega,⟨[],Go.Vc.Own.nil _ _ _,Lines.nil _ _⟩,hr1.ext hB2,λk hk=>by cases hk⟩;show Blk w2 w1.heap.size vH [_,.int .i64 ((rows.toNat:Nat):Int),.int .i64 ((cols.toNat:Nat):Int),_,_];rw [show ((rows.toNat:Nat):Int)=rows by omega,show ((cols.toNat:Nat):Int)=cols by omega];exact hb2
   refine q3t (f:=⟨w1.heap.size,w.heap.size,⟨none,0,0⟩,⟨none,0,0⟩⟩) hg2 (by show rows.toNat<=100000;omega) hB02.size λf' w3 hg3 hf hc=>?_;have hg':f'.g=w1.heap.size:=hf.g;have key:=hK2 hgood f' w3 hg3 (hB02.trans (hc.below hB02.size λi hi hs=>by have:=(hg2.below i hs).1;omega));rw [hg'] at key;exact key
  ·rw [dFq h2];exact cT rfl (hK1 (.inr (.inl h2)))
 ·rw [dFq h1];exact cT rfl (hK1 (.inl h1))
end Go.Proofs.YtokfefnmpjohpaaGreatDoor
namespace Go.Vc
open Go.RowKit

end Go.Vc
namespace Go.Proofs.YtokfefnmpjohpaaGreatDoor
open Go.Vc Go.RowKit
open IntKind (i64)
open _root_.List (drop_zero)
open _root_.Nat (le_refl zero_le)
def Qh (rows:Nat) (top past n:Int):Prop:=n=0\/top<0\/past<=top\/past>rows
instance (rows:Nat) (top past n:Int):Decidable (Qh rows top past n):=by unfold Qh;infer_instance
def XY (top past n:Int):Nat:=(min (if n<0 then -n else n) (past-top)).toNat
def qfe (cols:Nat) (L:List (List qO)) (top past n:Int) (a:vQ):List (List qO) :=
 let m:=XY top past n
 let b:=List.replicate m (XE cols a)
 if n>0 then L.take top.toNat++(L.take past.toNat).drop (top.toNat+m)++b++L.drop past.toNat
 else L.take top.toNat++b++(L.take (past.toNat-m)).drop top.toNat++L.drop past.toNat
def Kc (most:Nat) (old:List (List qO)) (xs:List (List qO)):List (List qO):=xs.foldl (qg8 most) old
def vM (S:GS) (top past n:Int) (a:vQ):GS :=
 if Qh S.rows top past n then S
 else if n>0/\top=0 then { S with L:=qfe S.cols S.L top past n a,old:=Kc S.most S.old (S.L.take (XY top past n)),top:=i64.wrap (S.top+XY top past n) }
 else { S with L:=qfe S.cols S.L top past n a }
def qyq (rows:Nat) (top past n:Int):Int:=if Qh rows top past n\/n<0\/top≠0 then 0 else XY top past n
theorem qzk (most:Nat) (old:List (List qO)) (L:List (List qO)) (k:Nat) (x:List qO) (h:L[k]?=some x):Kc most old (L.take (k+1))=qg8 most (Kc most old (L.take k)) x:=by
 rw [Kc,List.take_add_one,h,List.foldl_append];rfl
theorem qvg {α:Type} (l:List α) (a m:Nat):((l.drop a).take m)=(l.take (a+m)).drop a:=by
 rw [List.drop_take];congr 1;omega
theorem zhu {w:World} {base m:Nat} {f:Foot} {S:GS} {p:Slc} {ls:List Slc} {xss:List (List qO)} {Fin:Int×Unit->Ub} (h:GridM w base f S) (hp:Rd slE w p ls) (hpn:ls.length=m) (hl:Lines w base ls xss) (hpf:∀a,p.a=some a->¬xo f a.block)
  (hmost:S.most<=100000) (hbase:base<=w.heap.size) (hm:m<=100000)
  (hfin:∀i f' w',GridM w' base f' { S with old:=Kc S.most S.old xss }->f.to f' w.heap.size->f'.ls=f.ls->Chg (xo f) w w'->Fin (i,()) w') :
  zl (σ:=Int×Unit) (λI3 s_2 w12=>
   cond (decide (s_2.1<((p.n:Nat):Int)))
    (
     ixK p s_2.1 1 λt127=>
     jy t127 w12 λt128=>
     ldP ((⟨f.g,0,none⟩:Addr).add 0) w12 λt132=>
     jQ t132 t128 w12 λ_ _ w13=>
     I3 ((i64.wrap (s_2.1+(1:Int))),()) w13)
    (Fin s_2 w12)) (0,()) w:=by
 have hpn':p.n=m:=by rw [hp.n,hpn]
 have hxl:xss.length=m:=by rw [<-hl.1,hpn]
 refine lpR (λ(s:Int×Unit) w2=>∃(k:Nat) (f':Foot),s.1=k/\k<=m/\GridM w2 base f' { S with old:=Kc S.most S.old (xss.take k) }/\f.to f' w.heap.size/\f'.ls=f.ls/\Chg (xo f) w w2) (λs=>m-s.1.toNat) ⟨0,f,rfl,by omega,by simpa [Kc] using h,Foot.to.refl _ _,rfl,Chg.refl _ _⟩ ?_;rintro ⟨i,_⟩ w2 ⟨k,f',rfl,hk,h2,hf,hfl,hc⟩ I hI;dsimp only at *;rw [hpn'];refine cO (λhlt=>?_) (λhge=>?_)
 ·have hlt:=oTq hlt;have hp2:Rd slE w2 p ls:=hp.chg hc hpf;have hl2:Lines w2 base ls xss:=hl.chg hc h.notC;refine hp2.ix rfl (by omega) (by omega) λhcell=>?_;have hlk:ls[k]?=some (ls[k]'(by omega)):=List.getElem?_eq_getElem _;have hxk:xss[k]?=some (xss[k]'(by omega)):=List.getElem?_eq_getElem _;refine lSl (x:=ls[k]'(by omega)) (by simpa using hcell 0 _ rfl) ?_;have hb2:=h2.blk;rw [hf.g,hf.r] at hb2;refine qK (x:=some ⟨f.r,0,none⟩) (hb2.cells 0 _ rfl) ?_;have hr2:=h2.ring;rw [hf.r] at hr2;have hsz:=hc.size;refine q8m hr2 (hl2.2 k _ _ hlk hxk) hmost (by omega) λu b s' w3 hr3 hc3 hs'=>?_;rw [qP (by omega)];have sub:∀i,qg9 f.r f'.rs i->xo f i\/w.heap.size<=i:=λi hi=>by
   refine hf.old i ?_;rcases hi with e | e
   ·exact .inr (.inl (by rw [e,hf.r]))
   ·exact .inr (.inr (.inr e))
  have hc':Chg (xo f) w w3:=hc.trans hc3 λi hi hs=>by
   rcases sub i hs with e | e
   ·exact e
   ·omega
  have notr:∀k cs,qg9 f.r f'.rs k->¬Blk w2 k qT cs:=hr2.notC;obtain ⟨ls',ho',hl'⟩:=h2.row;obtain ⟨g1,g2,g3⟩:=h2.g_ne;refine hI _ _ ⟨k+1,{ f' with rs:=s' },by simp,by omega,⟨?_,h2.hg,⟨ls',ho'.chg hc3 λg hg hs=>?_,hl'.chg hc3 notr⟩,?_,?_⟩,?_,hfl,hc'⟩ (by simp;omega)
  ·refine h2.blk.chg hc3 λe=>?_;rcases e with e | e
   ·exact g1 (by rw [e,hf.r])
   ·exact (g3 _ e).1 rfl
  ·rcases hs with e | e
   ·exact (g2 g hg).2 (by rw [e,hf.r])
   ·exact h2.ne g hg e
  ·show ZV w3 base f'.r s' S.most (Kc S.most S.old (xss.take (k+1)));rw [qzk _ _ _ _ _ hxk,hf.r];exact hr3
  ·intro k' hk' e;rcases hs' with e' | ⟨q,e',hq⟩
   ·rw [e'] at e;exact h2.ne k' hk' e
   ·rw [e'] at e;cases e;have:=(h2.below k' (.inr (.inr (.inl hk')))).2;omega
  ·refine ⟨hf.g,hf.r,hf.ls,?_⟩;rcases hs' with e' | ⟨q,e',hq⟩
   ·rcases hf.rs with e | e
    ·exact .inl (e'.trans e)
    ·exact .inr λk' hk'=>e k' (by rw [<-e'];exact hk')
   ·exact .inr λk' hk'=>by rw [e'] at hk';cases hk';omega
 ·have hge:=oFq hge;have:k=m:=by omega
  subst this;rw [List.take_of_length_le (by omega)] at h2;exact hfin _ f' w2 h2 hf hfl hc
theorem cut_block {x:Option Addr} {l m k:Nat} {a:Addr} (h:cut x l m k=some a):∃b,x=some b/\a.block=b.block:=by
 unfold cut at h;split at h
 ·exact ⟨a,h,rfl⟩
 ·obtain ⟨b,hb,rfl⟩:=Option.map_eq_some_iff.1 h;exact ⟨b,hb,by simp⟩
theorem qzm {w:World} {base:Nat} {f:Foot} {S:GS} {top past n:Int} {a:vQ} {K:Int->Ub} (h:GridM w base f S) (hL:S.L.length=S.rows) (hrows:S.rows<=1000) (hmost:S.most<=100000) (hbase:base<=w.heap.size) (hn:-9223372036854775808<=n/\n<=9223372036854775807)
  (hK:∀f' w',GridM w' base f' (vM S top past n a)->f.to f' w.heap.size->Chg (xo f) w w'->K (qyq S.rows top past n) w'):xg (some ⟨f.g,0,none⟩) top past n a w K:=by
 refine qhr _ _ _ _ _ ?_;simp only [onPtr_some];refine nwb λw1 hb1 hB1 hs1=>?_;have h1:=h.ext hB1;refine jpO λJ1 hJ1=>?_;have bad:Qh S.rows top past n->K 0 w1:=λhb=>by
  have:=hK f w1 (by rw [vM,if_pos hb];exact h1) (Foot.to.refl _ _) (Chg.of_ext hB1)
  rwa [qyq,if_pos (.inl hb)] at this
 refine cO (λe=>bad (.inl (eq_of_beq e))) (λe0=>?_);refine cO (λe=>bad (.inr (.inl (oTq e)))) (λe1=>?_);refine cO (λe=>bad (.inr (.inr (.inl (oTq e))))) (λe2=>?_);refine lI (x:=(S.rows:Int)) (h1.blk.cells 1 _ rfl) ?_;refine cO (λe=>bad (.inr (.inr (.inr (oTq e))))) (λe3=>?_);have e0:n≠0:=beq_eq_false_iff_ne.1 e0;have e1:=oFq e1;have e2:=oFq e2;have e3:=oFq e3;have good:¬Qh S.rows top past n:=by unfold Qh;omega
 refine hJ1 _ _ ?_;rw [qP (x:=past-top) (by omega),qP (x:=0-(past-top)) (by omega)];refine jpO λJ2 hJ2=>?_;have hm:(XY top past n:Int)=min (if n<0 then -n else n) (past-top):=by unfold XY;split<;>omega
 unfold vM qfe at hK;unfold qyq at hK;rw [if_neg good] at hK;generalize XY top past n=m at *;have hm0:1<=m:=by split at hm<;>omega
 have hm1:(m:Int)<=past-top:=by split at hm<;>omega
 obtain ⟨tp,rfl⟩:∃tp:Nat,top=tp:=⟨top.toNat,by omega⟩;obtain ⟨ps,rfl⟩:∃ps:Nat,past=ps:=⟨past.toNat,by omega⟩;have main:∀c:Int,(if i64.wrap (0-c)>c then i64.wrap (0-c) else c)=(m:Int)->J2 (c,()) w1:=λc hc=>hJ2 _ _ (by
  dsimp only;rw [hc];obtain ⟨ls,ho,hl⟩:=h1.row;have hll:=hl.1;refine lSl (x:=f.ls) (h1.blk.cells 3 _ rfl) ?_;refine ho.rd.slK3 (l:=tp) (m:=ps) rfl (.inr rfl) rfl rfl (by omega) (by omega) λhpart=>?_;have h1d:=h1.drew;have hod:Go.Vc.Own slE w1.drew base f.ls ls:=ho;have hbd:=hb1.drew;refine cO (λhneg=>?_) (λhpos=>?_)
  ·have hneg:n<0:=by
    have:¬n>0:=by simpa using hneg
    omega
   refine lSl (x:=f.ls) (h1d.blk.cells 3 _ rfl) ?_;refine hod.rd.slK3 (l:=0) (m:=tp) rfl (.inl ⟨rfl,rfl⟩) rfl rfl (by omega) (by omega) λhfront=>?_;refine qx (x:=a) hbd.cells ?_;rw [qP (x:=(ps:Int)-tp-m) (by omega)];refine hpart.drew.slK (l:=0) (m:=ps-tp-m) rfl (.inl ⟨rfl,rfl⟩) (.inr (by simp;omega)) (by omega) (by simp;omega) λhmid=>?_;refine lSl (x:=f.ls) (h1d.blk.cells 3 _ rfl) ?_;refine hod.rd.slK (l:=ps) (m:=ls.length) rfl (.inr rfl) (.inl ⟨rfl,rfl⟩) (by omega) (le_refl _) λhback=>?_;refine qe5 h1d (by omega) λb bls w4 hob hlb hB4=>?_;have hB14:Uc w1 w4:=(Below.refl _ w1).drew.trans hB4;have hB04:Uc w w4:=hB1.trans (hB14.mono hB1.size);have h4:=h1.ext hB14;refine ⟨h4.blk.cells 3 _ rfl,h4.blk.cells 3 _ rfl,?_⟩;refine nwb λw5 hb5 hB5 hs5=>?_;have hB45:Below w1.drew.heap.size w1.drew w5:=hB4.trans (hB5.mono hB4.size);have hA:=q7z (hfront.ext hB45) (hob.rd.ext hB5) (hmid.ext hB45) (hback.ext hB45);have hbl:=hlb.1;rw [List.length_replicate] at hbl;refine qn4 ?_ hA ?_ (by simp) λq w6 ho6 hB6=>?_
   ·exact rd_lits (E:=zhs) (ys:=[_,_,_,_]) hb5 (by simp [maxLen]) rfl
   ·simp;omega
   have hB06:Uc w w6:=hB04.trans ((hB5.trans (hB6.mono hB5.size)).mono hB04.size);have hB16:Uc w1 w6:=hB14.trans ((hB5.trans (hB6.mono hB5.size)).mono hB14.size);have hB46:Uc w4 w6:=hB5.trans (hB6.mono hB5.size);have h6:=h1.ext hB16;have hl6:=hl.ext hB16;have hs15:w1.heap.size<=w5.heap.size:=by have:=hB14.size;have:=hB5.size;omega
   have hs01:=hB1.size;have hlb6:Lines w6 base bls (List.replicate m (XE S.cols a)):=⟨hlb.1,λi t xs x1 x2=>((hlb.2 i t xs x1 x2).ext hB46).base (by show base<=w1.heap.size;omega)⟩;have hfresh:∀k,q.blk=some k->w.heap.size<=k:=λk hk=>by have:=(ho6.lt k hk).1;omega
   have hrow:=ho6.base (base':=base) (by omega);have hlines:=(((hl6.take tp).drop 0).append (hlb6.append (((((hl6.take ps).drop tp).take (ps-tp-m)).drop 0).append (((hl6.take ls.length).drop ps).append (Lines.nil w6 base)))));rw [q4];refine qw h6.blk (by simp) λw7 hb7 hg7 hs7=>?_;have h7:=h6.newRow (B:=0) (top:=S.top) hrow hlines (λk hk=>?_) hb7 hg7 (zero_le _)
   ·have hneg':¬(n>0/\(tp:Int)=0):=by omega
    have hneg2:¬n>0:=by omega
    rw [if_neg hneg',if_neg hneg2,if_pos (.inr (.inl hneg))] at hK;refine hK ⟨f.g,f.r,q,f.rs⟩ w7 ?_ ⟨rfl,rfl,.inr hfresh,.inl rfl⟩ ((Chg.of_ext (S:=xo f) hB06).trans (S':=λk=>k=f.g) (Chg.of_grown hg7 λk hk=>by cases hk;rfl) λi _ hi=>.inl hi);have e:List.take tp S.L++List.replicate m (XE S.cols a)++List.drop tp (List.take (ps-m) S.L)++List.drop ps S.L=List.drop 0 (List.take tp S.L)++(List.replicate m (XE S.cols a)++(List.drop 0 (List.take (ps-tp-m) (List.drop tp (List.take ps S.L)))++(List.drop ps (List.take ls.length S.L)++[]))):=by
     rw [drop_zero,drop_zero,List.append_nil,qvg,List.take_take,hll,List.take_length];rw [show min (tp+(ps-tp-m)) ps=ps-m by omega];simp
    rw [show ((tp:Int)).toNat=tp from rfl,show ((ps:Int)).toNat=ps from rfl,e];exact h7
   ·have hk':=hfresh k hk;refine ⟨λe=>?_,λe=>?_,λe=>?_⟩
    ·have:=(h.below k (.inl e)).2;omega
    ·have:=(h.below k (.inr (.inl e))).2;omega
    ·have:=(h.below k (.inr (.inr (.inr e)))).2;omega
  ·have hpos:n>0:=by simpa using hpos
   refine hpart.drew.slK3 (l:=0) (m:=m) rfl (.inl ⟨rfl,rfl⟩) rfl rfl (by omega) (by simp;omega) λhgone=>?_;refine lSl (x:=f.ls) (h1d.blk.cells 3 _ rfl) ?_;refine hod.rd.slK3 (l:=0) (m:=tp) rfl (.inl ⟨rfl,rfl⟩) rfl rfl (by omega) (by omega) λhfront=>?_;refine hpart.drew.slK (l:=m) (m:=((ls.take ps).drop tp).length) rfl (.inr rfl) (.inl ⟨rfl,rfl⟩) (by simp;omega) (le_refl _) λhrest=>?_;refine qx (x:=a) hbd.cells ?_;refine lSl (x:=f.ls) (h1d.blk.cells 3 _ rfl) ?_;refine hod.rd.slK (l:=ps) (m:=ls.length) rfl (.inr rfl) (.inl ⟨rfl,rfl⟩) (by omega) (le_refl _) λhback=>?_;refine qe5 h1d (by omega) λb bls w4 hob hlb hB4=>?_;have hB14:Uc w1 w4:=(Below.refl _ w1).drew.trans hB4;have hB04:Uc w w4:=hB1.trans (hB14.mono hB1.size);have h4:=h1.ext hB14;refine ⟨h4.blk.cells 3 _ rfl,h4.blk.cells 3 _ rfl,?_⟩;refine nwb λw5 hb5 hB5 hs5=>?_;have hB45:Below w1.drew.heap.size w1.drew w5:=hB4.trans (hB5.mono hB4.size);have hA:=q7z (hfront.ext hB45) (hrest.ext hB45) (hob.rd.ext hB5) (hback.ext hB45);have hbl:=hlb.1;rw [List.length_replicate] at hbl;refine qn4 ?_ hA ?_ (by simp) λq w6 ho6 hB6=>?_
   ·exact rd_lits (E:=zhs) (ys:=[_,_,_,_]) hb5 (by simp [maxLen]) rfl
   ·simp;omega
   have hB06:Uc w w6:=hB04.trans ((hB5.trans (hB6.mono hB5.size)).mono hB04.size);have hB16:Uc w1 w6:=hB14.trans ((hB5.trans (hB6.mono hB5.size)).mono hB14.size);have hB46:Uc w4 w6:=hB5.trans (hB6.mono hB5.size);have h6:=h1.ext hB16;have hl6:=hl.ext hB16;have hs15:w1.heap.size<=w5.heap.size:=by have:=hB14.size;have:=hB5.size;omega
   have hs01:=hB1.size;have hlb6:Lines w6 base bls (List.replicate m (XE S.cols a)):=⟨hlb.1,λi t xs x1 x2=>((hlb.2 i t xs x1 x2).ext hB46).base (by show base<=w1.heap.size;omega)⟩;have hfresh:∀k,q.blk=some k->w.heap.size<=k:=λk hk=>by have:=(ho6.lt k hk).1;omega
   have hrow:=ho6.base (base':=base) (by omega);have hlines:=(((hl6.take tp).drop 0).append (((((hl6.take ps).drop tp).take ((ls.take ps).drop tp).length).drop m).append (hlb6.append (((hl6.take ls.length).drop ps).append (Lines.nil w6 base)))));rw [q4];refine qw h6.blk (by simp) λw7 hb7 hg7 hs7=>?_;have hqne:∀k,q.blk=some k->k≠f.g/\k≠f.r/\f.rs.blk≠some k:=λk hk=>by
    have hk':=hfresh k hk;refine ⟨λe=>?_,λe=>?_,λe=>?_⟩
    ·have:=(h.below k (.inl e)).2;omega
    ·have:=(h.below k (.inr (.inl e))).2;omega
    ·have:=(h.below k (.inr (.inr (.inr e)))).2;omega
   have h7:=h6.newRow (B:=0) (top:=S.top) hrow hlines hqne hb7 hg7 (zero_le _);have e:List.take tp S.L++List.drop (tp+m) (List.take ps S.L)++List.replicate m (XE S.cols a)++List.drop ps S.L=List.drop 0 (List.take tp S.L)++(List.drop m (List.take ((ls.take ps).drop tp).length (List.drop tp (List.take ps S.L)))++(List.replicate m (XE S.cols a)++(List.drop ps (List.take ls.length S.L)++[]))):=by
    have e1:((ls.take ps).drop tp).length=((S.L.take ps).drop tp).length:=by simp [hll]
    rw [drop_zero,List.append_nil,e1,List.take_length,hll,List.take_length,List.drop_drop];simp
   have hc7:Chg (xo f) w w7:=(Chg.of_ext (S:=xo f) hB06).trans (S':=λk=>k=f.g) (Chg.of_grown hg7 λk hk=>by cases hk;rfl) λi _ hi=>.inl hi;rw [if_pos hpos,show ((tp:Int)).toNat=tp from rfl,show ((ps:Int)).toNat=ps from rfl,e] at hK;refine cO (λht=>?_) (λht=>?_)
   ·have ht:(tp:Int)≠0:=by simpa using ht
    rw [if_neg (λhh=>ht hh.2),if_pos (.inr (.inr ht))] at hK;exact hK ⟨f.g,f.r,q,f.rs⟩ w7 h7 ⟨rfl,rfl,.inr hfresh,.inl rfl⟩ hc7
   ·have ht:(tp:Int)=0:=by simpa using ht
    rw [if_pos ⟨hpos,ht⟩,if_neg (by rintro (hh | hh | hh);exact good hh;omega;exact hh ht)] at hK;have hB17:Chg (λk=>k=f.g) w6 w7:=Chg.of_grown hg7 λk hk=>by cases hk;rfl
    obtain ⟨g1,g2,g3⟩:=h1.g_ne;have hgone6:=hgone.ext (w':=w6) (hB45.trans (hB6.mono hB45.size));have hbr:Go.Vc.Own slE w7 base q _:=hrow.chg hB17 λk hk=>(hqne k hk).1;have notr:∀k cs,k=f.g->¬Blk w6 k qT cs:=λk cs hk hc=>h6.notC k cs (.inl hk) hc;have hgone7:Rd slE w7 _ _:=hgone6.chg hB17 λx hx hs=>by
     obtain ⟨y,hy,e1⟩:=cut_block hx;obtain ⟨z,hz,e2⟩:=cut_block hy;exact (g2 z.block (by simp [Slc.blk,hz])).1 (by rw [<-e2,<-e1];exact hs)
    have hlg:=((((hl6.take ps).drop tp).take m).drop 0).chg hB17 notr;refine zhu (f:=⟨f.g,f.r,q,f.rs⟩) (m:=m) h7 hgone7 (by simp;omega) hlg (λx hx hs=>?_) hmost (by have:=hB06.size;have:=hg7.size;omega) (by omega) λi f' w8 h8 hf8 hfl8 hc8=>?_
    ·obtain ⟨y,hy,e1⟩:=cut_block hx;obtain ⟨z,hz,e2⟩:=cut_block hy;have hzb:f.ls.blk=some z.block:=by simp [Slc.blk,hz]
     rw [e1,e2] at hs;rcases hs with e | e | e | e
     ·exact (g2 _ hzb).1 e
     ·exact (g2 _ hzb).2 e
     ·have:=hfresh _ e;have:=(h.below _ (.inr (.inr (.inl hzb)))).2;omega
     ·exact h.ne _ hzb e
    ·have hb8:=h8.blk;have hfg:f'.g=f.g:=hf8.g;rw [hfg] at hb8;refine lI (x:=S.top) (hb8.cells 4 _ rfl) ?_;rw [q4];refine qw hb8 (by simp) λw9 hb9 hg9 hs9=>?_;obtain ⟨ls8,ho8,hl8⟩:=h8.row;obtain ⟨k1,k2,k3⟩:=h8.g_ne;have hto:f.to ⟨f.g,f.r,q,f.rs⟩ w.heap.size:=⟨rfl,rfl,.inr hfresh,.inl rfl⟩;have h9:=h8.newRow (B:=0) (w2:=w9) (top:=i64.wrap (S.top+m)) ho8 hl8 (λk hk=>⟨(k2 k hk).1,(k2 k hk).2,h8.ne k hk⟩) (by rw [hfg];exact hb9) (by rw [hfg];exact hg9) (zero_le _);have hsz7:w.heap.size<=w7.heap.size:=by have:=hB06.size;have:=hg7.size;omega
     refine hK f' w9 ?_ (hto.trans hf8 hsz7) ((hc7.trans hc8 λi hi hs=>?_).trans (S':=λk=>k=f.g) (Chg.of_grown hg9 λk hk=>by cases hk;rfl) λi _ hi=>.inl hi)
     ·have ep:List.take m S.L=List.drop 0 (List.take m (List.drop tp (List.take ps S.L))):=by
       have:tp=0:=by omega
       subst this;rw [drop_zero,drop_zero,List.take_take,Nat.min_eq_left (by omega)]
      rw [ep];exact h9
     ·rcases hto.old i hs with e | e
      ·exact e
      ·omega)
 refine cO (λc1=>main _ ?_) (λc1=>cO (λc2=>main _ ?_) (λc2=>main _ ?_))
 ·have c1:=oTq c1;rw [qP (by omega)];split at hm<;>split<;>omega
 ·have c2:=oTq c2;rw [qP (by omega)];split at hm<;>split<;>omega
 ·have c1:=oFq c1;have c2:=oFq c2;rw [qP (by omega)];split at hm<;>split<;>omega
theorem qkc {cols:Nat} {L:List (List qO)} {rows:Nat} {top past n:Int} {a:vQ} (hL:L.length=rows) (h:¬Qh rows top past n):(qfe cols L top past n a).length=L.length:=by
 unfold Qh at h;have hm:(XY top past n:Int)=min (if n<0 then -n else n) (past-top):=by unfold XY;split<;>omega
 unfold qfe;dsimp only;generalize XY top past n=m at *;split
 ·simp only [List.length_append,List.length_take,List.length_drop,List.length_replicate];split at hm<;>omega
 ·simp only [List.length_append,List.length_take,List.length_drop,List.length_replicate];split at hm<;>omega
theorem qao {S:GS} {top past n:Int} {a:vQ} (hL:S.L.length=S.rows):(vM S top past n a).L.length=S.rows/\(vM S top past n a).rows=S.rows/\(vM S top past n a).cols=S.cols/\(vM S top past n a).most=S.most:=by
 unfold vM;split
 ·exact ⟨hL,rfl,rfl,rfl⟩
 ·next h =>
  split
  ·exact ⟨(qkc hL h).trans hL,rfl,rfl,rfl⟩
  ·exact ⟨(qkc hL h).trans hL,rfl,rfl,rfl⟩
section
variable {w w1 w2:World} {base:Nat} {f:Foot} {S:GS}
theorem GridM.setLine {i:Nat} {t:Slc} {xs:List qO} {ls:List Slc} (h:GridM w1 base f S) (hl:Lines w1 base ls S.L) (ht:Go.Vc.Own zr w1 base t xs) (ho:Go.Vc.Own slE w2 base f.ls (ls.set i t)) (hg:w1.grownBy w2 f.ls.blk) :
  GridM w2 base f { S with L:=S.L.set i xs }/\Chg (λk=>f.ls.blk=some k) w1 w2:=by
 have hc5:Chg (λk=>f.ls.blk=some k) w1 w2:=Chg.of_grown hg λk hk=>hk;have notC:∀k cs,f.ls.blk=some k->¬Blk w1 k qT cs:=λk cs hk=>h.notC k cs (.inr (.inr (.inl hk)));obtain ⟨g1,g2,g3⟩:=h.g_ne;refine ⟨⟨h.blk.chg hc5 λe=>(g2 _ e).1 rfl,h.hg,⟨ls.set i t,ho,(hl.chg hc5 notC).set i (ht.chg hc5 λg hg hs=>?_)⟩,h.ring.chg hc5 (λk hk hs=>?_) notC,h.ne⟩,hc5⟩
 ·obtain ⟨cs,hcs⟩:=ht.blk_t hg;exact notC g cs hs hcs
 ·rcases hk with rfl | hk
  ·exact (g2 _ hs).2 rfl
  ·exact h.ne k hs hk
theorem Chg.gg {k:Nat} (h:w1.grownBy w2 (some k)):Chg (λi=>i=k) w1 w2:=Chg.of_grown h λi hi=>by cases hi;rfl
end
section
variable {w:World} {base:Nat} {f:Foot} {S:GS}
theorem callR_plain {C:Cx} {g:Nat} {first cap:Array Value} {args:List Value} {ks:List Kind} {w:World} {K:Go.Vc.Cur ks} (hp:C.plain g=true) (h:qj C.P g (first.toList++args++cap.toList) ks w K) :
  jl C (.func (.func g) first cap) args ks w K:=by
 unfold jl qks;simp only [hp];exact h
end
end Go.Proofs.YtokfefnmpjohpaaGreatDoor
namespace Go.Vc
open Go.RowKit
open Builtin (delete_)
open IntKind (i64)
open _root_.List (mem_append mem_cons mem_map mem_singleton)
open _root_.Option (map_eq_some_iff)
structure Ent (V:Type) where
 k:Int
 v:V
 b:Nat
section
variable {V:Type} (enc:V->Value)
def Ent.val (e:Ent V):MapEntry:={ key:=.int .i64 e.k,val:=enc e.v,born:=e.b }
structure MapE (w:World) (r:Nat) (E:List (Ent V)) (clock:Nat):Prop where
 heap:w.heap[r]?=some (.map (E.map (Ent.val enc)).toArray clock)
 keys:E.Pairwise λx y=>x.k≠y.k
 stamps:E.Pairwise λx y=>x.b<y.b
 lt:∀e∈E,e.b<clock
 wf:∀e∈E,-9223372036854775808<=e.k/\e.k<=9223372036854775807
def Srt (L:List (Int×V)):Prop:=L.Pairwise λp q=>p.1<q.1
def zp (L:List (Int×V)) (k:Int):Option V:=(L.find? λp=>p.1==k).map (·.2)
def delL (L:List (Int×V)) (k:Int):List (Int×V):=L.filter λp=>p.1 !=k
def k8 (L:List (Int×V)) (k:Int) (v:V):List (Int×V):=match L with
 | []=>[(k,v)]
 | p::r=>if k<p.1 then (k,v)::p::r else if k=p.1 then (k,v)::r else p::k8 r k v
def vt (E:List (Ent V)):List (Int×V):=E.map λe=>(e.k,e.v)
def jc (w:World) (r:Nat) (L:List (Int×V)):Prop:=∃E clock,MapE enc w r E clock/\(vt E).Perm L/\Srt L
variable {enc}
theorem MapE.lt_heap {w:World} {r:Nat} {E:List (Ent V)} {clock:Nat} (h:MapE enc w r E clock):r<w.heap.size:=(Array.getElem?_eq_some_iff.1 h.heap).1
theorem jc.lt {w:World} {r:Nat} {L:List (Int×V)} (h:jc enc w r L):r<w.heap.size:=by
 obtain ⟨E,c,h,_⟩:=h;exact h.lt_heap
theorem jc.keep {w w':World} {r:Nat} {L:List (Int×V)} (h:jc enc w r L) (hk:w'.heap[r]?=w.heap[r]?):jc enc w' r L:=by
 obtain ⟨E,c,h,hp⟩:=h;exact ⟨E,c,⟨hk.trans h.heap,h.keys,h.stamps,h.lt,h.wf⟩,hp⟩
theorem jc.chg {S:Nat->Prop} {w w':World} {r:Nat} {L:List (Int×V)} (h:jc enc w r L) (hc:Chg S w w') (hS:¬S r):jc enc w' r L:=h.keep (hc.block r h.lt hS)
theorem jc.ext {w w':World} {r:Nat} {L:List (Int×V)} (h:jc enc w r L) (hb:Uc w w'):jc enc w' r L:=h.keep (hb.block r h.lt)
theorem jc.new (w:World):jc enc (w.alloc (.map #[] 0)) w.heap.size ([]:List (Int×V)):=by
 refine ⟨[],0,⟨?_,.nil,.nil,(λe he=>by cases he),(λe he=>by cases he)⟩,.refl _,.nil⟩;show (w.heap.push _)[w.heap.size]?=_;simp
theorem jc.ne_blk {w:World} {r g:Nat} {L:List (Int×V)} {t:TypeId} {vs:List Value} (h:jc enc w r L) (hb:Blk w g t vs):r≠g:=by
 rintro rfl;obtain ⟨E,c,h,_⟩:=h;have h1:=h.heap;unfold Blk at hb;rw [hb] at h1;cases h1
theorem jc.ne_own {T:Type} {El':El T} {w:World} {r base:Nat} {L:List (Int×V)} {s:Slc} {xs:List T} (h:jc enc w r L) (ho:Own El' w base s xs):∀k,s.blk=some k->k≠r:=λk hk e=>by
 obtain ⟨cs,hcs⟩:=ho.blk_t hk;exact h.ne_blk hcs e.symm
def Y2:List (Ent V)->Int->Option (Nat×V)
 | [],_=>none
 | e::r,k=>if k=e.k then some (0,e.v) else (Y2 r k).map λp=>(p.1+1,p.2)
theorem qrw (k:Int):∀(E:List (Ent V)) (i:Nat),Instr.findNow (.int .i64) (Ua k) (E.map (Ent.val enc)) i=some ((Y2 E k).map λp=>(i+p.1,enc p.2))
 | [],i=>rfl
 | e::r,i=>by
  rw [List.map_cons,Instr.findNow];have hs:Instr.sameNow (.int .i64) (Ua k) (Ent.val enc e).key=some (k==e.k):=by
   show (if (i64=i64) then some (k==e.k) else none)=_;rw [if_pos rfl]
  rw [hs,Y2];by_cases h:k=e.k
  ·rw [if_pos h,show (k==e.k)=true from beq_iff_eq.2 h];rfl
  ·rw [if_neg h,show (k==e.k)=false from beq_eq_false_iff_ne.2 h];dsimp only;rw [qrw k r (i+1)];cases Y2 r k with
   | none=>rfl
   | some p =>
    show some (some (i+1+p.1,enc p.2))=some (some (i+(p.1+1),enc p.2));rw [show i+1+p.1=i+(p.1+1) by omega]
theorem qp5 {k:Int} {v:V}:∀{E:List (Ent V)} {i:Nat},Y2 E k=some (i,v)->∃e,E[i]?=some e/\e.k=k/\e.v=v
 | e::r,i,h=>by
  rw [Y2] at h;by_cases hk:k=e.k
  ·rw [if_pos hk] at h;cases h;exact ⟨e,rfl,hk.symm,rfl⟩
  ·rw [if_neg hk] at h;obtain ⟨p,hp,e'⟩:=map_eq_some_iff.1 h;cases e';obtain ⟨x,hx,h1,h2⟩:=qp5 (E:=r) (i:=p.1) (by rw [hp]);exact ⟨x,hx,h1,h2⟩
theorem qkk {k:Int}:∀{E:List (Ent V)},Y2 E k=none->∀e∈E,e.k≠k
 | [],_,e,he=>by cases he
 | x::r,h,e,he=>by
  rw [Y2] at h;by_cases hk:k=x.k
  ·rw [if_pos hk] at h;cases h
  ·rw [if_neg hk] at h;have h:=Option.map_eq_none_iff.1 h;rcases mem_cons.1 he with rfl | he
   ·exact λe=>hk e.symm
   ·exact qkk h e he
theorem zG {L:List (Int×V)} (hs:Srt L) {k:Int} {v:V}:zp L k=some v↔(k,v)∈L:=by
 unfold zp;rw [map_eq_some_iff];constructor
 ·rintro ⟨p,hp,rfl⟩;have h1:=List.find?_some hp;have h2:=List.mem_of_find?_eq_some hp;have:p.1=k:=by simpa using h1
  rw [<-this];exact h2
 ·intro hm;cases hf:L.find? (λp=>p.1==k) with
  | none =>
   have:=List.find?_eq_none.1 hf (k,v) hm;simp at this
  | some q =>
   have h1:q.1=k:=by simpa using List.find?_some hf
   have h2:=List.mem_of_find?_eq_some hf;refine ⟨q,rfl,?_⟩;obtain ⟨qk,qv⟩:=q;subst h1;have:∀{M:List (Int×V)},Srt M->∀{a b c},(a,b)∈M->(a,c)∈M->b=c:=by
    intro M hM
    induction hM with
    | nil=>intro a b c h;cases h
    | cons hx _ ih =>
     intro a b c hb hc;rcases mem_cons.1 hb with e | hb
     ·rcases mem_cons.1 hc with e' | hc
      ·have:=e.trans e'.symm;cases this;rfl
      ·have:=hx _ hc;rw [<-e] at this;exact absurd this (Int.lt_irrefl _)
     ·rcases mem_cons.1 hc with e' | hc
      ·have:=hx _ hb;rw [<-e'] at this;exact absurd this (Int.lt_irrefl _)
      ·exact ih hb hc
   exact this hs h2 hm
theorem qw1 {E:List (Ent V)} {L:List (Int×V)} (hp:(vt E).Perm L) (hs:Srt L) (k:Int):(Y2 E k).map (·.2)=zp L k:=by
 cases hi:Y2 E k with
 | none =>
  cases hg:zp L k with
  | none=>rfl
  | some v =>
   have:=hp.mem_iff.2 ((zG hs).1 hg);obtain ⟨e,he,e2⟩:=mem_map.1 this;have e2:=congrArg Prod.fst e2;exact absurd e2 (qkk hi e he)
 | some p =>
  obtain ⟨i,v⟩:=p;obtain ⟨e,he,h1,h2⟩:=qp5 hi;refine ((zG hs).2 (hp.mem_iff.1 (mem_map.2 ⟨e,List.mem_of_getElem? he,?_⟩))).symm;rw [h1,h2]
def q3o (w:World) (r:Nat) (o:Obj):World:={ w with heap:=w.heap.setIfInBounds r o }
theorem qpq (w:World) (r:Nat) (o:Obj):Chg (λk=>k=r) w (q3o w r o) :=
 ⟨rfl,rfl,rfl,by show w.heap.size<=(w.heap.setIfInBounds r o).size;simp,λk _ hk=>by show (w.heap.setIfInBounds r o)[k]?=_;rw [Array.getElem?_setIfInBounds_ne (λe=>hk e.symm)]⟩
theorem qpw {w:World} {r:Nat} (o:Obj) (h:r<w.heap.size):(q3o w r o).heap[r]?=some o:=by
 show (w.heap.setIfInBounds r o)[r]?=_;simp [h]
theorem qkr (w:World) (r:Nat) (o:Obj):(q3o w r o).heap.size=w.heap.size:=by show (w.heap.setIfInBounds r o).size=_;simp
theorem Srt.nodup {L:List (Int×V)} (h:Srt L):L.Nodup:=h.imp λ{a b} hab e=>by rw [e] at hab;exact Int.lt_irrefl _ hab
theorem q2z {E:List (Ent V)} (h:E.Pairwise λx y=>x.k≠y.k):(vt E).Nodup:=List.pairwise_map.2 (h.imp λ{a b} hab e=>hab (congrArg Prod.fst e))
theorem zB {L:List (Int×V)} (hs:Srt L) (k:Int) (v:V):∀a b,(a,b)∈k8 L k v↔(a=k/\b=v)\/(a≠k/\(a,b)∈L):=by
 induction hs with
 | nil =>
  intro a b;simp [k8]
 | @cons p L' hp hs' ih =>
  intro a b;obtain ⟨pk,pv⟩:=p;rw [k8];dsimp only at hp ⊢;have hgt:∀{a b},(a,b)∈L'->pk<a:=λh=>hp _ h;by_cases h1:k<pk
  ·rw [if_pos h1];simp only [mem_cons,Prod.mk.injEq];constructor
   ·rintro (h | h | h)
    ·exact .inl h
    ·exact .inr ⟨by omega,.inl h⟩
    ·exact .inr ⟨by have:=hgt h;omega,.inr h⟩
   ·rintro (h | ⟨_,h | h⟩)
    ·exact .inl h
    ·exact .inr (.inl h)
    ·exact .inr (.inr h)
  ·rw [if_neg h1];by_cases h2:k=pk
   ·rw [if_pos h2];simp only [mem_cons,Prod.mk.injEq];constructor
    ·rintro (h | h)
     ·exact .inl h
     ·exact .inr ⟨by have:=hgt h;omega,.inr h⟩
    ·rintro (h | ⟨hne,h | h⟩)
     ·exact .inl h
     ·omega
     ·exact .inr h
   ·rw [if_neg h2];simp only [mem_cons,Prod.mk.injEq,ih];constructor
    ·rintro (h | h | ⟨hne,h⟩)
     ·exact .inr ⟨by omega,.inl h⟩
     ·exact .inl h
     ·exact .inr ⟨hne,.inr h⟩
    ·rintro (h | ⟨hne,h | h⟩)
     ·exact .inr (.inl h)
     ·exact .inl h
     ·exact .inr (.inr ⟨hne,h⟩)
theorem qdg {L:List (Int×V)} (hs:Srt L) (k:Int) (v:V):Srt (k8 L k v):=by
 induction hs with
 | nil=>exact List.pairwise_singleton _ _
 | @cons p L' hp hs' ih =>
  obtain ⟨pk,pv⟩:=p;rw [k8];dsimp only at hp ⊢;by_cases h1:k<pk
  ·rw [if_pos h1];refine .cons (λq hq=>?_) (.cons hp hs');rcases mem_cons.1 hq with rfl | hq
   ·exact h1
   ·exact Int.lt_trans h1 (hp q hq)
  ·rw [if_neg h1];by_cases h2:k=pk
   ·rw [if_pos h2];exact .cons (λq hq=>by rw [h2];exact hp q hq) hs'
   ·rw [if_neg h2];refine .cons (λq hq=>?_) ih;obtain ⟨a,b⟩:=q;rcases (zB hs' k v a b).1 hq with ⟨rfl,_⟩ | ⟨_,hm⟩
    ·show pk<a;omega
    ·exact hp _ hm
theorem qtg {L:List (Int×V)} (hs:Srt L) (k:Int):Srt (delL L k):=hs.filter _
theorem Zb {L:List (Int×V)} (k a:Int) (b:V):(a,b)∈delL L k↔a≠k/\(a,b)∈L:=by
 simp [delL,and_comm]
def qst (E:List (Ent V)) (i:Nat) (v:V):List (Ent V):=E.modify i λe=>{ e with v:=v }
theorem q3v {k:Int} {v v0:V}:∀{E:List (Ent V)} {i:Nat},E.Pairwise (λx y=>x.k≠y.k)->Y2 E k=some (i,v0)->∀a b,(a,b)∈vt (qst E i v)↔(a=k/\b=v)\/(a≠k/\(a,b)∈vt E)
 | e::r,i,hp,h,a,b=>by
  rw [Y2] at h;cases hp with
  | cons hpe hpr =>
  by_cases hk:k=e.k
  ·rw [if_pos hk] at h;cases h;show (a,b)∈(e.k,v)::vt r↔_\/(_/\(a,b)∈(e.k,e.v)::vt r);simp only [mem_cons,Prod.mk.injEq];have hne:∀{a b},(a,b)∈vt r->a≠k:=λ{a b} hm e'=>by
    obtain ⟨x,hx,ex⟩:=mem_map.1 hm;have:=congrArg Prod.fst ex;exact hpe x hx (by rw [<-hk,<-e'];exact this.symm)
   constructor
   ·rintro (⟨h1,h2⟩ | h)
    ·exact .inl ⟨by omega,h2⟩
    ·exact .inr ⟨hne h,.inr h⟩
   ·rintro (⟨h1,h2⟩ | ⟨h1,⟨h2,_⟩ | h⟩)
    ·exact .inl ⟨by omega,h2⟩
    ·omega
    ·exact .inr h
  ·rw [if_neg hk] at h;obtain ⟨p,hp',e'⟩:=map_eq_some_iff.1 h;cases e';have ih:=q3v (E:=r) (i:=p.1) hpr (by rw [hp']) a b (v:=v) (k:=k);show (a,b)∈(e.k,e.v)::vt (qst r p.1 v)↔_\/(_/\(a,b)∈(e.k,e.v)::vt r);simp only [mem_cons,Prod.mk.injEq,ih];constructor
   ·rintro (⟨h1,h2⟩ | h | ⟨h1,h2⟩)
    ·exact .inr ⟨by omega,.inl ⟨h1,h2⟩⟩
    ·exact .inl h
    ·exact .inr ⟨h1,.inr h2⟩
   ·rintro (h | ⟨h1,h | h⟩)
    ·exact .inr (.inl h)
    ·exact .inl h
    ·exact .inr (.inr ⟨h1,h⟩)
theorem qxy {k:Int} {v0:V}:∀{E:List (Ent V)} {i:Nat},E.Pairwise (λx y=>x.k≠y.k)->Y2 E k=some (i,v0)->E.eraseIdx i=E.filter λe=>e.k !=k
 | e::r,i,hp,h=>by
  rw [Y2] at h;cases hp with
  | cons hpe hpr =>
  by_cases hk:k=e.k
  ·rw [if_pos hk] at h;cases h;rw [List.eraseIdx_cons_zero,List.filter_cons,if_neg (by simp [hk])];refine (List.filter_eq_self.2 λx hx=>?_).symm;have:=hpe x hx;simp only [bne_iff_ne,ne_eq];rw [hk];exact λe=>this e.symm
  ·rw [if_neg hk] at h;obtain ⟨p,hp',e'⟩:=map_eq_some_iff.1 h;cases e';rw [List.eraseIdx_cons_succ,List.filter_cons,if_pos (by simpa using λe=>hk e.symm),qxy (E:=r) (i:=p.1) hpr (by rw [hp'])]
theorem q3k {k:Int} {E:List (Ent V)} (h:Y2 E k=none):E.filter (λe=>e.k !=k)=E:=List.filter_eq_self.2 λx hx=>by simpa using qkk h x hx
section
variable {P:Program} {t kt et:TypeId} {w:World} {r:Nat} {E:List (Ent V)} {clock:Nat}
theorem kz (hk:P.underlying kt=some (.int .i64)) (b:Bool) (k:Int):(Instr.checkKey b 10000 kt (Ua k)).run P w=.ok () w:=by
 show (Instr.checkKey b (9999+1) kt (Ua k)).run P w=_;rw [Instr.checkKey];simp only [Sem.run_bind,run_underlying hk,Result.andThen_ok,Sem.run_pure]
theorem xZ {es:Array MapEntry} (h:w.heap[r]?=some (.map es clock)):(getObj r).run P w=.ok (.map es clock) w:=by simp [getObj,Sem.run,h]
theorem qez {es:Array MapEntry} (o:Obj) (h:w.heap[r]?=some (.map es clock)):(setObj r o).run P w=.ok () (q3o w r o):=by simp [setObj,Sem.run,h,q3o]
theorem qbc (hk:P.underlying kt=some (.int .i64)) (k:Int):(Instr.findKey kt (Ua k) (E.map (Ent.val enc))).run P w=.ok ((Y2 E k).map λp=>(p.1,enc p.2)) w:=by
 have:=qrw (enc:=enc) k E 0;simp only [Nat.zero_add] at this;simp [Instr.findKey,run_underlying hk,this]
theorem MapE.lookup (h:MapE enc w r E clock) (ht:P.underlying t=some (.map kt et)) (hk:P.underlying kt=some (.int .i64)) {z:Value} (hz:∀w,(zeroValue et).run P w=.ok z w) (k:Int) :
  (Instr.lookup t (.map (some r)) (Ua k) false).run P w=.ok (((Y2 E k).map λp=>enc p.2).getD z) w:=by
 have hf:=qbc (P:=P) (kt:=kt) (w:=w) (enc:=enc) (E:=E) hk k;cases hi:Y2 E k with
 | none =>
  rw [hi] at hf;simp [Instr.lookup,run_underlying ht,xZ h.heap,kz hk,hf,hz]
 | some p =>
  rw [hi] at hf;simp [Instr.lookup,run_underlying ht,xZ h.heap,kz hk,hf]
theorem MapE.lookup_ok (h:MapE enc w r E clock) (ht:P.underlying t=some (.map kt et)) (hk:P.underlying kt=some (.int .i64)) {z:Value} (hz:∀w,(zeroValue et).run P w=.ok z w) (k:Int) :
  (Instr.lookup t (.map (some r)) (Ua k) true).run P w=.ok (.tuple #[((Y2 E k).map λp=>enc p.2).getD z,.bool (Y2 E k).isSome]) w:=by
 have hf:=qbc (P:=P) (kt:=kt) (w:=w) (enc:=enc) (E:=E) hk k;cases hi:Y2 E k with
 | none =>
  rw [hi] at hf;simp [Instr.lookup,run_underlying ht,xZ h.heap,kz hk,hf,hz]
 | some p =>
  rw [hi] at hf;simp [Instr.lookup,run_underlying ht,xZ h.heap,kz hk,hf]
end
end
section
variable {V:Type} {enc:V->Value} {P:Program} {t kt et:TypeId} {w:World} {r:Nat} {L:List (Int×V)}
theorem qqj {E:List (Ent V)} (hp:(vt E).Perm L):E.length=L.length:=by rw [<-hp.length_eq];simp [vt]
theorem jc.lookup (h:jc enc w r L) (ht:P.underlying t=some (.map kt et)) (hk:P.underlying kt=some (.int .i64)) {z:Value} (hz:∀w,(zeroValue et).run P w=.ok z w) (k:Int) :
  (Instr.lookup t (.map (some r)) (Ua k) false).run P w=.ok (((zp L k).map enc).getD z) w:=by
 obtain ⟨E,c,hE,hp,hs⟩:=h;rw [hE.lookup ht hk hz k,<-qw1 hp hs k];simp only [Option.map_map];rfl
theorem jc.lookup_ok (h:jc enc w r L) (ht:P.underlying t=some (.map kt et)) (hk:P.underlying kt=some (.int .i64)) {z:Value} (hz:∀w,(zeroValue et).run P w=.ok z w) (k:Int) :
  (Instr.lookup t (.map (some r)) (Ua k) true).run P w=.ok (.tuple #[((zp L k).map enc).getD z,.bool (zp L k).isSome]) w:=by
 obtain ⟨E,c,hE,hp,hs⟩:=h;rw [hE.lookup_ok ht hk hz k,<-qw1 hp hs k];simp only [Option.map_map,Option.isSome_map];rfl
theorem jc.srt (h:jc enc w r L):Srt L:=by obtain ⟨_,_,_,_,hs⟩:=h;exact hs
theorem jc.update (h:jc enc w r L) (ht:P.underlying t=some (.map kt et)) (hk:P.underlying kt=some (.int .i64)) {k:Int} (hk1:-9223372036854775808<=k/\k<=9223372036854775807) (v:V) :
  ∃w',(Instr.mapUpdate t (.map (some r)) (Ua k) (enc v)).run P w=.ok () w'/\jc enc w' r (k8 L k v)/\Chg (λk=>k=r) w w'/\w'.heap.size=w.heap.size:=by
 obtain ⟨E,c,hE,hp,hs⟩:=h;have hf:=qbc (P:=P) (kt:=kt) (w:=w) (enc:=enc) (E:=E) hk k;have hkeys:∀{E':List (Ent V)},(∀a b,(a,b)∈vt E'↔(a=k/\b=v)\/(a≠k/\(a,b)∈vt E))->(E'.Pairwise λx y=>x.k≠y.k)->(vt E').Perm (k8 L k v):=λ{E'} hm hk' =>
  (List.perm_ext_iff_of_nodup (q2z hk') (qdg hs k v).nodup).2 λp=>by
   obtain ⟨a,b⟩:=p;rw [hm a b,zB hs k v a b,hp.mem_iff]
 cases hi:Y2 E k with
 | none =>
  rw [hi] at hf;have hno:=qkk hi;refine ⟨q3o w r (.map ((E++[(⟨k,v,c⟩:Ent V)]).map (Ent.val enc)).toArray (c+1)),?_,⟨E++[(⟨k,v,c⟩:Ent V)],c+1,⟨qpw _ hE.lt_heap,?_,?_,?_,?_⟩,hkeys (λa b=>?_) ?_,qdg hs k v⟩,qpq _ _ _,qkr _ _ _⟩
  ·have hpush:(E.map (Ent.val enc)).toArray.push { key:=.int .i64 k,val:=enc v,born:=c }=((E++[(⟨k,v,c⟩:Ent V)]).map (Ent.val enc)).toArray:=by simp [Ent.val]
   rw [<-hpush];simp [Instr.mapUpdate,run_underlying ht,xZ hE.heap,kz hk,hf,qez _ hE.heap]
  ·refine List.pairwise_append.2 ⟨hE.keys,List.pairwise_singleton _ _,λx hx y hy=>?_⟩;rw [mem_singleton] at hy;subst hy;exact hno x hx
  ·refine List.pairwise_append.2 ⟨hE.stamps,List.pairwise_singleton _ _,λx hx y hy=>?_⟩;rw [mem_singleton] at hy;subst hy;exact hE.lt x hx
  ·intro e he;rcases mem_append.1 he with he | he
   ·have:=hE.lt e he;omega
   ·rw [mem_singleton] at he;subst he;exact Nat.lt_succ_self _
  ·intro e he;rcases mem_append.1 he with he | he
   ·exact hE.wf e he
   ·rw [mem_singleton] at he;subst he;exact hk1
  ·have e1:vt (E++[(⟨k,v,c⟩:Ent V)])=vt E++[(k,v)]:=by simp [vt]
   rw [e1,mem_append,mem_singleton,Prod.mk.injEq];constructor
   ·rintro (h | h)
    ·refine .inr ⟨λe=>?_,h⟩;obtain ⟨x,hx,ex⟩:=mem_map.1 h;exact hno x hx (by rw [<-e];exact congrArg Prod.fst ex)
    ·exact .inl h
   ·rintro (h | ⟨_,h⟩)
    ·exact .inr h
    ·exact .inl h
  ·refine List.pairwise_append.2 ⟨hE.keys,List.pairwise_singleton _ _,λx hx y hy=>?_⟩;rw [mem_singleton] at hy;subst hy;exact hno x hx
 | some p =>
  obtain ⟨i,v0⟩:=p;rw [hi] at hf;obtain ⟨e,he,hek,hev⟩:=qp5 hi;have hil:i<E.length:=(List.getElem?_eq_some_iff.1 he).1;have hm:=q3v (v:=v) hE.keys hi;have hmod:∀{Q:Ent V->Prop},(∀x∈E,Q x->Q { x with v:=v })->(∀x∈E,Q x)->∀x∈qst E i v,Q x:=λ{Q} h1 h2 x hx=>by
   unfold qst at hx;obtain ⟨j,hj⟩:=List.getElem?_of_mem hx;rw [List.getElem?_modify] at hj;obtain ⟨y,hy,hxy⟩:=map_eq_some_iff.1 hj;have hym:=List.mem_of_getElem? hy;by_cases hij:i=j
   ·rw [if_pos hij] at hxy;rw [<-hxy];exact h1 y hym (h2 y hym)
   ·rw [if_neg hij] at hxy;rw [<-hxy];exact h2 y hym
  have hmap:∀{A:Type} (f:Ent V->A),(∀x,f { x with v:=v }=f x)->(qst E i v).map f=E.map f:=λ{A} f hf'=>by
   refine List.ext_getElem? λj=>?_;unfold qst;rw [List.getElem?_map,List.getElem?_modify,List.getElem?_map];cases E[j]? with
   | none=>rfl
   | some x =>
    show some (f (if i=j then { x with v:=v } else x))=some (f x);by_cases hij:i=j
    ·rw [if_pos hij,hf' x]
    ·rw [if_neg hij]
  have hks:(qst E i v).Pairwise λx y=>x.k≠y.k:=by
   have h1:=hE.keys;rw [<-List.pairwise_map (f:=λe:Ent V=>e.k) (R:=λa b=>a≠b)] at h1 ⊢
   rwa [hmap (λe=>e.k) (λ_=>rfl)]
  have hst:(qst E i v).Pairwise λx y=>x.b<y.b:=by
   have h1:=hE.stamps;rw [<-List.pairwise_map (f:=λe:Ent V=>e.b) (R:=λa b=>a<b)] at h1 ⊢
   rwa [hmap (λe=>e.b) (λ_=>rfl)]
  have harr:(E.map (Ent.val enc)).toArray.modify i (λx=>{ x with key:=.int .i64 k,val:=enc v })=((qst E i v).map (Ent.val enc)).toArray:=by
   apply Array.ext';refine List.ext_getElem? λj=>?_;rw [Array.getElem?_toList,Array.getElem?_modify];unfold qst;rw [List.getElem?_toArray,List.getElem?_map,List.getElem?_map,List.getElem?_modify];by_cases hij:i=j
   ·subst hij;rw [if_pos rfl,he];show some _=some (Ent.val enc (if i=i then { e with v:=v } else e));rw [if_pos rfl];simp [Ent.val,hek]
   ·rw [if_neg hij];cases E[j]? with
    | none=>rfl
    | some x=>show some (Ent.val enc x)=some (Ent.val enc (if i=j then { x with v:=v } else x));rw [if_neg hij]
  refine ⟨q3o w r (.map ((qst E i v).map (Ent.val enc)).toArray c),?_,⟨qst E i v,c,⟨qpw _ hE.lt_heap,hks,hst,hmod (Q:=λe=>e.b<c) (λ_ _ h=>h) hE.lt,hmod (Q:=λe=>-9223372036854775808<=e.k/\e.k<=9223372036854775807) (λ_ _ h=>h) hE.wf⟩,hkeys hm hks,qdg hs k v⟩,qpq _ _ _,qkr _ _ _⟩;have hold:((((E.map (Ent.val enc)).toArray[i]?).map (·.key)).getD (Ua k))=.int .i64 k:=by
   rw [List.getElem?_toArray,List.getElem?_map,he];show Value.int .i64 e.k=_;rw [hek]
  have hstay:(Instr.keyThatStays (Ua k) (Ua k)).run P w=.ok (Ua k) w:=by
   unfold Instr.keyThatStays;have:Instr.sameBits 10000 (Ua k) (Ua k)=true:=by
    show Instr.sameBits (9999+1) (Ua k) (Ua k)=true;rw [Instr.sameBits];simp
   rw [if_pos this];rfl
  rw [<-harr];unfold Instr.mapUpdate;simp only [Sem.run_bind,run_underlying ht,Result.andThen_ok,xZ hE.heap,kz hk,hf,hold,hstay,Option.map_some];exact qez _ hE.heap
theorem qmb {A B:Type} (f:A->B):∀(l:List A) (i:Nat),(l.map f).eraseIdx i=(l.eraseIdx i).map f
 | [],_=>rfl
 | _::_,0=>rfl
 | a::l,i+1=>by simp [List.eraseIdx,qmb f l i]
theorem jc.delete (h:jc enc w r L) (ht:P.underlying t=some (.map kt et)) (hk:P.underlying kt=some (.int .i64)) (k:Int) (ty:TypeId) :
  ∃w',(delete_ #[t,kt] ty #[.map (some r),.int .i64 k]).run P w=.ok (.tuple #[]) w'/\jc enc w' r (delL L k)/\Chg (λk=>k=r) w w'/\w'.heap.size=w.heap.size:=by
 obtain ⟨E,c,hE,hp,hs⟩:=h;have hf:=qbc (P:=P) (kt:=kt) (w:=w) (enc:=enc) (E:=E) hk k;have hfil:jc enc (q3o w r (.map ((E.filter λe=>e.k !=k).map (Ent.val enc)).toArray c)) r (delL L k):=by
  refine ⟨E.filter λe=>e.k !=k,c,⟨qpw _ hE.lt_heap,hE.keys.filter _,hE.stamps.filter _,λe he=>hE.lt e ((List.mem_filter.1 he).1),λe he=>hE.wf e ((List.mem_filter.1 he).1)⟩,?_,qtg hs k⟩;have e1:vt (E.filter λe=>e.k !=k)=(vt E).filter λp=>p.1 !=k:=by
   unfold vt;rw [List.filter_map];rfl
  rw [e1];exact hp.filter _
 cases hi:Y2 E k with
 | none =>
  rw [hi] at hf;rw [q3k hi] at hfil;refine ⟨_,?_,hfil,qpq _ _ _,qkr _ _ _⟩;simp [delete_,run_underlying ht,xZ hE.heap,kz hk,hf,qez _ hE.heap]
 | some p =>
  obtain ⟨i,v0⟩:=p;rw [hi] at hf;rw [<-qxy hE.keys hi] at hfil;refine ⟨_,?_,hfil,qpq _ _ _,qkr _ _ _⟩;have harr:(E.map (Ent.val enc)).toArray.eraseIdxIfInBounds i=((E.eraseIdx i).map (Ent.val enc)).toArray:=by
   simp [qmb]
  rw [<-harr];simp [delete_,run_underlying ht,xZ hE.heap,kz hk,hf,qez _ hE.heap]
theorem jc.len (h:jc enc w r L) (ht:P.underlying t=some (.map kt et)) (ty:TypeId):(Builtin.len_ #[t] ty #[.map (some r)]).run P w=.ok (Ua (L.length:Int)) w:=by
 obtain ⟨E,c,hE,hp,hs⟩:=h;rw [<-qqj hp];simp [Builtin.len_,run_underlying ht,xZ hE.heap]
 try rfl
end
end Go.Vc
namespace Go.Proofs.YtokfefnmpjohpaaGreatDoor
open Go.Vc Go.RowKit
def qkb:Int->List Bool->List (Int×Unit)
 | _,[]=>[]
 | i,b::r=>if b then (i,())::qkb (i+1) r else qkb (i+1) r
def keysB (B:List Bool):List (Int×Unit):=qkb 0 B
theorem qqb:∀{B:List Bool} {i a:Int} {u:Unit},(a,u)∈qkb i B↔∃j:Nat,a=i+j/\B[j]?=some true
 | [],i,a,u=>by simp [qkb]
 | b::r,i,a,u=>by
  have ih:=qqb (B:=r) (i:=i+1) (a:=a) (u:=u);have key:(∃j:Nat,a=i+1+j/\r[j]?=some true)↔∃j:Nat,a=i+((j+1:Nat):Int)/\(b::r)[j+1]?=some true:=by
   simp only [List.getElem?_cons_succ];constructor
   ·rintro ⟨j,h,h'⟩;exact ⟨j,by omega,h'⟩
   ·rintro ⟨j,h,h'⟩;exact ⟨j,by omega,h'⟩
  rw [qkb];cases b with
  | true =>
   rw [if_pos rfl,List.mem_cons,ih,key];constructor
   ·rintro (h | ⟨j,h,h'⟩)
    ·exact ⟨0,by cases h;simp,rfl⟩
    ·exact ⟨j+1,h,h'⟩
   ·rintro ⟨j,h,h'⟩;cases j with
    | zero=>exact .inl (by rw [h];simp)
    | succ j=>exact .inr ⟨j,h,h'⟩
  | false =>
   rw [if_neg (by simp),ih,key];constructor
   ·rintro ⟨j,h,h'⟩;exact ⟨j+1,h,h'⟩
   ·rintro ⟨j,h,h'⟩;cases j with
    | zero=>simp at h'
    | succ j=>exact ⟨j,h,h'⟩
theorem qp2:∀(B:List Bool) (i:Int),Srt (qkb i B)
 | [],i=>.nil
 | b::r,i=>by
  rw [qkb];cases b with
  | true =>
   rw [if_pos rfl];refine List.pairwise_cons.2 ⟨λp hp=>?_,qp2 r (i+1)⟩;obtain ⟨a,u⟩:=p;obtain ⟨j,h,_⟩:=qqb.1 hp;show i<a;omega
  | false=>rw [if_neg (by simp)];exact qp2 r (i+1)
theorem qxd {B:List Bool} {a:Int} {u:Unit}:(a,u)∈keysB B↔∃j:Nat,a=j/\B[j]?=some true:=by
 unfold keysB;rw [qqb];simp
theorem vY (B:List Bool):Srt (keysB B):=qp2 B 0
theorem qpa {L M:List (Int×Unit)} (h:Srt L) (h':Srt M) (hm:∀a,(a,())∈L↔(a,())∈M):L=M:=by
 have hp:L.Perm M:=(List.perm_ext_iff_of_nodup h.nodup h'.nodup).2 λp=>by obtain ⟨a,u⟩:=p;exact hm a
 refine hp.eq_of_pairwise (le:=λp q:Int×Unit=>p.1<=q.1) (λa b _ _ h1 h2=>?_) (h.imp λh=>Int.le_of_lt h) (h'.imp λh=>Int.le_of_lt h);obtain ⟨a,u⟩:=a;obtain ⟨b,v⟩:=b;have:a=b:=Int.le_antisymm h1 h2;subst this;rfl
def qzg (j:Nat):Bool:=decide (0<j) && decide (j%8=0)
def Vh (B:List Bool) (n:Nat):List Bool:=(List.range n).map λj=>(B[j]?).getD (qzg j)
@[simp] theorem resz_length (B:List Bool) (n:Nat):(Vh B n).length=n:=by simp [Vh]
theorem qvc {B:List Bool} {n j:Nat}:(Vh B n)[j]?=if j<n then some ((B[j]?).getD (qzg j)) else none:=by
 unfold Vh;rw [List.getElem?_map];by_cases h:j<n
 ·rw [if_pos h,List.getElem?_range h];rfl
 ·rw [if_neg h,List.getElem?_eq_none (by simpa using h)];rfl
theorem za2 (B:List Bool):Vh B B.length=B:=by
 refine List.ext_getElem? λj=>?_;rw [qvc];split
 ·rename_i h;rw [List.getElem?_eq_getElem h];rfl
 ·rename_i h;rw [List.getElem?_eq_none (by omega)]
theorem YR {B:List Bool} {n:Nat} {a:Int} {u:Unit}:(a,u)∈keysB (Vh B n)↔∃j:Nat,a=j/\j<n/\(B[j]?).getD (qzg j)=true:=by
 rw [qxd];constructor
 ·rintro ⟨j,h,h'⟩;rw [qvc] at h';split at h'
  ·rename_i hj;exact ⟨j,h,hj,by simpa using h'⟩
  ·cases h'
 ·rintro ⟨j,h,hj,h'⟩;exact ⟨j,h,by rw [qvc,if_pos hj,h']⟩
theorem zeb {B:List Bool} (h:B.length<=1):keysB (Vh B 1)=keysB B:=by
 refine qpa (vY _) (vY _) λa=>?_;rw [YR,qxd];constructor
 ·rintro ⟨j,rfl,hj,h'⟩;obtain rfl:j=0:=by omega
  refine ⟨0,rfl,?_⟩;cases hb:B[0]? with
  | none=>rw [hb] at h';cases h'
  | some b=>rw [hb] at h';exact congrArg some h'
 ·rintro ⟨j,rfl,h'⟩;have:j<B.length:=(List.getElem?_eq_some_iff.1 h').1;exact ⟨j,rfl,by omega,by rw [h'];rfl⟩
theorem qwy {B:List Bool} {n:Nat} (h:B.length<=n):(qzg n=true->k8 (keysB (Vh B n)) (n:Int) ()=keysB (Vh B (n+1)))/\(qzg n=false->keysB (Vh B n)=keysB (Vh B (n+1))):=by
 have hn:B[n]?=none:=List.getElem?_eq_none h;constructor
 ·intro hd;refine qpa (qdg (vY _) _ _) (vY _) λa=>?_;rw [zB (vY _),YR,YR];constructor
  ·rintro (⟨rfl,_⟩ | ⟨hne,j,rfl,hj,h'⟩)
   ·exact ⟨n,rfl,by omega,by rw [hn];exact hd⟩
   ·exact ⟨j,rfl,by omega,h'⟩
  ·rintro ⟨j,rfl,hj,h'⟩;by_cases e:j=n
   ·exact .inl ⟨by rw [e],rfl⟩
   ·exact .inr ⟨by omega,j,rfl,by omega,h'⟩
 ·intro hd;refine qpa (vY _) (vY _) λa=>?_;rw [YR,YR];constructor
  ·rintro ⟨j,rfl,hj,h'⟩;exact ⟨j,rfl,by omega,h'⟩
  ·rintro ⟨j,rfl,hj,h'⟩;refine ⟨j,rfl,?_,h'⟩;have:j≠n:=λe=>by subst e;rw [hn] at h';rw [show (none:Option Bool).getD (qzg j)=qzg j from rfl,hd] at h';cases h'
   omega
theorem zdd {B:List Bool} {n m:Nat} (h:n<=m):(keysB (Vh B m)).filter (λp=>decide (p.1<(n:Int)))=keysB (Vh B n):=by
 refine qpa ((vY _).filter _) (vY _) λa=>?_;rw [List.mem_filter,YR,YR];constructor
 ·rintro ⟨⟨j,rfl,hj,h'⟩,hlt⟩;have:=oTq hlt;exact ⟨j,rfl,by simp at this;omega,h'⟩
 ·rintro ⟨j,rfl,hj,h'⟩;exact ⟨⟨j,rfl,by omega,h'⟩,by simp;omega⟩
end Go.Proofs.YtokfefnmpjohpaaGreatDoor
set_option maxRecDepth 100000
namespace Go.Proofs
open Go.RowKit Go.Maps Go.Sort Go.Shelf Go.Vc
open _root_.List (map_map)
def Tryz.keysA_ren:Go.Shelf.Ren:=⟨λ| 7=>30 | 10=>66 | n=>n,λ| 23=>77 | 26=>3 | 3=>79 | 28=>75 | 0=>0 | 27=>74 | 33=>136 | 4=>4 | n=>n,λ| n=>n⟩
theorem Tryz.keysA:Go.Proofs.SlLaysZI.n7 Tryz.prog Tryz.keysA_ren:={
 mixed:=by kernel_rfl
 f7:=⟨Tryz.f30.name,by decide,Tryz.func30.trans (congrArg some (by kernel_rfl))⟩
 f10:=⟨Tryz.f66.name,by decide,Tryz.func66.trans (congrArg some (by kernel_rfl))⟩
 t0:=Tryz.underlying0
 a0:=Tryz.isAgg0
 z0:=Tryz.sizeOf0
 v0:=Tryz.zeroValue0
 t4:=Tryz.underlying4
 a4:=Tryz.isAgg4
 z4:=Tryz.sizeOf4
 v4:=Tryz.zeroValue4
 t23:=Tryz.underlying77
 a23:=Tryz.isAgg77
 z23:=Tryz.sizeOf77
 v23:=Tryz.zeroValue77
 t26:=Tryz.underlying3
 a26:=Tryz.isAgg3
 z26:=Tryz.sizeOf3
 v26:=Tryz.zeroValue3
 t27:=Tryz.underlying74
 a27:=Tryz.isAgg74
 z27:=Tryz.sizeOf74
 v27:=Tryz.zeroValue74
 t28:=Tryz.underlying75
 a28:=Tryz.isAgg75
 z28:=Tryz.sizeOf75
 v28:=Tryz.zeroValue75
 t33:=Tryz.underlying136
 a33:=Tryz.isAgg136
 z33:=Tryz.sizeOf136
 v33:=Tryz.zeroValue136 }
def Tryz.sortedA_ren:Go.Shelf.Ren:=⟨λ| 6=>29 | 8=>64 | 9=>65 | 11=>120 | 13=>122 | 12=>121 | 23=>199 | 24=>200 | 14=>190 | 15=>191 | 16=>192 | 17=>193 | 18=>194 | 19=>195 | 20=>196 | 21=>197 | 22=>198 | 25=>284 | 26=>285 | 27=>286 | 28=>287 | 29=>288 | 30=>289 | 31=>349 | n=>n,λ| 26=>3 | 28=>75 | 24=>22 | 0=>0 | 3=>3 | 37=>129 | 48=>128 | 50=>285 | 4=>4 | 40=>277 | 39=>276 | 45=>281 | 5=>5 | 9=>9 | 51=>330 | 55=>334 | 57=>379 | 58=>223 | 33=>136 | n=>n,λ| n=>n⟩
theorem Tryz.sortedA:Go.Proofs.SlLaysZI.n6 Tryz.prog Tryz.sortedA_ren:={
 mixed:=by kernel_rfl
 f6:=⟨Tryz.f29.name,by decide,Tryz.func29.trans (congrArg some (by kernel_rfl))⟩
 f8:=⟨Tryz.f64.name,by decide,Tryz.func64.trans (congrArg some (by kernel_rfl))⟩
 f11:=⟨Tryz.f120.name,by decide,Tryz.func120.trans (congrArg some (by kernel_rfl))⟩
 t0:=Tryz.underlying0
 a0:=Tryz.isAgg0
 z0:=Tryz.sizeOf0
 v0:=Tryz.zeroValue0
 t24:=Tryz.underlying22
 a24:=Tryz.isAgg22
 z24:=Tryz.sizeOf22
 v24:=Tryz.zeroValue22
 t26:=Tryz.underlying3
 a26:=Tryz.isAgg3
 z26:=Tryz.sizeOf3
 v26:=Tryz.zeroValue3
 t28:=Tryz.underlying75
 a28:=Tryz.isAgg75
 z28:=Tryz.sizeOf75
 v28:=Tryz.zeroValue75
 i26:=by kernel_rfl }
def Tryz.sortA_ren:Go.Shelf.Ren:=⟨λ| 5=>65 | 8=>122 | 7=>121 | 19=>199 | 20=>200 | 10=>190 | 11=>191 | 12=>192 | 13=>193 | 14=>194 | 15=>195 | 16=>196 | 17=>197 | 18=>198 | 30=>284 | 31=>285 | 32=>286 | 33=>287 | 34=>288 | 35=>289 | 40=>349 | n=>n,λ| 23=>22 | 25=>3 | 3=>3 | 32=>129 | 22=>22 | 0=>0 | 44=>128 | 46=>285 | 4=>4 | 36=>277 | 35=>276 | 41=>281 | 5=>5 | 9=>9 | 53=>330 | 57=>334 | 63=>379 | 64=>223 | n=>n,λ| n=>n⟩
theorem Tryz.sortA:Go.Proofs.SlLaysM.n5 Tryz.prog Tryz.sortA_ren:={
 mixed:=by kernel_rfl
 f5:=⟨Tryz.f65.name,by decide,Tryz.func65.trans (congrArg some (by kernel_rfl))⟩
 f7:=⟨Tryz.f121.name,by decide,Tryz.func121.trans (congrArg some (by kernel_rfl))⟩
 f8:=Tryz.func122.trans (congrArg some (by kernel_rfl))
 f10:=⟨Tryz.f190.name,by decide,Tryz.func190.trans (congrArg some (by kernel_rfl))⟩
 f11:=⟨Tryz.f191.name,by decide,Tryz.func191.trans (congrArg some (by kernel_rfl))⟩
 f12:=⟨Tryz.f192.name,by decide,Tryz.func192.trans (congrArg some (by kernel_rfl))⟩
 f13:=⟨Tryz.f193.name,by decide,Tryz.func193.trans (congrArg some (by kernel_rfl))⟩
 f14:=⟨Tryz.f194.name,by decide,Tryz.func194.trans (congrArg some (by kernel_rfl))⟩
 f15:=⟨Tryz.f195.name,by decide,Tryz.func195.trans (congrArg some (by kernel_rfl))⟩
 f16:=⟨Tryz.f196.name,by decide,Tryz.func196.trans (congrArg some (by kernel_rfl))⟩
 f17:=⟨Tryz.f197.name,by decide,Tryz.func197.trans (congrArg some (by kernel_rfl))⟩
 f18:=⟨Tryz.f198.name,by decide,Tryz.func198.trans (congrArg some (by kernel_rfl))⟩
 f19:=Tryz.func199.trans (congrArg some (by kernel_rfl))
 f20:=Tryz.func200.trans (congrArg some (by kernel_rfl))
 f30:=⟨Tryz.f284.name,by decide,Tryz.func284.trans (congrArg some (by kernel_rfl))⟩
 f31:=Tryz.func285.trans (congrArg some (by kernel_rfl))
 f32:=Tryz.func286.trans (congrArg some (by kernel_rfl))
 f33:=⟨Tryz.f287.name,by decide,Tryz.func287.trans (congrArg some (by kernel_rfl))⟩
 f34:=⟨Tryz.f288.name,by decide,Tryz.func288.trans (congrArg some (by kernel_rfl))⟩
 f35:=⟨Tryz.f289.name,by decide,Tryz.func289.trans (congrArg some (by kernel_rfl))⟩
 f40:=⟨Tryz.f349.name,by decide,Tryz.func349.trans (congrArg some (by kernel_rfl))⟩
 t0:=Tryz.underlying0
 a0:=Tryz.isAgg0
 z0:=Tryz.sizeOf0
 v0:=Tryz.zeroValue0
 t3:=Tryz.underlying3
 a3:=Tryz.isAgg3
 z3:=Tryz.sizeOf3
 v3:=Tryz.zeroValue3
 t4:=Tryz.underlying4
 a4:=Tryz.isAgg4
 z4:=Tryz.sizeOf4
 v4:=Tryz.zeroValue4
 t5:=Tryz.underlying5
 a5:=Tryz.isAgg5
 z5:=Tryz.sizeOf5
 v5:=Tryz.zeroValue5
 t9:=Tryz.underlying9
 a9:=Tryz.isAgg9
 z9:=Tryz.sizeOf9
 v9:=Tryz.zeroValue9
 t22:=Tryz.underlying22
 a22:=Tryz.isAgg22
 z22:=Tryz.sizeOf22
 v22:=Tryz.zeroValue22
 t23:=Tryz.underlying22
 a23:=Tryz.isAgg22
 z23:=Tryz.sizeOf22
 v23:=Tryz.zeroValue22
 t25:=Tryz.underlying3
 a25:=Tryz.isAgg3
 z25:=Tryz.sizeOf3
 v25:=Tryz.zeroValue3
 t32:=Tryz.underlying129
 a32:=Tryz.isAgg129
 z32:=Tryz.sizeOf129
 v32:=Tryz.zeroValue129
 t35:=Tryz.underlying276
 a35:=Tryz.isAgg276
 z35:=Tryz.sizeOf276
 v35:=Tryz.zeroValue276
 t36:=Tryz.underlying277
 a36:=Tryz.isAgg277
 z36:=Tryz.sizeOf277
 v36:=Tryz.zeroValue277
 t41:=Tryz.underlying281
 a41:=Tryz.isAgg281
 z41:=Tryz.sizeOf281
 v41:=Tryz.zeroValue281
 t44:=Tryz.underlying128
 a44:=Tryz.isAgg128
 z44:=Tryz.sizeOf128
 v44:=Tryz.zeroValue128
 t46:=Tryz.underlying285
 a46:=Tryz.isAgg285
 z46:=Tryz.sizeOf285
 v46:=Tryz.zeroValue285
 t53:=Tryz.underlying330
 a53:=Tryz.isAgg330
 z53:=Tryz.sizeOf330
 v53:=Tryz.zeroValue330
 t57:=Tryz.underlying334
 a57:=Tryz.isAgg334
 z57:=Tryz.sizeOf334
 v57:=Tryz.zeroValue334
 t63:=Tryz.underlying379
 a63:=Tryz.isAgg379
 z63:=Tryz.sizeOf379
 v63:=Tryz.zeroValue379
 t64:=Tryz.underlying223
 a64:=Tryz.isAgg223
 z64:=Tryz.sizeOf223
 v64:=Tryz.zeroValue223 }
theorem Tryz.sortsA (m:Nat):AnyZI.SortsIn Tryz.prog Tryz.sortedA_ren Fence.wide m :=
 ⟨λblk off cap ss W hH hblk hsz=>callsIn_wide.2 (AnyM.slices_Sort_int Tryz.sortA blk off cap ss W hH hblk hsz),
  λp cap W=>callsIn_wide.2 (AnyM.slices_Sort_int_none Tryz.sortA p cap W)⟩
namespace YtokfefnmpjohpaaGreatDoor
section
variable {V:Type} {enc:V->Value} {w:World} {r:Nat} {L:List (Int×V)}
def qz8:Value->Option (DataW Unit×List MemPlace):=λ_=>some (.nil,[])
theorem zd8 {c:Nat} {E:List (Ent V)} (hE:MapE enc w r E c) {e:Ent V} (he:e∈E):WideElems.rd Tryz.prog 3 qz8 (Ent.val enc e)=some (.int .i64 e.k,.nil):=by
 have h1:=keyOf_int_mk (P:=Tryz.prog) (k:=3) (q:=.i64) Tryz.underlying3 (a:=e.k) (by
  have:=hE.wf e he;simp [Lit.wf,IntKind.min,IntKind.max,IntKind.signed,IntKind.bits];omega)
 unfold WideElems.rd;show (keyOf Tryz.prog 3 (.int .i64 e.k)).bind _=_;rw [h1];rfl
theorem q7o {c:Nat} {E:List (Ent V)} (hE:MapE enc w r E c) (hl:E.length<=maxLen) :
  ∃D0:DataW Unit,w.ownsMap Tryz.prog 3 qz8 r E.length D0/\Maps.size D0=E.length/\(intKeys D0).Perm (E.map (·.k)):=by
 have hmap:(E.map (Ent.val enc)).map (WideElems.rg Tryz.prog 3 qz8)=E.map λe=>(Lit.int .i64 e.k,(.nil:DataW Unit)):=by
  rw [map_map];refine List.map_congr_left λe he=>?_;show (WideElems.rd Tryz.prog 3 qz8 (Ent.val enc e)).getD _=_;rw [zd8 hE he];rfl
 refine ⟨_,⟨_,c,hE.heap,⟨by simpa using hl,⟨?_,?_,?_⟩,?_⟩,by simp,rfl⟩,?_,?_⟩
 ·intro x hx;obtain ⟨e,he,rfl⟩:=List.mem_map.1 hx;exact hE.lt e he
 ·rw [List.toList_toArray,map_map];exact List.pairwise_map.2 (hE.stamps.imp λ{a b} h (e:a.b=b.b)=>by rw [e] at h;exact Nat.lt_irrefl _ h)
 ·rw [List.toList_toArray,map_map];exact List.pairwise_map.2 (hE.keys.imp λ{a b} h (e:Value.int .i64 a.k=.int .i64 b.k)=>h (by injection e))
 ·intro x hx;obtain ⟨e,he,rfl⟩:=List.mem_map.1 hx;exact ⟨_,zd8 hE he⟩
 ·show (List.foldr DataW.insert [] _).length=_;rw [List.toList_toArray,hmap,(Go.WideShapes.sorted_perm _).length_eq,List.length_map]
 ·show (List.map (λp:Lit×DataW Unit=>Go.intOf p.fst) (List.foldr DataW.insert [] _)).Perm _;rw [List.toList_toArray,hmap];refine ((Go.WideShapes.sorted_perm _).map _).trans ?_;rw [map_map];exact .refl _
theorem qye (hM:jc enc w r L) (hl:L.length<=maxLen) {B:Nat} (hB:w.cell? ⟨B,0,none⟩=some (.map (some r))) (n:Nat) (hn:1<=n) :
  SeqGives Fence.wide n Tryz.prog 66 #[.pointer (some ⟨B,0,none⟩)] encZ (λss=>ss.Perm (L.map (·.1))) L.length w:=by
 obtain ⟨E,c,hE,hp,hs⟩:=hM;have hlen:=qqj hp;obtain ⟨D0,hD,hsz,hpk⟩:=q7o hE (by omega);have hBl:B<w.heap.size:=by
  unfold World.cell? at hB;cases h:w.heap[B]? with
  | none=>rw [h] at hB;cases hB
  | some o=>exact (Array.getElem?_eq_some_iff.1 h).1
 have h:=AnyZI.keys_gives (ρ:=Tryz.keysA_ren) { Tryz.keysA with } Fence.wide n trivial rfl hn B r E.length D0 w hBl hB hD;rw [hsz,hlen] at h;have hpp:(E.map (·.k)).Perm (L.map (·.1)):=by
  have:=hp.map (·.1);unfold vt at this
  rwa [map_map] at this
 intro l J W hW hJ hY h0;refine (h l J W hW hJ hY h0).mono ?_;rintro e W' ⟨hv,xs,hxs,hJx⟩;exact ⟨hv,xs,(hxs.trans hpk).trans hpp,hJx⟩
theorem qw9 {m:Option Nat} {w:World} {K:Value->Ub}
  (hK:K (.func (.func 66) #[] #[.pointer (some ⟨w.heap.size,0,none⟩)]) (w.alloc (.cells #[.map m] 77))):zL m w K:=by
 have h:=callsIn_wide.1 (AnyZI.keys_in Tryz.keysA Fence.wide 5 trivial rfl m w);refine Calls.mono (R:=λe w'=>e=.returned (.func (.func 66) #[] #[.pointer (some ⟨w.heap.size,0,none⟩)])/\w'=w.alloc (.cells #[.map m] 77)) h ?_;rintro e w' ⟨rfl,rfl⟩;exact ⟨_,rfl,hK⟩
theorem q28 {ss:List Int} (hs:Srt L) (hp:ss.Perm (L.map (·.1))):ss.mergeSort (λx y=>decide (x<=y))=L.map (·.1):=by
 have h1:(ss.mergeSort λx y=>decide (x<=y)).Pairwise λx y=>x<=y:=by
  have:=List.pairwise_mergeSort (le:=λx y:Int=>decide (x<=y)) (λa b c h1 h2=>by simp only [decide_eq_true_eq] at *;omega) (λa b=>by simp only [Bool.or_eq_true,decide_eq_true_eq];omega) ss;exact this.imp λh=>by simpa using h
 have h2:(L.map (·.1)).Pairwise λx y=>x<=y:=List.pairwise_map.2 (hs.imp λh=>Int.le_of_lt h);exact ((List.mergeSort_perm ss _).trans hp).eq_of_pairwise (λa b _ _ h1 h2=>Int.le_antisymm h1 h2) h1 h2
theorem q31:∀xs:List Int,Zd zw xs=xs.map encZ
 | []=>rfl
 | x::xs=>by
  have ih:=q31 xs;unfold Zd at ih ⊢;rw [List.flatMap_cons,ih,List.map_cons];rfl
theorem qno {w:World} {base:Nat} {v:Value} {xs:List Int} (h:w.ownsRow base 3 1 v xs.length (xs.map encZ)):∃q:Slc,v=.slice q.a q.n q.c/\Go.Vc.Own zw w base q xs:=by
 have hf:=q31 xs;have hv:∃q:Slc,v=.slice q.a q.n q.c:=by
  rcases h.2 with ⟨rfl,_⟩ | ⟨g,cap,cur,rfl,_⟩
  ·exact ⟨⟨none,0,0⟩,rfl⟩
  ·exact ⟨⟨_,_,_⟩,rfl⟩
 obtain ⟨q,rfl⟩:=hv;refine ⟨q,rfl,?_⟩;unfold Go.Vc.Own;rw [hf];exact h
theorem q0v {B:Nat} {K:Slc->Ub} (hM:jc enc w r L) (hl:L.length<=1000000) (hB:w.cell? ⟨B,0,none⟩=some (.map (some r)))
  (hK:∀q w',Go.Vc.Own zw w' w.heap.size q (L.map (·.1))->Uc w w'->K q w'):vb (.func (.func 66) #[] #[.pointer (some ⟨B,0,none⟩)]) w K:=by
 have h:=callsIn_wide.1 (AnyZI.sorted_in Tryz.sortedA Fence.wide 5 trivial trivial trivial trivial rfl (by omega) (Tryz.sortsA _) (enters_of Tryz.func65 (by kernel_rfl) rfl) 66 #[.pointer (some ⟨B,0,none⟩)] trivial (enters_of Tryz.func66 (by kernel_rfl) rfl) _ L.length (by unfold maxLen;omega) (by omega) w (qye hM (by unfold maxLen;omega) hB 2 (by omega)));refine Calls.mono h ?_;rintro e w' ⟨v,ss,rfl,hS,hrow,_,hb⟩;rw [q28 hM.srt hS] at hrow;rw [show ss.length=(L.map (·.1)).length from hS.length_eq] at hrow;obtain ⟨q,rfl,hq⟩:=qno hrow;exact ⟨q,rfl,hK q w' hq hb⟩
theorem qy6 {B:Nat} {K:Slc->Ub} (hM:jc enc w r L) (hl:L.length<=1000000) (hB:w.cell? ⟨B,0,none⟩=some (.map (some r)))
  (hK:∀q w' ss,ss.Perm (L.map (·.1))->Go.Vc.Own zw w' w.heap.size q ss->Uc w w'->K q w'):KD (.func (.func 66) #[] #[.pointer (some ⟨B,0,none⟩)]) w K:=by
 have h:=callsIn_wide.1 (AnyZI.collect_in (ρ:=Tryz.sortedA_ren) { Tryz.sortedA with } Fence.wide 5 trivial trivial rfl (by omega) 66 #[.pointer (some ⟨B,0,none⟩)] trivial (enters_of Tryz.func66 (by kernel_rfl) rfl) _ L.length (by unfold maxLen;omega) (by omega) w (qye hM (by unfold maxLen;omega) hB 3 (by omega)));refine Calls.mono h ?_;rintro e w' ⟨v,ss,rfl,hS,hrow,_,hb⟩;obtain ⟨q,rfl,hq⟩:=qno hrow;exact ⟨q,rfl,hK q w' ss hS hq hb⟩
end
end YtokfefnmpjohpaaGreatDoor
end Go.Proofs
set_option maxRecDepth 100000
namespace Go.Proofs
open Go.RowKit Go.Maps Go.Sort Go.Shelf Go.Vc
def Tryz.keysB_ren:Go.Shelf.Ren:=⟨λ| 7=>336 | 10=>378 | n=>n,λ| 23=>146 | 26=>3 | 3=>4 | 28=>75 | 0=>0 | 27=>74 | 33=>136 | 4=>4 | n=>n,λ| n=>n⟩
theorem Tryz.keysB:Go.Proofs.SlLaysZI.n7 Tryz.prog Tryz.keysB_ren:={
 mixed:=by kernel_rfl
 f7:=⟨Tryz.f336.name,by decide,Tryz.func336.trans (congrArg some (by kernel_rfl))⟩
 f10:=⟨Tryz.f378.name,by decide,Tryz.func378.trans (congrArg some (by kernel_rfl))⟩
 t0:=Tryz.underlying0
 a0:=Tryz.isAgg0
 z0:=Tryz.sizeOf0
 v0:=Tryz.zeroValue0
 t4:=Tryz.underlying4
 a4:=Tryz.isAgg4
 z4:=Tryz.sizeOf4
 v4:=Tryz.zeroValue4
 t23:=Tryz.underlying146
 a23:=Tryz.isAgg146
 z23:=Tryz.sizeOf146
 v23:=Tryz.zeroValue146
 t26:=Tryz.underlying3
 a26:=Tryz.isAgg3
 z26:=Tryz.sizeOf3
 v26:=Tryz.zeroValue3
 t27:=Tryz.underlying74
 a27:=Tryz.isAgg74
 z27:=Tryz.sizeOf74
 v27:=Tryz.zeroValue74
 t28:=Tryz.underlying75
 a28:=Tryz.isAgg75
 z28:=Tryz.sizeOf75
 v28:=Tryz.zeroValue75
 t33:=Tryz.underlying136
 a33:=Tryz.isAgg136
 z33:=Tryz.sizeOf136
 v33:=Tryz.zeroValue136 }
namespace YtokfefnmpjohpaaGreatDoor
section
variable {V:Type} {enc:V->Value} {w:World} {r:Nat} {L:List (Int×V)}
theorem q2d (hM:jc enc w r L) (hl:L.length<=maxLen) {B:Nat} (hB:w.cell? ⟨B,0,none⟩=some (.map (some r))) (n:Nat) (hn:1<=n) :
  SeqGives Fence.wide n Tryz.prog 378 #[.pointer (some ⟨B,0,none⟩)] encZ (λss=>ss.Perm (L.map (·.1))) L.length w:=by
 obtain ⟨E,c,hE,hp,hs⟩:=hM;have hlen:=qqj hp;obtain ⟨D0,hD,hsz,hpk⟩:=q7o hE (by omega);have hBl:B<w.heap.size:=by
  unfold World.cell? at hB;cases h:w.heap[B]? with
  | none=>rw [h] at hB;cases hB
  | some o=>exact (Array.getElem?_eq_some_iff.1 h).1
 have h:=AnyZI.keys_gives (ρ:=Tryz.keysB_ren) { Tryz.keysB with } Fence.wide n trivial rfl hn B r E.length D0 w hBl hB hD;rw [hsz,hlen] at h;have hpp:(E.map (·.k)).Perm (L.map (·.1)):=by
  have:=hp.map (·.1);unfold vt at this
  rwa [List.map_map] at this
 intro l J W hW hJ hY h0;refine (h l J W hW hJ hY h0).mono ?_;rintro e W' ⟨hv,xs,hxs,hJx⟩;exact ⟨hv,xs,(hxs.trans hpk).trans hpp,hJx⟩
theorem q1c {m:Option Nat} {w:World} {K:Value->Ub}
  (hK:K (.func (.func 378) #[] #[.pointer (some ⟨w.heap.size,0,none⟩)]) (w.alloc (.cells #[.map m] 146))):km m w K:=by
 have h:=callsIn_wide.1 (AnyZI.keys_in Tryz.keysB Fence.wide 5 trivial rfl m w);refine Calls.mono (R:=λe w'=>e=.returned (.func (.func 378) #[] #[.pointer (some ⟨w.heap.size,0,none⟩)])/\w'=w.alloc (.cells #[.map m] 146)) h ?_;rintro e w' ⟨rfl,rfl⟩;exact ⟨_,rfl,hK⟩
theorem qwi {B:Nat} {K:Slc->Ub} (hM:jc enc w r L) (hl:L.length<=1000000) (hB:w.cell? ⟨B,0,none⟩=some (.map (some r)))
  (hK:∀q w',Go.Vc.Own zw w' w.heap.size q (L.map (·.1))->Uc w w'->K q w'):vb (.func (.func 378) #[] #[.pointer (some ⟨B,0,none⟩)]) w K:=by
 have h:=callsIn_wide.1 (AnyZI.sorted_in Tryz.sortedA Fence.wide 5 trivial trivial trivial trivial rfl (by omega) (Tryz.sortsA _) (enters_of Tryz.func65 (by kernel_rfl) rfl) 378 #[.pointer (some ⟨B,0,none⟩)] trivial (enters_of Tryz.func378 (by kernel_rfl) rfl) _ L.length (by unfold maxLen;omega) (by omega) w (q2d hM (by unfold maxLen;omega) hB 2 (by omega)));refine Calls.mono h ?_;rintro e w' ⟨v,ss,rfl,hS,hrow,_,hb⟩;rw [q28 hM.srt hS] at hrow;rw [show ss.length=(L.map (·.1)).length from hS.length_eq] at hrow;obtain ⟨q,rfl,hq⟩:=qno hrow;exact ⟨q,rfl,hK q w' hq hb⟩
end
end YtokfefnmpjohpaaGreatDoor
end Go.Proofs
namespace Go.Proofs.YtokfefnmpjohpaaGreatDoor
open Go.Vc Go.RowKit
set_option maxRecDepth 100000
open IntKind (i64)
open _root_.List (mem_append mem_singleton)
open _root_.Nat (le_refl zero_le)
def q2r:Unit->Value:=λ_=>.bool true
structure StopsM (w:World) (g r:Nat) (B:List Bool):Prop where
 blk:Blk w g QJ [.int .i64 (B.length:Int),.map (some r)]
 map:jc q2r w r (keysB B)
theorem q76:PG.underlying zv=some (.map zd qs9):=by kernel_rfl
theorem q72:PG.underlying zd=some (.int .i64):=by kernel_rfl
theorem zht:∀w,(zeroValue qs9).run PG w=.ok (.bool false) w:=Tryz.zeroValue4
theorem Ze {a:Addr} {K:Addr->Prop} (h:K a):qE (some a) K:=h
theorem zbg {x:Int} (h:-9223372036854775808<=x/\x<=9223372036854775807):i64.wrap x=x:=qP h
section
variable {w w':World} {g r:Nat} {B:List Bool}
theorem StopsM.keep {Sx:Nat->Prop} (h:StopsM w g r B) (hc:Chg Sx w w') (hg:¬Sx g) (hr:¬Sx r):StopsM w' g r B:=⟨h.blk.chg hc hg,h.map.chg hc hr⟩
theorem zfa (B:List Bool):(keysB B).length<=B.length:=by
 unfold keysB;have:∀(B:List Bool) (i:Int),(qkb i B).length<=B.length:=by
  intro B
  induction B with
  | nil=>intro i;simp [qkb]
  | cons b r ih =>
   intro i;rw [qkb];have:=ih (i+1);split<;>simp<;>omega
 exact this B 0
theorem q0s {L:List (Int×Unit)} (h:jc q2r w r L) {col:Int} (hc:-9223372036854775808<=col/\col<=9223372036854775807) {K:Option Value->Ub}
  (hK:∀w',jc q2r w' r (k8 L col ())->Chg (λk=>k=r) w w'->w'.heap.size=w.heap.size->K none w'):qoy PG (Instr.mapUpdate zv (.map (some r)) (Ua col) (.bool true)) w K:=by
 obtain ⟨w',h1,h2,h3,h4⟩:=h.update q76 q72 hc ();exact ⟨w',h1,hK w' h2 h3 h4⟩
theorem q1n {L:List (Int×Unit)} (h:jc q2r w r L) (col:Int) {K:Value->Ub}
  (hK:∀v w',jc q2r w' r (Go.Vc.delL L col)->Chg (λk=>k=r) w w'->w'.heap.size=w.heap.size->K v w'):jv PG (Builtin.delete_ #[zv,zd] qge #[(.map (some r)),(Ua col)]) Kind.raw w K:=by
 obtain ⟨w',h1,h2,h3,h4⟩:=h.delete q76 q72 col qge;exact ⟨.tuple #[],w',h1,hK _ w' h2 h3 h4⟩
end
section
variable {w w':World} {g r:Nat} {B:List Bool}
theorem zet {x:Int} {L:List (Int×Unit)} (hb:Blk w g QJ [.int .i64 x,.map (some r)]) (hm:jc q2r w r L) (hl:L.length<=1000) {K:Slc->Ub}
  (hK:∀q w',Go.Vc.Own zw w' w.heap.size q (L.map (·.1))->Uc w w'->K q w'):XO (some ⟨g,0,none⟩) w K:=by
 refine qkw _ ?_;refine Ze (kM (x:=some r) (hb.cells 1 _ rfl) (q1c ?_));have hB:Uc w (w.alloc (.cells #[.map (some r)] 146)):=(Below.refl _ w).alloc (le_refl _) _;have hs:(w.alloc (.cells #[.map (some r)] 146)).heap.size=w.heap.size+1:=by show (w.heap.push _).size=_;simp
 have hb:Blk (w.alloc (.cells #[.map (some r)] 146)) w.heap.size 146 [.map (some r)]:=Blk.new w 146 [.map (some r)];refine qwi (hm.ext hB) (by omega) (hb.cell 0 rfl) λq w' hq hB'=>?_;exact hK q w' (hq.base (by omega)) (hB.trans (hB'.mono (by omega)))
theorem zek {m:Nat} (h:1<=m):((m:Int).tmod 8==0)=qzg m:=by
 unfold qzg;rw [show ((m:Int).tmod 8)=((m%8:Nat):Int) by rw [Int.ofNat_tmod];rfl];rw [dTq (by omega),Bool.true_and];by_cases e:m%8=0
 ·rw [e];rfl
 ·rw [dFq e];simp;omega
theorem qy0 (h:StopsM w g r B) (hl:B.length<=1000) (cols:Int) {K:Int->Ub} (hE:(cols<1\/1000<cols)->K 1 w)
  (hK:∀w',1<=cols->cols<=1000->StopsM w' g r (Vh B cols.toNat)->Chg (λk=>k=g\/k=r) w w'->K 0 w'):Qz (some ⟨g,0,none⟩) cols w K:=by
 refine qfg _ _ ?_;refine jpO λJ hJ=>?_;refine cO (λh1=>hE (.inl (oTq h1))) λh1=>?_;refine cO (λh2=>hE (.inr (oTq h2))) λh2=>?_;have h1:=oFq h1;have h2:=oFq h2;obtain ⟨n,rfl⟩:∃n:Nat,cols=n:=⟨cols.toNat,by omega⟩;rw [Int.toNat_natCast] at hK;refine hJ _ _ ?_;refine Ze (lI (x:=(B.length:Int)) (h.blk.cells 0 _ rfl) ?_);refine lpR (λ(s:Int×Unit) w2=>∃m:Nat,s.1=m/\1<=m/\B.length<=m/\(m<=n\/m<=B.length\/m=1)/\Blk w2 g QJ [.int .i64 (B.length:Int),.map (some r)]/\jc q2r w2 r (keysB (Vh B m))/\Chg (λk=>k=r) w w2)
  (λs=>n-s.1.toNat) ?_ ?_
 ·have hm0:∃m:Nat,(if (1:Int)>(B.length:Int) then (1:Int) else (B.length:Int))=m/\1<=m/\B.length<=m/\(m<=B.length\/m=1)/\keysB (Vh B m)=keysB B:=by
   split
   ·exact ⟨1,rfl,le_refl _,by omega,.inr rfl,zeb (by omega)⟩
   ·exact ⟨B.length,rfl,by omega,le_refl _,.inl (le_refl _),by rw [za2]⟩
  obtain ⟨m,e,hm1,hm2,hm3,hm4⟩:=hm0;exact ⟨m,e,hm1,hm2,.inr hm3,h.blk,by rw [hm4];exact h.map,Chg.refl _ _⟩
 rintro ⟨i,u⟩ w2 ⟨m,hi,hm1,hm2,hm3,hb2,hmp2,hc2⟩ I hI;dsimp only at hi ⊢;subst hi;have hne:=hmp2.ne_blk hb2;by_cases hlt:m<n
 ·refine cT (by simp;omega) ⟨by decide,?_⟩;rw [zek hm1,zbg (by omega)];refine cO (λhd=>?_) λhd=>?_
  ·refine Ze (kM (x:=some r) (hb2.cells 1 _ rfl) (q0s hmp2 (by omega) λw3 hm hc hs=>hI _ _ ⟨m+1,by simp,by omega,by omega,.inl (by omega),hb2.chg hc (λe=>hne e.symm),?_,hc2.trans hc λi _ hi=>hi⟩ (by simp;omega)));rw [<-(qwy hm2).1 hd];exact hm
  ·refine hI _ _ ⟨m+1,by simp,by omega,by omega,.inl (by omega),hb2,?_,hc2⟩ (by simp;omega);rw [<-(qwy hm2).2 hd];exact hmp2
 ·refine cF (by simp;omega) ?_;have hmle:(keysB (Vh B m)).length<=1000:=by
   have:=zfa (Vh B m);rw [resz_length] at this;omega
  refine zet hb2 hmp2 hmle λq w4 hq hB4=>?_;obtain ⟨P,hP⟩:∃P,keysB (Vh B m)=P:=⟨_,rfl⟩;have hsP:Srt P:=by rw [<-hP];exact vY _
  rw [hP] at hmp2 hq hmle;have hcut:P.filter (λp=>decide (p.1<(n:Int)))=keysB (Vh B n):=by rw [<-hP];exact zdd (by omega)
  have hqn:=hq.rd.n;rw [List.length_map] at hqn;have hlt2:=hb2.lt;have hlr:=hmp2.lt;refine lpR (λ(s:Int×Unit) w5=>∃k:Nat,s.1=k/\k<=P.length/\Blk w5 g QJ [.int .i64 (B.length:Int),.map (some r)]/\Go.Vc.Own zw w5 w2.heap.size q (P.map (·.1))/\Chg (λk=>k=r) w2 w5 /\
    ∃L,jc q2r w5 r L/\∀a,(a,())∈L↔(a,())∈P/\(a<n\/a ∉ (P.map (·.1)).take k))
   (λs=>P.length-s.1.toNat) ⟨0,rfl,zero_le _,hb2.ext hB4,hq,Chg.of_ext hB4,P,hmp2.ext hB4,λa=>by simp⟩ ?_
  rintro ⟨i,u⟩ w5 ⟨k,hi,hk,hb5,hq5,hc5,L,hL,hmem⟩ I2 hI2;dsimp only at hi ⊢;subst hi;have hne5:=hL.ne_blk hb5;by_cases hlk:k<P.length
  ·refine cT (by simp;omega) ?_;refine hq5.rd.ix (k:=1) rfl (by omega) (by simp;omega) λhcell=>?_;obtain ⟨x,hx,hx'⟩:=Go.Vc.get_of (xs:=P.map (·.1)) (k:=k) (by simpa using hlk);rw [hx' _] at hcell;refine lI (x:=x) (by simpa using hcell 0 _ rfl) ?_;have htk:(P.map (·.1)).take (k+1)=(P.map (·.1)).take k++[x]:=by rw [List.take_add_one,hx];rfl
   rw [zbg (by omega)];refine cO (λhge=>?_) λhge=>?_
   ·have hge:=oTq hge;refine Ze (kM (x:=some r) (hb5.cells 1 _ rfl) (q1n hL x λv w6 hm6 hc6 hs6=>hI2 _ _ ⟨k+1,by simp,by omega,hb5.chg hc6 (λe=>hne5 e.symm),hq5.chg hc6 (λj hj e=>?_),hc5.trans hc6 λi _ hi=>hi,_,hm6,λa=>?_⟩ (by simp;omega)))
    ·have:=(hq5.lt j hj).1;omega
    ·rw [Zb,hmem a,htk,mem_append,mem_singleton];constructor
     ·rintro ⟨hne,hp,ho⟩;exact ⟨hp,ho.imp id λho hh=>hh.elim ho hne⟩
     ·rintro ⟨hp,ho⟩;refine ⟨λe=>?_,hp,ho.imp id λho hh=>ho (.inl hh)⟩;rcases ho with ho | ho
      ·omega
      ·exact ho (.inr e)
   ·have hge:=oFq hge;refine hI2 _ _ ⟨k+1,by simp,by omega,hb5,hq5,hc5,L,hL,λa=>?_⟩ (by simp;omega);rw [hmem a,htk,mem_append,mem_singleton];constructor
    ·rintro ⟨hp,ho⟩;refine ⟨hp,?_⟩;by_cases e:a=x
     ·exact .inl (by omega)
     ·exact ho.imp id λho hh=>hh.elim ho e
    ·rintro ⟨hp,ho⟩;exact ⟨hp,ho.imp id λho hh=>ho (.inl hh)⟩
  ·refine cF (by simp;omega) (Ze ?_);rw [add_zero];refine qw hb5 (by simp) λw7 hb7 hg7 hs7=>?_;have hL':L=keysB (Vh B n):=by
    rw [<-hcut];refine qpa hL.srt (hsP.filter _) λa=>?_;rw [hmem a,List.mem_filter,List.take_of_length_le (by simp;omega)];constructor
    ·rintro ⟨hp,ho⟩;refine ⟨hp,?_⟩;rcases ho with ho | ho
     ·simpa using ho
     ·exact absurd (List.mem_map.2 ⟨_,hp,rfl⟩) ho
    ·rintro ⟨hp,ho⟩;exact ⟨hp,.inl (by simpa using ho)⟩
   rw [hL'] at hL;refine hK w7 (by omega) (by omega) ⟨by rw [resz_length];exact hb7,hL.chg (Go.Vc.Chg.gg hg7) hne5⟩ ?_;exact ((qz6 hc2 (S:=λk=>k=g\/k=r) (.inr rfl)).trans (qz6 hc5 (S:=λk=>k=g\/k=r) (.inr rfl)) λi _ hi=>hi).trans (qz6 (Go.Vc.Chg.gg hg7) (S:=λk=>k=g\/k=r) (.inl rfl)) λi _ hi=>hi
theorem q80 (cols:Int) {w:World} {K:Option Addr->Int->Ub} (hE:∀w',Uc w w'->(cols<1\/1000<cols)->K none 1 w')
  (hK:∀g r w',1<=cols->cols<=1000->w.heap.size<=g->w.heap.size<=r->StopsM w' g r (Vh [] cols.toNat)->Uc w w'->K (some ⟨g,0,none⟩) 0 w'):qmk cols w K:=by
 refine qv8 _ ?_;unfold qri nwM;have hB1:Uc w (w.alloc (.map #[] 0)):=(Below.refl _ w).alloc (le_refl _) _;have hs1:(w.alloc (.map #[] 0)).heap.size=w.heap.size+1:=by show (w.heap.push _).size=_;simp
 refine nwb λw2 hb2 hB2 hs2=>?_;have h2:StopsM w2 (w.alloc (.map #[] 0)).heap.size w.heap.size []:=⟨hb2,(jc.new w).ext hB2⟩;have hB12:=hB1.trans (hB2.mono (by omega));refine qy0 h2 (by simp) cols (λhc=>cT rfl (hE w2 hB12 hc)) λw3 h1 h2' h3 hc3=>cF rfl ?_;refine hK _ _ w3 h1 h2' (by omega) (le_refl _) h3 (hB12.trans (hc3.below (by omega) λi hi e=>?_));rcases e with e | e<;>omega
end
def w64 (x:Int):Int:=i64.wrap x
abbrev Cur:=qI
abbrev Sav:=vm
def qcc:Cur:=⟨0,0,false,⟨0,0,0⟩,false,⟨66,66⟩,0⟩
def qhw:Sav:=⟨⟨0,0,false,⟨0,0,0⟩,false,⟨0,0⟩,0⟩,false⟩
structure Sc where
 g0:GS
 g1:GS
 alt:Bool
 c:Cur
 s0:Sav
 s1:Sav
 modes:List (Int×Bool)
 priv:List (Int×Bool)
 top:Int
 past:Int
 stops:List Bool
 char:Int
 areas:List zX
namespace Sc
def g (S:Sc):GS:=if S.alt then S.g1 else S.g0
def withG (S:Sc) (G:GS):Sc:=if S.alt then { S with g1:=G } else { S with g0:=G }
def mode (S:Sc) (n:Int):Bool:=(zp S.modes n).getD false
def pmode (S:Sc) (n:Int):Bool:=(zp S.priv n).getD false
def blank (S:Sc):vQ:=⟨0,S.c.A.Bg,0⟩
def dry (S:Sc):Sc:={ S with c:={ S.c with Wrap:=false } }
def setCol (S:Sc) (col:Int):Sc:={ S with c:={ S.c with Col:=col } }
end Sc
def q4a (v lo hi:Int):Int:=if hi<(if lo>v then lo else v) then hi else (if lo>v then lo else v)
namespace Sc
def to (S:Sc) (row col:Int):Sc:={ S with c:={ S.c with Row:=q4a row 0 (w64 ((S.g.rows:Int)-1)),Col:=q4a col 0 (w64 ((S.g.cols:Int)-1)),Wrap:=false } }
def scroll (S:Sc) (top past n:Int):Sc:=S.withG (vM S.g top past n S.blank)
def index (S:Sc):Sc:=if S.c.Row=w64 (S.past-1) then S.dry.scroll S.top S.past 1 else S.dry.to (w64 (S.c.Row+1)) S.c.Col
def change (S:Sc) (f:List qO->List qO):Sc:=if 0<=S.c.Row/\S.c.Row<(S.g.rows:Int) then S.withG { S.g with L:=S.g.L.set S.c.Row.toNat (Z3 (f (S.g.L.getD S.c.Row.toNat [])) S.g.cols) } else S
end Sc
def isW (r:Int):Bool:=decide (0<=r) && decide (r<=1114111) && (decide (r<55296) || decide (r>57343))
def inW (r:Int) (l:List (Int×Int)):Bool:=l.any λp=>decide (p.1<=r) && decide (r<=p.2)
def qt9:List (Int×Int):=[(0,31),(127,159),(768,879),(8203,8207),(65024,65039)]
def q3u:List (Int×Int):=[(4352,4447),(11904,42191),(44032,55203),(63744,64255),(65072,65135),(65280,65376),(65504,65510),(127744,129791),(131072,262141)]
def qaf (r:Int):Int:=if isW r=false\/inW r qt9=true then 0 else if inW r q3u=true then 2 else 1
def qi7:List Int:=[160,9670,9618,9225,9228,9229,9226,176,177,9252,9227,9496,9488,9484,9492,9532,9146,9147,9472,9148,9149,9500,9508,9524,9516,9474,8804,8805,960,8800,163,183]
def qu5 (set b:Int):Int:=if set=48/\95<=b/\b<=126 then qi7.getD (b-95).toNat 0 else b
namespace Sc
def putL (S:Sc) (r w:Int) (xs:List qO):List qO:=q3r (if S.mode 4 then qfk xs S.c.Col w S.c.A else xs) S.c.Col r w S.c.A
def laid (S:Sc) (r w:Int) (wrap:Bool):Sc :=
 let S1:=(S.change (S.putL r w)).setCol (w64 (S.c.Col+w))
 if S1.c.Col>=(S.g.cols:Int) then { S1 with c:={ S1.c with Col:=w64 ((S.g.cols:Int)-1),Wrap:=wrap } } else S1
def next (S:Sc):Sc:=(S.to S.c.Row 0).index
def layX (S1:Sc) (wrap:Bool):Sc:=if S1.c.Wrap=true/\wrap=true then S1.next else S1
def layY (S2:Sc) (cols:Nat) (r w:Int) (wrap:Bool):Sc :=
 if w64 (S2.c.Col+w)>(cols:Int) then
  (if w>(cols:Int) then S2 else if wrap then S2.next.laid r w wrap else (S2.setCol (w64 ((cols:Int)-w))).laid r w wrap)
 else S2.laid r w wrap
def lay (S:Sc) (r:Int):Sc:=if qaf r=0 then S else layY (layX { S with char:=r } (S.pmode 7)).dry S.g.cols r (qaf r) (S.pmode 7)
def set2 (S:Sc) (i:Int):Int:=if i=0 then S.c.Sets.e0 else S.c.Sets.e1
def print (S:Sc) (r:Int):Sc:=if 0<=r/\r<128 then S.lay (qu5 (S.set2 S.c.Shift) r) else S.lay r
end Sc
def qus (p:List Int) (i:Nat) (none:Int):Int:=match p[i]? with
 | some v=>if v=0 then none else v
 | Option.none=>none
namespace Sc
end Sc
def k1:List qO:=[⟨0,0,⟨0,0,0⟩⟩,⟨19968,1,⟨0,0,0⟩⟩,⟨0,2,⟨0,0,0⟩⟩,⟨0,0,⟨0,0,0⟩⟩]
def k2:List qO:=[⟨0,0,⟨0,0,0⟩⟩,⟨0,0,⟨0,0,0⟩⟩,⟨120,0,⟨1,0,0⟩⟩,⟨0,0,⟨0,0,0⟩⟩]
theorem zaw (n:Int) (a:vQ):Zm (XE n a)=true:=by
 unfold XE;split
 ·rfl
 ·have:=qxh (xs:=[]) rfl n.toNat a;simpa using this
def Plain (xs:List qO):Prop:=∀c∈xs,c.Kind=0
theorem q1f {xs:List qO} (h:Plain xs):Zm xs=true:=qd7.2 λk x hx=>by
 have h0:=h x (List.mem_of_getElem? hx);exact ⟨(QM hx).2 (.inl h0),λe=>by rw [h0] at e;cases e⟩
theorem qe7 {xs:List qO} (h:Plain xs):jp xs=xs:=zfh (q1f h)
theorem qgm (n:Nat) (a:vQ):Plain (List.replicate n (kr a)):=λc hc=>by rw [List.eq_of_mem_replicate hc];rfl
theorem Qo {xs ys:List qO} (h:Plain xs) (h':Plain ys):Plain (xs++ys):=λc hc=>by
 rcases mem_append.1 hc with h1 | h1
 ·exact h c h1
 ·exact h' c h1
theorem Y3 {xs:List qO} (h:Plain xs) (n:Nat):Plain (xs.take n):=λc hc=>h c (List.mem_of_mem_take hc)
theorem qnd {xs:List qO} (h:Plain xs) (n:Nat):Plain (xs.drop n):=λc hc=>h c (List.mem_of_mem_drop hc)
def a0:vQ:=⟨0,0,0⟩
theorem q99 {xs:List qO} (h:Plain xs) {col k c:Int} {a:vQ} (hc:qbo xs.length col k=c) (h0:c≠0) :
  qfk xs col k a=xs.take col.toNat++List.replicate c.toNat (kr a)++(xs.take (xs.length-c.toNat)).drop col.toNat:=by
 unfold qfk;rw [hc];dsimp only;rw [if_neg h0,qe7 h];exact qe7 (Qo (Qo (Y3 h _) (qgm _ _)) (qnd (Y3 h _) _))
theorem ziu {xs:List qO} (h:Plain xs) {col n:Int} {a:vQ} (hcol:0<=col) (hcl:col<xs.length) (hn:1<=n) :
  delL (qfk xs col n a) col n a=xs.take (xs.length-(min n (xs.length-col)).toNat)++List.replicate (min n (xs.length-col)).toNat (kr a)/\(qfk xs col n a).length=xs.length:=by
 have hm:qbo xs.length col n=min n (xs.length-col):=by rw [qbo,if_neg (by omega)]
 have e1:=q99 h (a:=a) hm (by omega);have hc0:1<=min n ((xs.length:Int)-col):=by omega
 have hc1:min n ((xs.length:Int)-col)<=xs.length-col:=by omega
 generalize min n ((xs.length:Int)-col)=c at *;have hlen:(qfk xs col n a).length=xs.length:=by rw [e1];simp;omega
 refine ⟨?_,hlen⟩;have hp:Plain (qfk xs col n a):=by
  rw [e1];exact Qo (Qo (Y3 h _) (qgm _ _)) (qnd (Y3 h _) _)
 have e2:delL (qfk xs col n a) col n a=jp ((qfk xs col n a).take col.toNat++(qfk xs col n a).drop (col+c).toNat++List.replicate c.toNat (kr a)):=by
  unfold delL;rw [hlen,hm];dsimp only;rw [if_neg (by omega),qe7 hp]
 rw [e2,qe7 (Qo (Qo (Y3 hp _) (qnd hp _)) (qgm _ _))];congr 1;have hl1:(xs.take col.toNat).length=col.toNat:=by simp;omega
 have hl2:(xs.take col.toNat++List.replicate c.toNat (kr a)).length=(col+c).toNat:=by simp;omega
 have t1:(qfk xs col n a).take col.toNat=xs.take col.toNat:=by
  rw [e1,List.append_assoc,List.take_append_of_le_length (by omega),List.take_of_length_le (by omega)]
 have t2:(qfk xs col n a).drop (col+c).toNat=(xs.take (xs.length-c.toNat)).drop col.toNat:=by
  rw [e1,<-hl2,List.drop_left]
 rw [t1,t2];have:xs.take col.toNat=(xs.take (xs.length-c.toNat)).take col.toNat:=by rw [List.take_take,Nat.min_eq_left (by omega)]
 rw [this,List.take_append_drop]
theorem ze8 {n:Nat} (h:n<=1000) (a:vQ):XE n a=List.replicate n (kr a):=by
 rw [XE,if_neg (by omega)];simp
theorem q0h {most:Nat} {old:List (List qO)} {x:List qO} (h:old.length<=most):(qg8 most old x).length<=most:=by
 unfold qg8;split
 ·exact h
 ·split
  ·simp;omega
  ·simp;omega
theorem qvu {most:Nat} (xs:List (List qO)):∀{old:List (List qO)},old.length<=most->(Kc most old xs).length<=most:=by
 induction xs with
 | nil=>intro old h;exact h
 | cons x r ih=>intro old h;exact ih (q0h h)
theorem q06 {S:GS} {top past n:Int} {a:vQ} (h:S.old.length<=S.most):(vM S top past n a).old.length<=S.most:=by
 unfold vM;split
 ·exact h
 ·split
  ·exact qvu _ h
  ·exact h
structure GOk (S:GS):Prop where
 len:S.L.length=S.rows
 rows:1<=S.rows/\S.rows<=1000
 cols:1<=S.cols/\S.cols<=1000
 L:∀xs∈S.L,Zm xs=true/\xs.length=S.cols/\okR xs
 old:∀xs∈S.old,xs.length<=1000/\okR xs
 olen:S.old.length<=S.most
 most:S.most<=16384
theorem zak (xs:List qO) (n:Int):Zm (Z3 xs n)=true:=by
 unfold Z3;dsimp only;split
 ·exact qt6 _
 ·exact qxh (qt6 _) _ _
theorem qxe {n:Nat} (h:n<=1000) (a:vQ):Zm (XE n a)=true/\(XE n a).length=n/\okR (XE n a):=by
 refine ⟨zaw _ _,q20 h a,?_⟩;rw [ze8 h];exact qng _ _
theorem zbs {xs:List qO} {n:Nat} (h0:n<=1000) (h:okR xs):Zm (Z3 xs n)=true/\(Z3 xs n).length=n/\okR (Z3 xs n):=by
 refine ⟨zak _ _,?_,zeu h _⟩;rw [q2v];omega
theorem q8i {most:Nat} {old:List (List qO)} {x y:List qO} (h:y∈qg8 most old x):y∈old\/y=x:=by
 unfold qg8 at h;split at h
 ·exact .inl h
 ·split at h
  ·rcases mem_append.1 h with h | h
   ·exact .inl h
   ·exact .inr (mem_singleton.1 h)
  ·rcases mem_append.1 h with h | h
   ·exact .inl (List.mem_of_mem_tail h)
   ·exact .inr (mem_singleton.1 h)
theorem q2h {most:Nat} (xs:List (List qO)):∀{old:List (List qO)} {y:List qO},y∈Kc most old xs->y∈old\/y∈xs:=by
 induction xs with
 | nil=>intro old y h;exact .inl h
 | cons x r ih =>
  intro old y h;rcases ih (old:=qg8 most old x) h with h | h
  ·rcases q8i h with h | h
   ·exact .inl h
   ·exact .inr (by simp [h])
  ·exact .inr (by simp [h])
section
variable {S:GS}
theorem GOk.set (h:GOk S) (i:Nat) {xs:List qO} (hx:Zm xs=true/\xs.length=S.cols/\okR xs):GOk { S with L:=S.L.set i xs }:=by
 refine ⟨by show (S.L.set i xs).length=_;rw [List.length_set];exact h.len,h.rows,h.cols,λys hy=>?_,h.old,h.olen,h.most⟩;rcases List.mem_or_eq_of_mem_set hy with hy | hy
 ·exact h.L ys hy
 ·rw [hy];exact hx
theorem q2i {cols:Nat} {L:List (List qO)} {top past n:Int} {a:vQ} {xs:List qO} (h:xs∈qfe cols L top past n a):xs∈L\/xs=XE cols a:=by
 unfold qfe at h;dsimp only at h;split at h
 ·simp only [mem_append] at h;rcases h with ((h | h) | h) | h
  ·exact .inl (List.mem_of_mem_take h)
  ·exact .inl (List.mem_of_mem_take (List.mem_of_mem_drop h))
  ·exact .inr (List.eq_of_mem_replicate h)
  ·exact .inl (List.mem_of_mem_drop h)
 ·simp only [mem_append] at h;rcases h with ((h | h) | h) | h
  ·exact .inl (List.mem_of_mem_take h)
  ·exact .inr (List.eq_of_mem_replicate h)
  ·exact .inl (List.mem_of_mem_take (List.mem_of_mem_drop h))
  ·exact .inl (List.mem_of_mem_drop h)
theorem GOk.scroll (h:GOk S) (top past n:Int) (a:vQ):GOk (vM S top past n a):=by
 obtain ⟨hl,hr,hc,hm⟩:=qao (top:=top) (past:=past) (n:=n) (a:=a) h.len;have hold:=q06 (top:=top) (past:=past) (n:=n) (a:=a) h.olen;refine ⟨by rw [hl,hr],by rw [hr];exact h.rows,by rw [hc];exact h.cols,λxs hx=>?_,λxs hx=>?_,by rw [hm];exact hold,by rw [hm];exact h.most⟩
 ·rw [hc];have:xs∈S.L\/xs=XE S.cols a:=by
   unfold vM at hx;split at hx
   ·exact .inl hx
   ·split at hx<;>exact q2i hx
  rcases this with hx | rfl
  ·exact h.L xs hx
  ·exact qxe h.cols.2 a
 ·have:xs∈S.old\/xs∈S.L:=by
   unfold vM at hx;split at hx
   ·exact .inl hx
   ·split at hx
    ·rcases q2h _ hx with hx | hx
     ·exact .inl hx
     ·exact .inr (List.mem_of_mem_take hx)
    ·exact .inl hx
  rcases this with hx | hx
  ·exact h.old xs hx
  ·obtain ⟨_,h2,h3⟩:=h.L xs hx;exact ⟨by rw [h2];exact h.cols.2,h3⟩
theorem GOk.new {rows cols most:Nat} (hr:1<=rows/\rows<=1000) (hc:1<=cols/\cols<=1000) (hm:most<=16384):GOk (gs0 rows cols most):=by
 refine ⟨by simp [gs0],hr,hc,λxs hx=>?_,(λxs hx=>by cases hx),zero_le _,hm⟩;rw [List.eq_of_mem_replicate hx];exact qxe hc.2 _
end
theorem GridM.ty {w:World} {base:Nat} {f:Foot} {S:GS} (h:GridM w base f S):∀k,xo f k->∃t cs,Blk w k t cs/\(t=vH\/t=qQ\/t=zk):=by
 obtain ⟨ls,ho,hl⟩:=h.row;obtain ⟨at_,gone,ls',xss,hb,ho',hl',hbr,e,hm,ha⟩:=h.ring;rintro k (rfl | rfl | hk | hk)
 ·exact ⟨_,_,h.blk,.inl rfl⟩
 ·exact ⟨_,_,hb,.inr (.inl rfl)⟩
 ·obtain ⟨cs,hcs⟩:=ho.blk_t hk;exact ⟨_,_,hcs,.inr (.inr rfl)⟩
 ·obtain ⟨cs,hcs⟩:=ho'.blk_t hk;exact ⟨_,_,hcs,.inr (.inr rfl)⟩
set_option maxRecDepth 400000
def qyu:Bool->Value:=λb=>.bool b
structure ScF where
 f0:Foot
 f1:Foot
 tg:Nat
 tr:Nat
 mm:Nat
 mp:Nat
 ar:Slc
def ScF.f (F:ScF) (alt:Bool):Foot:=if alt then F.f1 else F.f0
def ScF.put (F:ScF) (alt:Bool) (f:Foot):ScF:=if alt then { F with f1:=f } else { F with f0:=f }
def scX (F:ScF) (S:Sc):qu:=⟨⟨some ⟨F.f0.g,0,none⟩,some ⟨F.f1.g,0,none⟩⟩,if S.alt then 1 else 0,S.c,⟨S.s0,S.s1⟩,some F.mm,some F.mp,S.top,S.past,some ⟨F.tg,0,none⟩,S.char,F.ar⟩
def scS (g:Nat) (F:ScF) (k:Nat):Prop:=k=g\/xo F.f0 k\/xo F.f1 k\/k=F.tg\/k=F.tr\/k=F.mm\/k=F.mp\/F.ar.blk=some k
structure ScOk (S:Sc):Prop where
 g0:GOk S.g0
 g1:GOk S.g1
 rows:S.g1.rows=S.g0.rows
 cols:S.g1.cols=S.g0.cols
 row:0<=S.c.Row/\S.c.Row<(S.g0.rows:Int)
 col:0<=S.c.Col/\S.c.Col<(S.g0.cols:Int)
 shift:S.c.Shift=0\/S.c.Shift=1
 sh0:S.s0.c.Shift=0\/S.s0.c.Shift=1
 sh1:S.s1.c.Shift=0\/S.s1.c.Shift=1
 top:0<=S.top/\S.top<S.past/\S.past<=(S.g0.rows:Int)
 marg:2<=S.g0.rows->S.top+2<=S.past
 stops:S.stops.length=S.g0.cols
structure ScM (w:World) (base g:Nat) (F:ScF) (S:Sc):Prop where
 blk:Blk w g zu (qu.rep.cells (scX F S))
 hg:base<=g
 g0:GridM w base F.f0 S.g0
 g1:GridM w base F.f1 S.g1
 st:StopsM w F.tg F.tr S.stops
 hst:base<=F.tg/\base<=F.tr
 mo:jc qyu w F.mm S.modes
 pr:jc qyu w F.mp S.priv
 hm:base<=F.mm/\base<=F.mp
 dm:F.mm≠F.mp/\F.tr≠F.mm/\F.tr≠F.mp
 ar:Go.Vc.Own qmf w base F.ar S.areas
 dg:∀k,xo F.f0 k->¬xo F.f1 k
 ok:ScOk S
section
variable {w w':World} {base g:Nat} {F:ScF} {S S':Sc}
theorem qs8 {f:Foot} {G:GS} (h:GridM w base f G) {k:Nat} (hk:xo f k) {t:TypeId} {cs:List Value} (hb:Blk w k t cs):t=vH\/t=qQ\/t=zk:=by
 obtain ⟨t',cs',hb',ht⟩:=h.ty k hk;by_cases e:t=t'
 ·rw [e];exact ht
 ·exact absurd rfl (hb.ne_t hb' e)
theorem Ka {V:Type} {enc:V->Value} {r:Nat} {L:List (Int×V)} (h:jc enc w r L) {k:Nat} {t:TypeId} {cs:List Value} (hb:Blk w k t cs):k≠r:=λe=>h.ne_blk hb e.symm
theorem ScM.of_g (h:ScM w base g F S):∀k,(xo F.f0 k\/xo F.f1 k\/k=F.tg\/k=F.tr\/k=F.mm\/k=F.mp\/F.ar.blk=some k)->k≠g:=by
 rintro k (hk | hk | rfl | rfl | rfl | rfl | hk) rfl
 ·have:=qs8 h.g0 hk h.blk;revert this;decide
 ·have:=qs8 h.g1 hk h.blk;revert this;decide
 ·exact h.blk.ne_t h.st.blk (by decide) rfl
 ·exact Ka h.st.map h.blk rfl
 ·exact Ka h.mo h.blk rfl
 ·exact Ka h.pr h.blk rfl
 ·obtain ⟨cs,hcs⟩:=h.ar.blk_t hk;exact h.blk.ne_t hcs (by decide) rfl
theorem ScM.gridF (h:ScM w base g F S) (alt:Bool):∃G,GridM w base (F.f alt) G:=by
 cases alt
 ·exact ⟨_,h.g0⟩
 ·exact ⟨_,h.g1⟩
theorem ScM.of_grid (h:ScM w base g F S) (alt:Bool):∀k,xo (F.f alt) k->k≠g/\¬xo (F.f (!alt)) k/\k≠F.tg/\k≠F.tr/\k≠F.mm/\k≠F.mp/\F.ar.blk≠some k:=by
 intro k hk;obtain ⟨G,hG⟩:=h.gridF alt;obtain ⟨t,cs,hb,ht⟩:=hG.ty k hk;refine ⟨h.of_g k (by cases alt;exact .inl hk;exact .inr (.inl hk)),?_,?_,Ka h.st.map hb,Ka h.mo hb,Ka h.pr hb,?_⟩
 ·cases alt
  ·exact h.dg k hk
  ·exact λhk'=>h.dg k hk' hk
 ·rintro rfl;exact hb.ne_t h.st.blk (by rcases ht with rfl | rfl | rfl<;>decide) rfl
 ·intro e;obtain ⟨cs',hcs⟩:=h.ar.blk_t e;exact hb.ne_t hcs (by rcases ht with rfl | rfl | rfl<;>decide) rfl
theorem ScM.notC (h:ScM w base g F S):∀k cs,scS g F k->¬Blk w k qT cs:=by
 rintro k cs (rfl | hk | hk | rfl | rfl | rfl | rfl | hk) hb
 ·exact h.blk.ne_t hb (by decide) rfl
 ·exact h.g0.notC k cs hk hb
 ·exact h.g1.notC k cs hk hb
 ·exact h.st.blk.ne_t hb (by decide) rfl
 ·exact Ka h.st.map hb rfl
 ·exact Ka h.mo hb rfl
 ·exact Ka h.pr hb rfl
 ·obtain ⟨cs',hcs⟩:=h.ar.blk_t hk;exact hcs.ne_t hb (by decide) rfl
theorem ScM.keep {T:Nat->Prop} (h:ScM w base g F S) (hc:Chg T w w') (hT:∀k,scS g F k->¬T k) (hC:∀k cs,T k->¬Blk w k qT cs):ScM w' base g F S :=
 ⟨h.blk.chg hc (hT _ (.inl rfl)),h.hg,h.g0.chg hc (λk hk=>hT k (.inr (.inl hk))) hC,h.g1.chg hc (λk hk=>hT k (.inr (.inr (.inl hk)))) hC,
  h.st.keep hc (hT _ (.inr (.inr (.inr (.inl rfl))))) (hT _ (.inr (.inr (.inr (.inr (.inl rfl)))))),h.hst,h.mo.chg hc (hT _ (.inr (.inr (.inr (.inr (.inr (.inl rfl))))))),
  h.pr.chg hc (hT _ (.inr (.inr (.inr (.inr (.inr (.inr (.inl rfl)))))))),h.hm,h.dm,h.ar.chg hc λk hk=>hT k (.inr (.inr (.inr (.inr (.inr (.inr (.inr hk))))))),h.dg,h.ok⟩
theorem ScM.ext (h:ScM w base g F S) (hB:Uc w w'):ScM w' base g F S:=h.keep (Chg.of_ext (S:=λ_=>False) hB) (λ_ _ h=>h) λ_ _ h=>h.elim
theorem ScM.drew (h:ScM w base g F S):ScM w.drew base g F S:=h.ext ((Below.refl _ w).drew)
theorem ScM.below (h:ScM w base g F S):∀k,scS g F k->base<=k/\k<w.heap.size:=by
 rintro k (rfl | hk | hk | rfl | rfl | rfl | rfl | hk)
 ·exact ⟨h.hg,h.blk.lt⟩
 ·exact h.g0.below k hk
 ·exact h.g1.below k hk
 ·exact ⟨h.hst.1,h.st.blk.lt⟩
 ·exact ⟨h.hst.2,h.st.map.lt⟩
 ·exact ⟨h.hm.1,h.mo.lt⟩
 ·exact ⟨h.hm.2,h.pr.lt⟩
 ·exact h.ar.lt k hk
theorem ScM.struct (h:ScM w base g F S) (hc:Chg (λk=>k=g) w w') (hb:Blk w' g zu (qu.rep.cells (scX F S'))) (e0:S'.g0=S.g0) (e1:S'.g1=S.g1) (es:S'.stops=S.stops) (em:S'.modes=S.modes) (ep:S'.priv=S.priv) (ea:S'.areas=S.areas) (ok:ScOk S'):ScM w' base g F S':=by
 have hC:∀k cs,k=g->¬Blk w k qT cs:=λk cs hk hcs=>h.notC k cs (.inl hk) hcs;refine ⟨hb,h.hg,?_,?_,?_,h.hst,?_,?_,h.hm,h.dm,?_,h.dg,ok⟩
 ·rw [e0];exact h.g0.chg hc (λk hk=>h.of_g k (.inl hk)) hC
 ·rw [e1];exact h.g1.chg hc (λk hk=>h.of_g k (.inr (.inl hk))) hC
 ·rw [es];exact h.st.keep hc (h.of_g _ (.inr (.inr (.inl rfl)))) (h.of_g _ (.inr (.inr (.inr (.inl rfl)))))
 ·rw [em];exact h.mo.chg hc (h.of_g _ (.inr (.inr (.inr (.inr (.inl rfl))))))
 ·rw [ep];exact h.pr.chg hc (h.of_g _ (.inr (.inr (.inr (.inr (.inr (.inl rfl)))))))
 ·rw [ea];exact h.ar.chg hc λk hk=>h.of_g k (.inr (.inr (.inr (.inr (.inr (.inr hk))))))
theorem ScM.grid (h:ScM w base g F S) {f':Foot} {G':GS} (hg:GridM w' base f' G') (hto:(F.f S.alt).to f' w.heap.size) (hc:Chg (xo (F.f S.alt)) w w') (ok:ScOk (S.withG G')):ScM w' base g (F.put S.alt f') (S.withG G'):=by
 have hC:∀k cs,xo (F.f S.alt) k->¬Blk w k qT cs:=λk cs hk hcs=>h.notC k cs (by cases hS:S.alt<;>rw [hS] at hk;exact .inr (.inl hk);exact .inr (.inr (.inl hk))) hcs;have hp:=h.of_grid S.alt;have hstep:∀k,xo f' k->xo (F.f S.alt) k\/w.heap.size<=k:=hto.old;have hgf:=hto.g;have hblk:=h.blk.chg hc λe=>(hp g e).1 rfl;have hst:=h.st.keep hc (λe=>(hp _ e).2.2.1 rfl) (λe=>(hp _ e).2.2.2.1 rfl);have hmo:=h.mo.chg hc (λe=>(hp _ e).2.2.2.2.1 rfl);have hpr:=h.pr.chg hc (λe=>(hp _ e).2.2.2.2.2.1 rfl);have har:=h.ar.chg hc λk hk e=>(hp k e).2.2.2.2.2.2 hk;cases hS:S.alt
 ·rw [hS] at hp hstep hgf hc hC;have e1:S.withG G'={ S with g0:=G' }:=by unfold Sc.withG;rw [hS];rfl
  rw [e1] at ok ⊢;refine ⟨?_,h.hg,hg,h.g1.chg hc (λk hk e=>(hp k e).2.1 hk) hC,hst,h.hst,hmo,hpr,h.hm,h.dm,har,λk hk hk'=>?_,ok⟩
  ·have e2:scX (F.put false f') { S with g0:=G' }=scX F S:=by
    unfold scX ScF.put;dsimp only;rw [if_neg (by decide)];dsimp only;rw [hgf];rfl
   rw [e2];exact hblk
  ·rcases hstep k hk with h2 | h2
   ·exact h.dg k h2 hk'
   ·have:=(h.g1.below k hk').2;omega
 ·rw [hS] at hp hstep hgf hc hC;have e1:S.withG G'={ S with g1:=G' }:=by unfold Sc.withG;rw [hS];rfl
  rw [e1] at ok ⊢;refine ⟨?_,h.hg,h.g0.chg hc (λk hk e=>(hp k e).2.1 hk) hC,hg,hst,h.hst,hmo,hpr,h.hm,h.dm,har,λk hk hk'=>?_,ok⟩
  ·have e2:scX (F.put true f') { S with g1:=G' }=scX F S:=by
    unfold scX ScF.put;dsimp only;rw [if_pos rfl];dsimp only;rw [hgf];rfl
   rw [e2];exact hblk
  ·rcases hstep k hk' with h2 | h2
   ·exact h.dg k hk h2
   ·have:=(h.g0.below k hk).2;omega
structure ScT (base g:Nat) (w:World) (F F':ScF) (S':Sc) (w':World):Prop where
 m:ScM w' base g F' S'
 old:∀k,scS g F' k->scS g F k\/w.heap.size<=k
 chg:Chg (scS g F) w w'
theorem ScT.refl (h:ScM w base g F S):ScT base g w F F S w:=⟨h,λk hk=>.inl hk,Chg.refl _ _⟩
theorem ScT.trans {w1 w2:World} {F1 F2:ScF} {S1 S2:Sc} (h:ScT base g w F F1 S1 w1) (h2:ScT base g w1 F1 F2 S2 w2):ScT base g w F F2 S2 w2:=by
 have hs:=h.chg.size;refine ⟨h2.m,λk hk=>?_,h.chg.trans h2.chg λi hi hk=>?_⟩
 ·rcases h2.old k hk with h3 | h3
  ·exact h.old k h3
  ·exact .inr (by omega)
 ·rcases h.old i hk with h3 | h3
  ·exact h3
  ·omega
theorem ScT.ext {w1 w2:World} {F1:ScF} {S1:Sc} (h:ScT base g w F F1 S1 w1) (hB:Uc w1 w2):ScT base g w F F1 S1 w2 :=
 h.trans ⟨h.m.ext hB,λk hk=>.inl hk,Chg.of_ext hB⟩
theorem ScT.of_ext (h:ScM w base g F S) (hB:Uc w w'):ScT base g w F F S w':=(ScT.refl h).ext hB
theorem ScT.drew {F1:ScF} {S1:Sc} (h:ScT base g w F F1 S1 w'):ScT base g w F F1 S1 w'.drew:=h.ext ((Below.refl _ w').drew)
theorem ScT.mk_struct (h:ScM w base g F S) (hc:Chg (λk=>k=g) w w') (hb:Blk w' g zu (qu.rep.cells (scX F S'))) (e0:S'.g0=S.g0) (e1:S'.g1=S.g1) (es:S'.stops=S.stops) (em:S'.modes=S.modes) (ep:S'.priv=S.priv) (ea:S'.areas=S.areas) (ok:ScOk S'):ScT base g w F F S' w' :=
 ⟨h.struct hc hb e0 e1 es em ep ea ok,λk hk=>.inl hk,hc.mono λi hi e=>.inl e⟩
theorem ScT.mk_grid (h:ScM w base g F S) {f':Foot} {G':GS} (hg:GridM w' base f' G') (hto:(F.f S.alt).to f' w.heap.size) (hc:Chg (xo (F.f S.alt)) w w') (ok:ScOk (S.withG G')):ScT base g w F (F.put S.alt f') (S.withG G') w':=by
 refine ⟨h.grid hg hto hc ok,λk hk=>?_,hc.mono λi hi e=>?_⟩
 ·have hstep:=hto.old;revert hk hstep;unfold ScF.put ScF.f;cases S.alt
  ·rintro (rfl | hk | hk | hk) hstep
   ·exact .inl (.inl rfl)
   ·rcases hstep k hk with h2 | h2
    ·exact .inl (.inr (.inl h2))
    ·exact .inr h2
   ·exact .inl (.inr (.inr (.inl hk)))
   ·exact .inl (.inr (.inr (.inr hk)))
  ·rintro (rfl | hk | hk | hk) hstep
   ·exact .inl (.inl rfl)
   ·exact .inl (.inr (.inl hk))
   ·rcases hstep k hk with h2 | h2
    ·exact .inl (.inr (.inr (.inl h2)))
    ·exact .inr h2
   ·exact .inl (.inr (.inr (.inr hk)))
 ·revert e;unfold ScF.f;cases S.alt
  ·exact λe=>.inr (.inl e)
  ·exact λe=>.inr (.inr (.inl e))
theorem ScM.gOk (h:ScM w base g F S):GOk S.g:=by
 unfold Sc.g;cases S.alt
 ·exact h.ok.g0
 ·exact h.ok.g1
theorem ScM.gM (h:ScM w base g F S):GridM w base (F.f S.alt) S.g:=by
 unfold Sc.g ScF.f;cases S.alt
 ·exact h.g0
 ·exact h.g1
theorem ScOk.grows (h:ScOk S):S.g.rows=S.g0.rows/\S.g.cols=S.g0.cols:=by
 unfold Sc.g;cases S.alt
 ·exact ⟨rfl,rfl⟩
 ·exact ⟨h.rows,h.cols⟩
theorem ScOk.gOk (h:ScOk S):GOk S.g:=by
 unfold Sc.g;cases S.alt
 ·exact h.g0
 ·exact h.g1
end
theorem zn (w:World):Uc w w.drew:=(Below.refl _ w).drew
theorem zt {w w1 w2:World} (h:Uc w w1) (h2:Uc w1 w2):Uc w w2:=h.trans (h2.mono h.size)
theorem q49 {zs vs:List Value} (hl:vs.length=zs.length):putL zs 0 vs=vs:=by
 refine List.ext_getElem? λm=>?_;rw [Kg vs zs 0 m (by omega)];by_cases hm:m<vs.length
 ·rw [if_pos (by omega)];rfl
 ·rw [if_neg (by omega),List.getElem?_eq_none (by omega),List.getElem?_eq_none (by omega)]
theorem qd2 {g:Nat} {t:TypeId} {vs us:List Value} {w:World} {K:Ub} (h:Blk w g t vs) (hl:us.length=vs.length) (hK:∀w',Blk w' g t us->Chg (λk=>k=g) w w'->w'.heap.size=w.heap.size->K w'):stK ⟨g,0,none⟩ us w K :=
 qw h (by omega) λw' hb hg hs=>hK w' (by rw [q49 hl] at hb;exact hb) (Chg.gg hg) hs
theorem q0q {r:Rep} {g:Nat} {t:TypeId} {vs us:List Value} {x:r.T} {w:World} {K:r.T->Ub} (h:Blk w g t vs) (hus:r.cells x=us) (hl:us.length=vs.length) (hK:∀w',Chg (λk=>k=g) w w'->w'.heap.size=w.heap.size->K x w') :
  stK ⟨g,0,none⟩ us w λw'=>ldS r ⟨g,0,none⟩ w' λy=>K y w' :=
 qd2 h hl λw' hb hc hs=>qx (x:=x) (by rw [hus];exact hb.cells) (hK w' hc hs)
theorem xq {w w1 w2:World} {g:Nat} (h:Uc w w1) (hc:Chg (λk=>k=g) w1 w2) (hg:w.heap.size<=g):Uc w w2 :=
 h.trans (hc.below h.size λi hi e=>by omega)
theorem q7s {v lo hi:Int} (h:lo<=hi):lo<=q4a v lo hi/\q4a v lo hi<=hi:=by
 unfold q4a;split<;>split at *<;>omega
theorem qvl {x:Int} (h:-9223372036854775808<=x/\x<=9223372036854775807):w64 x=x:=qP h
section
variable {S:Sc}
theorem ScOk.cur (h:ScOk S) {c:Cur} (hr:0<=c.Row/\c.Row<(S.g.rows:Int)) (hc:0<=c.Col/\c.Col<(S.g.cols:Int)) (hs:c.Shift=0\/c.Shift=1):ScOk { S with c:=c }:=by
 obtain ⟨e1,e2⟩:=h.grows;rw [e1] at hr;rw [e2] at hc;exact ⟨h.g0,h.g1,h.rows,h.cols,hr,hc,hs,h.sh0,h.sh1,h.top,h.marg,h.stops⟩
theorem ScOk.rowg (h:ScOk S):0<=S.c.Row/\S.c.Row<(S.g.rows:Int):=by rw [h.grows.1];exact h.row
theorem ScOk.colg (h:ScOk S):0<=S.c.Col/\S.c.Col<(S.g.cols:Int):=by rw [h.grows.2];exact h.col
theorem ScOk.bnd (h:ScOk S):1<=S.g.rows/\S.g.rows<=1000/\1<=S.g.cols/\S.g.cols<=1000:=⟨h.gOk.rows.1,h.gOk.rows.2,h.gOk.cols.1,h.gOk.cols.2⟩
theorem ScOk.to (h:ScOk S) (row col:Int):ScOk (S.to row col):=by
 have hb:=h.bnd;have e1:w64 ((S.g.rows:Int)-1)=(S.g.rows:Int)-1:=qvl (by omega);have e2:w64 ((S.g.cols:Int)-1)=(S.g.cols:Int)-1:=qvl (by omega);have h1:=q7s (v:=row) (lo:=0) (hi:=(S.g.rows:Int)-1) (by omega);have h2:=q7s (v:=col) (lo:=0) (hi:=(S.g.cols:Int)-1) (by omega);unfold Sc.to;rw [e1,e2];exact h.cur (by show 0<=q4a _ _ _/\_;dsimp only;omega) (by show 0<=q4a _ _ _/\_;dsimp only;omega) h.shift
theorem ScOk.dry (h:ScOk S):ScOk S.dry:=h.cur h.rowg h.colg h.shift
theorem ScOk.withG (h:ScOk S) {G:GS} (hG:GOk G) (hr:G.rows=S.g.rows) (hc:G.cols=S.g.cols):ScOk (S.withG G):=by
 obtain ⟨e1,e2⟩:=h.grows;unfold Sc.withG;split
 ·exact ⟨h.g0,hG,hr.trans e1,hc.trans e2,h.row,h.col,h.shift,h.sh0,h.sh1,h.top,h.marg,h.stops⟩
 ·have hr':=hr.trans e1;have hc':=hc.trans e2;refine ⟨hG,h.g1,by show S.g1.rows=G.rows;rw [hr',h.rows],by show S.g1.cols=G.cols;rw [hc',h.cols],?_,?_,h.shift,h.sh0,h.sh1,?_,?_,?_⟩
  ·show 0<=S.c.Row/\S.c.Row<(G.rows:Int);rw [hr'];exact h.row
  ·show 0<=S.c.Col/\S.c.Col<(G.cols:Int);rw [hc'];exact h.col
  ·show 0<=S.top/\S.top<S.past/\S.past<=(G.rows:Int);rw [hr'];exact h.top
  ·show 2<=G.rows->_;rw [hr'];exact h.marg
  ·show S.stops.length=G.cols;rw [hc'];exact h.stops
theorem ScOk.scroll (h:ScOk S) (top past n:Int):ScOk (S.scroll top past n):=by
 have hl:=qao (top:=top) (past:=past) (n:=n) (a:=S.blank) h.gOk.len;exact h.withG (h.gOk.scroll top past n S.blank) hl.2.1 hl.2.2.1
theorem q7u (S:Sc) (G:GS):(S.withG G).g=G:=by
 unfold Sc.withG Sc.g;cases h:S.alt<;>simp
theorem q7x (S:Sc) (G:GS):(S.withG G).c=S.c:=by unfold Sc.withG;split<;>rfl
end
section
variable {w:World} {base g:Nat} {F:ScF} {S:Sc}
theorem q3l {v lo hi:Int} {K:Int->Ub} (hK:K (q4a v lo hi) w):Yb v lo hi w K:=by
 refine qsb _ _ _ ?_;exact hK
theorem k7 {v lo hi:Int} {K:Bool->Ub} (hK:K (decide (lo<=v/\v<=hi)) w):zY v lo hi w K:=by
 refine qk8 _ _ _ ?_;refine cO (λe=>?_) λe=>?_
 ·have e:=oTq e;rw [show decide (lo<=v/\v<=hi)=decide (v<=hi) by simp;intro _;exact e] at hK;exact hK
 ·have e:=oFq e;rw [show decide (lo<=v/\v<=hi)=false by simp;omega] at hK;exact hK
theorem qn5 {K:Option Addr->Ub} (h:ScM w base g F S) (hK:K (some ⟨(F.f S.alt).g,0,none⟩) w.drew):jb (some ⟨g,0,none⟩) w K:=by
 refine Ko _ ?_;simp only [onPtr_some];have hb:=h.drew.blk;refine lI (x:=if S.alt then 1 else 0) (hb.cells 2 _ rfl) ?_;revert hK;have hx:(scX F S).grids=⟨some ⟨F.f0.g,0,none⟩,some ⟨F.f1.g,0,none⟩⟩:=rfl;cases hS:S.alt
 ·intro hK;exact ⟨⟨by decide,by decide⟩,qK (x:=some ⟨F.f0.g,0,none⟩) (hb.cells 0 _ rfl) hK⟩
 ·intro hK;exact ⟨⟨by decide,by decide⟩,qK (x:=some ⟨F.f1.g,0,none⟩) (hb.cells 1 _ rfl) hK⟩
theorem qmx {K:Int->Int->Ub} (h:ScM w base g F S) (hK:K S.g.rows S.g.cols w.drew.drew):jd (some ⟨g,0,none⟩) w K:=by
 refine ZK _ ?_;exact qn5 h (qve h.drew.gM hK)
theorem q53 {K:vQ->Ub} (h:ScM w base g F S) (hK:∀w',Uc w w'->K S.blank w'):xb (some ⟨g,0,none⟩) w K:=by
 refine qcd _ ?_;simp only [onPtr_some];refine nwb λw1 h1 hB1 hs1=>?_;refine lI (x:=S.c.A.Bg) ((h.ext hB1).blk.cells 7 _ rfl) ?_;refine qd2 h1 rfl λw2 h2 hc2 hs2=>?_;exact qx (r:=qt.rep) (x:=S.blank) h2.cells (hK w2 (xq hB1 hc2 (le_refl _)))
theorem qs2 {row col:Int} {K:Ub} (h:ScM w base g F S) (hK:∀w',ScT base g w F F (S.to row col) w'->K w'):xk (some ⟨g,0,none⟩) row col w K:=by
 refine qie _ _ _ ?_;refine qmx h (q3l (q3l ?_));simp only [onPtr_some];have hT:=(ScT.refl h).drew.drew;rw [q4,q4];refine qw hT.m.blk (by simp [qu.rep]) λw4 hb4 hg4 hs4=>?_;rw [q4];refine qw hb4 (by simp [qu.rep,putL]) λw5 hb5 hg5 hs5=>?_;rw [q4];refine qw hb5 (by simp [qu.rep,putL]) λw6 hb6 hg6 hs6=>?_;have hc:Chg (λk=>k=g) w.drew.drew w6:=((Chg.gg hg4).trans (Chg.gg hg5) λi _ hi=>hi).trans (Chg.gg hg6) λi _ hi=>hi;exact hK w6 (hT.trans (ScT.mk_struct hT.m hc (S':=S.to row col) hb6 rfl rfl rfl rfl rfl rfl (h.ok.to row col)))
end
section
variable {w:World} {base g:Nat} {F:ScF} {S:Sc}
theorem ScM.base_le (h:ScM w base g F S):base<=w.heap.size:=by
 have:=h.below g (.inl rfl);omega
theorem q0w {top past n:Int} {K:Int->Ub} (h:ScM w base g F S) (hn:-9223372036854775808<=n/\n<=9223372036854775807) (hK:∀v F' w',ScT base g w F F' (S.scroll top past n) w'->K v w'):xg (some ⟨(F.f S.alt).g,0,none⟩) top past n S.blank w K:=by
 have hG:=h.gOk;refine qzm h.gM hG.len hG.rows.2 (by have:=hG.most;omega) h.base_le hn λf' w' hg hto hc=>?_;exact hK _ _ w' (ScT.mk_grid h hg hto hc (h.ok.scroll top past n))
theorem zfo {n top past:Int} {K:Int->Ub} (h:ScM w base g F S) (ht:top=S.top) (hp:past=S.past) (hn:-9223372036854775808<=n/\n<=9223372036854775807) (hK:∀v F' w',ScT base g w F F' (S.scroll S.top S.past n) w'->K v w') :
  jb (some ⟨g,0,none⟩) w λt18 w2=>w2.cell? ((⟨g,0,none⟩:Addr).add 38)=some (Ua past)/\w2.cell? ((⟨g,0,none⟩:Addr).add 37)=some (Ua top) /\
   xb (some ⟨g,0,none⟩) w2 λt28 w3=>w3.cell? ((⟨g,0,none⟩:Addr).add 38)=some (Ua past)/\w3.cell? ((⟨g,0,none⟩:Addr).add 37)=some (Ua top) /\
    xg t18 top past n t28 w3 K:=by
 subst ht hp;refine qn5 h ⟨h.drew.blk.cells 38 _ rfl,h.drew.blk.cells 37 _ rfl,?_⟩;refine q53 h.drew λw3 hB3=>?_;have h3:=h.drew.ext hB3;refine ⟨h3.blk.cells 38 _ rfl,h3.blk.cells 37 _ rfl,?_⟩;refine q0w h3 hn λv F' w' hT=>hK v F' w' ?_;exact ((ScT.refl h).drew.ext hB3).trans hT
theorem ScT.dry (h:ScM w base g F S) {w':World} (hb:Blk w' g zu (putL (qu.rep.cells (scX F S)) 5 [.bool false])) (hg:w.grownBy w' (some g)):ScT base g w F F S.dry w' :=
 ScT.mk_struct h (Chg.gg hg) hb rfl rfl rfl rfl rfl rfl h.ok.dry
theorem qmo {K:Ub} (h:ScM w base g F S) (hK:∀F' w',ScT base g w F F' S.index w'->K w'):xc (some ⟨g,0,none⟩) w K:=by
 refine qcs _ ?_;simp only [onPtr_some];rw [q4,q4];refine qw h.blk (by simp [qu.rep]) λw1 hb1 hg1 hs1=>?_;have hT1:ScT base g w F F S.dry w1:=ScT.dry h hb1 hg1;have hd:=hT1.drew;refine lI (x:=S.c.Row) (hd.m.blk.cells 3 _ rfl) (lI (x:=S.past) (hd.m.blk.cells 38 _ rfl) ?_);have hdd:=hd.drew;unfold Sc.index at hK;refine cO (λe=>?_) λe=>?_
 ·have e:S.c.Row=w64 (S.past-1):=eq_of_beq e;rw [if_pos e] at hK;refine lI (x:=S.top) (hdd.m.blk.cells 37 _ rfl) (lI (x:=S.past) (hdd.m.blk.cells 38 _ rfl) ?_);exact zfo hdd.m rfl rfl (by decide) λv F' w' hT=>hK F' w' (hdd.trans hT)
 ·have e:¬S.c.Row=w64 (S.past-1):=beq_eq_false_iff_ne.1 e;rw [if_neg e] at hK;refine lI (x:=S.c.Row) (hdd.m.blk.cells 3 _ rfl) (lI (x:=S.c.Col) (hdd.m.blk.cells 4 _ rfl) ?_);exact qs2 hdd.m λw' hT=>hK F w' (hdd.trans hT)
theorem q50 {K:Cur->Ub} (hK:∀w',Uc w w'->K qcc w'):qak w K:=by
 refine qol ?_;unfold qg3;refine nwb λw1 h1 hB1 hs1=>?_;exact q0q (r:=qI.rep) (x:=qcc) h1 rfl rfl λw2 hc2 hs2=>hK w2 (xq hB1 hc2 (le_refl _))
theorem qxv {S:Sc} (h:ScM w base g F S):qy w ((⟨g,0,none⟩:Addr).add 3) (qI.rep.cells S.c):=by
 rw [q4];intro j v hj;have:(qu.rep.cells (scX F S))[3+j]?=some v:=by
  match j,hj with
  | 0,hj=>exact hj
  | 1,hj=>exact hj
  | 2,hj=>exact hj
  | 3,hj=>exact hj
  | 4,hj=>exact hj
  | 5,hj=>exact hj
  | 6,hj=>exact hj
  | 7,hj=>exact hj
  | 8,hj=>exact hj
  | 9,hj=>exact hj
  | j+10,hj=>cases hj
 have h2:=h.blk.cells (3+j) v this;rw [q4] at h2 ⊢;rw [show 0+3+j=0+(3+j) by omega];exact h2
theorem q0x {K:Cur->Ub} (h:ScM w base g F S) (hK:∀w',Uc w w'->K S.c w'):vK (some ⟨g,0,none⟩) w K:=by
 refine qaw _ ?_;simp only [onPtr_some];refine nwb λw1 h1 hB1 hs1=>?_;refine qx (r:=qI.rep) (x:=S.c) (qxv (h.ext hB1)) ?_;exact q0q (r:=qI.rep) (x:=S.c) h1 rfl rfl λw2 hc2 hs2=>hK w2 (xq hB1 hc2 (le_refl _))
theorem q3f {K:Bool->Ub} (h:ScM w base g F S) (hK:K S.alt w):kZ (some ⟨g,0,none⟩) w K:=by
 refine qgr _ ?_;simp only [onPtr_some];refine lI (x:=if S.alt then 1 else 0) (h.blk.cells 2 _ rfl) ?_;cases hS:S.alt<;>rw [hS] at hK<;>exact hK
end
def q08:El xf where
 cells:=xf.rep.cells
 t:=qbw
 k:=2
 pos:=by decide
 len _:=rfl
 one x v hv:=by
  simp only [xf.rep,List.mem_cons,List.mem_nil_iff,or_false] at hv;rcases hv with rfl | rfl<;>rfl
def zf4:El Int where
 cells x:=[.int .i32 x]
 t:=vS
 k:=1
 pos:=by decide
 len _:=rfl
 one x v hv:=by
  simp only [List.mem_cons,List.mem_nil_iff,or_false] at hv;rcases hv with rfl
  rfl
def qmc (l:List (Int×Int)):List xf:=l.map λp=>⟨p.1,p.2⟩
def inS (r:Int) (p:xf):Bool:=decide (p.lo<=r) && decide (r<=p.hi)
theorem qx6 (r:Int) (l:List (Int×Int)):(qmc l).any (inS r)=inW r l:=by
 unfold qmc inW;rw [List.any_map];rfl
section
variable {w:World}
theorem q7e {r:Int} {l:Slc} {xs:List xf} {K:Bool->Ub} (hl:Rd q08 w l xs) (hxs:xs.length<=1000) (hK:∀w',Uc w w'->K (xs.any (inS r)) w'):qox r l w K:=by
 refine q3z _ _ ?_;refine lpR (λ(st:Int×Unit) w1=>∃k:Nat,st.1=(k:Int)/\k<=xs.length/\(xs.take k).any (inS r)=false/\Uc w w1) (λst=>xs.length-st.1.toNat) ⟨0,rfl,zero_le _,rfl,Below.refl _ _⟩ ?_;rintro ⟨i,u⟩ w1 ⟨k,hi,hk,hno,hB1⟩ I hI;dsimp only at hi ⊢;subst hi;rw [hl.n];refine cO (λe=>?_) λe=>?_
 ·have e:=oTq e;have hkl:k<xs.length:=by omega
  have hl1:=hl.ext hB1;have hm:=hl1.cm;have hn:=hl1.n;have hnc:=hl1.nc;have hx:xs[k]?=some xs[k]:=List.getElem?_eq_getElem hkl;refine hl1.ix (i:=(k:Int)) rfl (by omega) (by omega) λhc=>?_;rw [Int.toNat_natCast];refine qx (r:=xf.rep) (x:=xs[k]) (hl1.at_ k _ hx) ?_;refine nwb λw2 h2 hB2 hs2=>qd2 h2 rfl λw3 h3 hc3 hs3=>?_;have hB3:Uc w w3:=zt hB1 (xq hB2 hc3 (le_refl _));have step:inS r xs[k]=false->I (i64.wrap ((k:Int)+1),()) w3:=by
   intro hf;rw [qP (by omega)];refine hI _ _ ⟨k+1,by simp,by omega,?_,hB3⟩ (by dsimp only;omega);rw [List.take_add_one,hx,List.any_append,hno];simpa using hf
  have found:inS r xs[k]=true->K true w3:=by
   intro ht;have:=hK w3 hB3;rw [show xs.any (inS r)=true from List.any_eq_true.2 ⟨_,List.getElem_mem hkl,ht⟩] at this;exact this
  refine lI (x:=xs[k].lo) (h3.cells 0 _ rfl) (cO (λe1=>?_) λe1=>?_)
  ·have e1:xs[k].lo<=r:=oTq e1;refine lI (x:=xs[k].hi) (h3.cells 1 _ rfl) (cO (λe2=>?_) λe2=>?_)
   ·exact found (by unfold inS;rw [dTq e1,e2];rfl)
   ·exact step (by unfold inS;rw [dTq e1,e2];rfl)
  ·exact step (by unfold inS;rw [show decide (xs[k].lo<=r)=false from e1];rfl)
 ·have e:=oFq e;obtain rfl:k=xs.length:=by omega
  rw [List.take_length] at hno;have:=hK w1 hB1;rw [hno] at this;exact this
theorem q83 {K:Slc->Ub} (hK:∀s w',Rd q08 w' s (qmc qt9)->Uc w w'->K s w'):qmw w K:=by
 refine qv9 ?_;unfold qrf;exact nwb λw1 h1 hB1 hs1=>hK _ w1 (rd_lits (E:=q08) (ys:=qmc qt9) h1 (by simp [qmc,qt9,maxLen]) rfl) hB1
theorem q92 {K:Slc->Ub} (hK:∀s w',Rd q08 w' s (qmc q3u)->Uc w w'->K s w'):qm3 w K:=by
 refine qwv ?_;unfold qq7;exact nwb λw1 h1 hB1 hs1=>hK _ w1 (rd_lits (E:=q08) (ys:=qmc q3u) h1 (by simp [qmc,q3u,maxLen]) rfl) hB1
theorem zbe {r:Int} {K:Bool->Ub} (hK:K (isW r) w):qj5 r w K:=by
 refine qr7 _ ?_;unfold isW at hK;refine cO (λe1=>?_) λe1=>?_
 ·have h1:(0:Int)<=r:=oTq e1;rw [dTq h1] at hK;refine cO (λe2=>?_) λe2=>?_
  ·rw [e2] at hK;refine cO (λe3=>?_) λe3=>?_
   ·rw [e3] at hK;exact hK
   ·rw [e3] at hK;exact hK
  ·rw [e2] at hK;exact hK
 ·rw [show decide ((0:Int)<=r)=false from e1] at hK;exact hK
theorem q69 {r:Int} {K:Int->Ub} (hK:∀w',Uc w w'->K (qaf r) w'):qip r w K:=by
 refine qt1 _ ?_;unfold qaf at hK;refine jpO λJ1 hJ1=>zbe ?_;refine cO (λe=>?_) λe=>?_
 ·have e:isW r=false:=by simpa using e
  rw [if_pos (.inl e)] at hK;exact hJ1 _ _ (cT rfl (hK w (Below.refl _ _)))
 ·have e:isW r=true:=by simpa using e
  refine q83 λs w1 hs hB1=>q7e hs (by simp [qmc,qt9]) λw2 hB2=>?_;rw [qx6];refine hJ1 _ _ ?_;have hB02:=zt hB1 hB2;refine cO (λe2=>?_) λe2=>?_
  ·have e2:inW r qt9=true:=e2;rw [if_pos (.inr e2)] at hK;exact hK w2 hB02
  ·have e2:inW r qt9=false:=e2;rw [if_neg (by rw [e,e2];simp)] at hK;refine q92 λs w3 hs hB3=>q7e hs (by simp [qmc,q3u]) λw4 hB4=>?_;rw [qx6];have hB04:=zt (zt hB02 hB3) hB4;refine cO (λe3=>?_) λe3=>?_
   ·rw [if_pos e3] at hK;exact hK w4 hB04
   ·rw [if_neg (by rw [e3];decide)] at hK;exact hK w4 hB04
theorem zcz {r:Int} (h:qaf r≠0):0<=r/\r<=1114111:=by
 unfold qaf at h;by_cases e:isW r=false
 ·rw [if_pos (.inl e)] at h;exact absurd rfl h
 ·have e:isW r=true:=by simpa using e
  unfold isW at e;simp only [Bool.and_eq_true,decide_eq_true_eq] at e;exact e.1
theorem za5 (r:Int):qaf r=0\/qaf r=1\/qaf r=2:=by
 unfold qaf;split
 ·exact .inl rfl
 ·split
  ·exact .inr (.inr rfl)
  ·exact .inr (.inl rfl)
theorem q0i {set b:Int} {K:Int->Ub} (hb:0<=b/\b<=255) (hK:∀w',Uc w w'->K (qu5 set b) w'):qca set b w K:=by
 refine qpy _ _ ?_;unfold qu5 at hK;have hw:IntKind.i32.wrap b=b:=by
  obtain ⟨n,rfl⟩:∃n:Nat,b=n:=⟨b.toNat,by omega⟩;exact jE .i32 (by show _<2^31;omega)
 rw [hw];refine jpO λJ1 hJ1=>?_;have no:¬(set=48/\95<=b/\b<=126)->∀v:Bool,v=false->J1 (v,()) w:=by
  rintro hn v rfl;rw [if_neg hn] at hK;exact hJ1 _ _ (cF rfl (hK w (Below.refl _ _)))
 refine cO (λe=>?_) λe=>?_
 ·have e:set=48:=eq_of_beq e;refine cO (λe1=>?_) λe1=>?_
  ·have e1:=oTq e1;by_cases h2:b<=126
   ·rw [dTq h2];rw [if_pos ⟨e,e1,h2⟩] at hK;refine hJ1 _ _ (cT rfl ?_);refine qvn ?_;unfold qov;refine nwb λw1 h1 hB1 hs1=>?_;have hr:Rd zf4 w1 ⟨some ⟨w.heap.size,0,none⟩,32,32⟩ qi7:=rd_lits (E:=zf4) (ys:=qi7) h1 (by simp [qi7,maxLen]) rfl;obtain ⟨n,hn⟩:∃n:Nat,b-95=n:=⟨(b-95).toNat,by omega⟩;rw [hn,show IntKind.u8.wrap (n:Int)=n from jE .u8 (by show _<2^8;omega)];have hnl:n<qi7.length:=by show n<32;omega
    refine hr.ix (i:=(n:Int)) rfl (by omega) (by show (n:Int)<((32:Nat):Int);omega) λ_=>?_;have hx:qi7[n]?=some qi7[n]:=List.getElem?_eq_getElem hnl;rw [Int.toNat_natCast];refine lI (x:=qi7[n]) (by simpa using hr.at_ n _ hx 0 _ rfl) ?_;have:=hK w1 hB1;rw [hn,Int.toNat_natCast,List.getD_eq_getElem?_getD,hx] at this;exact this
   ·exact no (λhh=>h2 hh.2.2) _ (dFq h2)
  ·have e1:=oFq e1;exact no (λhh=>e1 hh.2.1) _ rfl
 ·have e:¬set=48:=beq_eq_false_iff_ne.1 e;exact no (λhh=>e hh.1) _ rfl
end
section
variable {w:World} {base g:Nat} {F:ScF} {S:Sc}
theorem ScOk.changed (h:ScOk S) {f:List qO->List qO} (hok:∀xs,okR xs->okR (f xs)) {row:Int} (hr:0<=row/\row<(S.g.rows:Int)):ScOk (S.withG { S.g with L:=S.g.L.set row.toNat (Z3 (f (S.g.L.getD row.toNat [])) S.g.cols) }):=by
 have hG:=h.gOk;refine h.withG (hG.set row.toNat ?_) rfl rfl;refine zbs hG.cols.2 (hok _ ?_);have hl:row.toNat<S.g.L.length:=by rw [hG.len];omega
 rw [List.getD_eq_getElem?_getD,List.getElem?_eq_getElem hl];exact (hG.L _ (List.getElem_mem hl)).2.2
theorem q0l {fv:Value} {f:List qO->List qO} {row:Int} {K:Bool->Ub} (h:ScM w base g F S) (hr:0<=row/\row<(S.g.rows:Int)) (hlen:∀xs,(f xs).length=xs.length) (hok:∀xs,okR xs->okR (f xs))
  (hf:∀(l:Slc) (xs:List qO) (K':Slc->Ub),Rd zr w.drew l xs->xs.length<=10000->(∀s w2,Go.Vc.Own zr w2 w.drew.heap.size s (f xs)->Below w.drew.heap.size w.drew w2->K' s w2)->jl C fv [.slice l.a l.n l.c] [Kind.slice] w.drew K')
  (hK:∀F' w',ScT base g w F F' (S.withG { S.g with L:=S.g.L.set row.toNat (Z3 (f (S.g.L.getD row.toNat [])) S.g.cols) }) w'->K true w'):Zp (some ⟨(F.f S.alt).g,0,none⟩) row fv w K:=by
 refine qh8 _ _ _ ?_;simp only [onPtr_some];have h3:=h.gM;have hG:=h.gOk;have hbase:=h.base_le;refine jpO λJ hJ=>?_;refine quk h3 ?_;rw [dTq hr];refine cT rfl ?_;refine lSl (x:=(F.f S.alt).ls) (h3.drew.blk.cells 3 _ rfl) ?_;refine lSl (x:=(F.f S.alt).ls) (h3.drew.blk.cells 3 _ rfl) ?_;obtain ⟨ls,ho,hl⟩:=h3.row;have hll:=hl.1;have hgl:=hG.len;refine ho.drew.rd.ix rfl hr.1 (by omega) λhc=>?_;have hlk:ls[row.toNat]?=some (ls[row.toNat]'(by omega)):=List.getElem?_eq_getElem _;have hxk:S.g.L[row.toNat]?=some (S.g.L[row.toNat]'(by omega)):=List.getElem?_eq_getElem _;refine lSl (x:=ls[row.toNat]'(by omega)) (by simpa using hc 0 _ rfl) ?_;refine lI (x:=(S.g.cols:Int)) (h3.drew.blk.cells 2 _ rfl) ?_;have hwk:(S.g.L[row.toNat]'(by omega)).length<=10000:=by
  have:=(hG.L _ (List.mem_of_getElem? hxk)).2.1;have:=hG.cols.2;omega
 refine hf _ _ _ (hl.2 _ _ _ hlk hxk).drew.rd hwk λt w4 ht hB4=>?_;have hB34:Uc w w4:=(zn w).trans hB4;have h4:=h3.ext hB34;refine ⟨h4.blk.cells 2 _ rfl,h4.blk.cells 3 _ rfl,?_⟩;refine q39 ht.rd (by rw [hlen];exact hwk) λu w5 hu hB5=>?_;have hB35:Uc w w5:=hB34.trans (hB5.mono hB34.size);have h5:=h3.ext hB35;refine ⟨h5.blk.cells 3 _ rfl,?_⟩;have ho5:=ho.ext hB35;have hs4:=hB34.size;refine ho5.rd.ix rfl hr.1 (by omega) λ_=>?_;refine ho5.st0 (x:=ls[row.toNat]'(by omega)) hlk (y:=u) rfl λw6 ho6 hg6 hs6=>?_;obtain ⟨h6,hc6⟩:=h5.setLine (i:=row.toNat) (hl.ext hB35) (hu.base (by omega)) ho6 hg6;refine hJ _ _ (quk h6 ?_);rw [dTq hr];have ok:=h.ok.changed hok hr;rw [List.getD_eq_getElem?_getD,hxk] at hK ok;have hTe:=ScT.of_ext h hB35;refine hK _ w6 (hTe.trans (ScT.mk_grid hTe.m h6 (Foot.to.refl _ _) (hc6.mono λi _ hi=>.inr (.inr (.inl hi))) ok))
end
section
variable {S:Sc}
theorem zb8 (S:Sc) (top past n:Int):(S.scroll top past n).g=vM S.g top past n S.blank:=q7u _ _
theorem q5x (h:ScOk S):S.index.g.cols=S.g.cols/\S.index.g.rows=S.g.rows:=by
 unfold Sc.index;split
 ·rw [zb8];have hl:=qao (top:=S.dry.top) (past:=S.dry.past) (n:=1) (a:=S.dry.blank) h.dry.gOk.len;exact ⟨hl.2.2.1,hl.2.1⟩
 ·exact ⟨rfl,rfl⟩
theorem qw6 (h:ScOk S):S.next.g.cols=S.g.cols/\S.next.g.rows=S.g.rows:=q5x (h.to S.c.Row 0)
theorem ScOk.setCol (h:ScOk S) {col:Int} (hc:0<=col/\col<(S.g.cols:Int)):ScOk (S.setCol col):=h.cur h.rowg hc h.shift
theorem zdj (S:Sc) (r w:Int) (xs:List qO):(S.putL r w xs).length=xs.length:=by
 unfold Sc.putL;rw [q07];split
 ·exact qrr _ _ _ _
 ·rfl
theorem q05 (S:Sc) {r:Int} (hr:0<=r/\r<=1114111) (w:Int) (xs:List qO) (h:okR xs):okR (S.putL r w xs):=by
 unfold Sc.putL;refine zfy ?_ (by omega);split
 ·exact zfq h _ _ _
 ·exact h
theorem q00 (S:Sc) (f:List qO->List qO):(S.change f).c=S.c:=by
 unfold Sc.change;split
 ·exact q7x _ _
 ·rfl
theorem q1q (S:Sc) (f:List qO->List qO):(S.change f).g.cols=S.g.cols/\(S.change f).g.rows=S.g.rows:=by
 unfold Sc.change;split
 ·rw [q7u];exact ⟨rfl,rfl⟩
 ·exact ⟨rfl,rfl⟩
theorem ScOk.change (h:ScOk S) {f:List qO->List qO} (hok:∀xs,okR xs->okR (f xs)):ScOk (S.change f):=by
 unfold Sc.change;rw [if_pos h.rowg];exact h.changed hok h.rowg
theorem ScOk.char (h:ScOk S) (r:Int):ScOk { S with char:=r }:=⟨h.g0,h.g1,h.rows,h.cols,h.row,h.col,h.shift,h.sh0,h.sh1,h.top,h.marg,h.stops⟩
theorem ScOk.laid (h:ScOk S) {r wd:Int} (hr:0<=r/\r<=1114111) (hw:1<=wd/\wd<=2) (wrap:Bool):ScOk (S.laid r wd wrap):=by
 have h1:=h.change (q05 S hr wd);have hb:=h.bnd;have hc:=h.colg;obtain ⟨e1,e2⟩:=q1q S (S.putL r wd);have ec:=q00 S (S.putL r wd);unfold Sc.laid;dsimp only;have ew:w64 (S.c.Col+wd)=S.c.Col+wd:=qvl (by omega);have ew2:w64 ((S.g.cols:Int)-1)=(S.g.cols:Int)-1:=qvl (by omega);rw [ew,ew2];have hrow:=h1.rowg;have hsh:=h1.shift;split
 ·exact h1.cur hrow (by dsimp only;rw [e1];omega) hsh
 ·rename_i hlt;have hlt:¬S.c.Col+wd>=(S.g.cols:Int):=hlt;exact h1.cur hrow (by dsimp only;rw [e1];omega) hsh
end
structure Bx (w:World) (bs br bw g:Nat) (r wd:Int):Prop where
 s:Blk w bs YS [.pointer (some ⟨g,0,none⟩)]
 r:Blk w br vS [.int .i32 r]
 w:Blk w bw zd [.int .i64 wd]
theorem Bx.chg {w w':World} {bs br bw g:Nat} {r wd:Int} {T:Nat->Prop} (h:Bx w bs br bw g r wd) (hc:Chg T w w') (h1:¬T bs) (h2:¬T br) (h3:¬T bw):Bx w' bs br bw g r wd:=⟨h.s.chg hc h1,h.r.chg hc h2,h.w.chg hc h3⟩
theorem Bx.ext {w w':World} {bs br bw g:Nat} {r wd:Int} (h:Bx w bs br bw g r wd) (hB:Uc w w'):Bx w' bs br bw g r wd:=⟨h.s.ext hB,h.r.ext hB,h.w.ext hB⟩
structure LayS (base g:Nat) (w0:World) (F0:ScF) (bs br bw:Nat) (r wd:Int) (F:ScF) (S:Sc) (w:World):Prop where
 t:ScT base g w0 F0 F S w
 bx:Bx w bs br bw g r wd
 ne:∀k,scS g F k->k≠bs/\k≠br/\k≠bw
section
variable {w0 w w':World} {base g bs br bw:Nat} {F0 F F':ScF} {S S':Sc} {r wd:Int}
theorem LayS.step (h:LayS base g w0 F0 bs br bw r wd F S w) (hT:ScT base g w F F' S' w'):LayS base g w0 F0 bs br bw r wd F' S' w':=by
 refine ⟨h.t.trans hT,h.bx.chg hT.chg (λe=>(h.ne _ e).1 rfl) (λe=>(h.ne _ e).2.1 rfl) (λe=>(h.ne _ e).2.2 rfl),λk hk=>?_⟩;rcases hT.old k hk with h1 | h1
 ·exact h.ne k h1
 ·have b1:=h.bx.s.lt;have b2:=h.bx.r.lt;have b3:=h.bx.w.lt;omega
theorem LayS.drew (h:LayS base g w0 F0 bs br bw r wd F S w):LayS base g w0 F0 bs br bw r wd F S w.drew:=h.step (ScT.refl h.t.m).drew
theorem qkn {r:Nat} {L:List (Int×Bool)} (h:jc qyu w r L) {k:Int} {K:Bool->Ub} (hK:K ((zp L k).getD false) w):jv PG (Instr.lookup zv (.map (some r)) (Ua k) false) Kind.bool w K:=by
 refine ⟨(zp L k).getD false,w,?_,hK⟩;rw [h.lookup q76 q72 zht k];cases zp L k<;>rfl
theorem qtl (h:ScM w base g F S):qy w (((⟨g,0,none⟩:Addr).add 3).add 3) (qt.rep.cells S.c.A):=by
 have h1:=qxv h;intro j v hj;have:(qI.rep.cells S.c)[3+j]?=some v:=by
  match j,hj with
  | 0,hj=>exact hj
  | 1,hj=>exact hj
  | 2,hj=>exact hj
  | j+3,hj=>cases hj
 have h2:=h1 (3+j) v this;simp only [q4] at h2 ⊢;rw [show 0+3+3+j=0+3+(3+j) by omega];exact h2
theorem q5c:C.plain vA=true:=by kernel_rfl
theorem q9t {l:Slc} {xs:List qO} {K:Slc->Ub} (h:ScM w base g F S) (hx:Bx w bs br bw g r wd) (hl:Rd zr w l xs) (hlen:xs.length<=10000)
  (hK:∀s w',Go.Vc.Own zr w' w.heap.size s (S.putL r wd xs)->Uc w w'->K s w') :
  jl C (.func (.func vA) #[] #[.pointer (some ⟨bs,0,none⟩),.pointer (some ⟨bw,0,none⟩),.pointer (some ⟨br,0,none⟩)]) [.slice l.a l.n l.c] [Kind.slice] w K:=by
 have hh:Xd l ⟨bs,0,none⟩ ⟨bw,0,none⟩ ⟨br,0,none⟩ w K:=by
  refine qcm _ _ _ _ ?_;refine jpO λJ1 hJ1=>?_;have key:∀s w1,Rd zr w1 s (if S.mode 4 then qfk xs S.c.Col wd S.c.A else xs)->Uc w w1->J1 (s,()) w1:=by
   intro s w1 hs hB1;refine hJ1 _ _ ?_;have h1:=(h.ext hB1).drew;have x1:=(hx.ext hB1).ext (zn w1);refine qK (x:=some ⟨g,0,none⟩) (by simpa using x1.s.cells 0 _ rfl) ?_;simp only [onPtr_some];refine lI (x:=S.c.Col) (by simp only [q4];exact h1.blk.cell 4 rfl) ?_;refine lI (x:=r) (by simpa using x1.r.cells 0 _ rfl) (lI (x:=wd) (by simpa using x1.w.cells 0 _ rfl) ?_);refine qK (x:=some ⟨g,0,none⟩) (by simpa using x1.s.cells 0 _ rfl) ?_;simp only [onPtr_some];refine qx (r:=qt.rep) (x:=S.c.A) (qtl h1) ?_;refine q4z (hs.ext (zn w1)) (by split;rw [qrr];exact hlen;exact hlen) λt w2 ht hB2=>?_;have hB02:Uc w w2:=zt (zt hB1 (zn w1)) hB2;exact hK t w2 (ht.base (zt hB1 (zn w1)).size) hB02
  refine qK (x:=some ⟨g,0,none⟩) (by simpa using hx.s.cells 0 _ rfl) ?_;simp only [onPtr_some];refine kM (x:=some F.mm) (h.blk.cells 35 _ rfl) (qkn h.mo ?_);have hd:=h.drew;have xd:=hx.ext (zn w);show cond (S.mode 4) _ _;cases hm:S.mode 4
  ·exact key l w (by rw [hm];exact hl) (Below.refl _ _)
  ·refine cT rfl ?_;refine qK (x:=some ⟨g,0,none⟩) (by simpa using xd.s.cells 0 _ rfl) ?_;simp only [onPtr_some];refine lI (x:=S.c.Col) (by simp only [q4];exact hd.blk.cell 4 rfl) ?_;refine lI (x:=wd) (by simpa using xd.w.cells 0 _ rfl) ?_;refine qK (x:=some ⟨g,0,none⟩) (by simpa using xd.s.cells 0 _ rfl) ?_;simp only [onPtr_some];refine qx (r:=qt.rep) (x:=S.c.A) (qtl hd) ?_;refine q1s (hl.ext (zn w)) hlen λt w2 ht hB2=>?_;exact key t w2 (by rw [hm];exact ht.rd) (zt (zn w) hB2)
 refine callR_plain q5c (Calls.mono hh ?_);rintro e w' ⟨t,rfl,hk⟩;exact ⟨t,rfl,hk⟩
end
section
variable {w0 w w':World} {base g bs br bw:Nat} {F0 F F':ScF} {S S':Sc} {r wd:Int}
theorem q1j {K:Ub} (h:ScM w base g F S) (hK:∀F' w',ScT base g w F F' (S.lay r) w'->K w'):kW (some ⟨g,0,none⟩) r w K:=by
 refine qev _ _ ?_;refine nwb λw1 hs1 hB1 z1=>nwb λw2 hr2 hB2 z2=>?_;refine lI (x:=r) (by simpa using hr2.cells 0 _ rfl) (q69 λw3 hB3=>?_);refine nwb λw4 hw4 hB4 z4=>qd2 hw4 rfl λw5 hw5 hc5 z5=>?_;have z3:=hB3.size;have hB04:Uc w w4:=zt (zt (zt hB1 hB2) hB3) hB4;have hB05:Uc w w5:=xq hB04 hc5 (by omega);have x4s:=((hs1.ext hB2).ext hB3).ext hB4;have x4r:=(hr2.ext hB3).ext hB4;obtain ⟨wd,hwd⟩:∃wd,wd=qaf r:=⟨_,rfl⟩;rw [<-hwd] at hw5;have hB5:Bx w5 w.heap.size w1.heap.size w3.heap.size g r wd:=⟨x4s.chg hc5 (by omega),x4r.chg hc5 (by omega),hw5⟩;have hT5:ScT base g w F F S w5:=ScT.of_ext h hB05;have L5:LayS base g w F w.heap.size w1.heap.size w3.heap.size r wd F S w5:=⟨hT5,hB5,λk hk=>by have:=(h.below k hk).2;omega⟩;refine qK (x:=some ⟨g,0,none⟩) (by simpa using L5.bx.s.cells 0 _ rfl) ?_;refine qmx L5.t.m ?_;have L6:=L5.drew.drew;generalize w5.drew.drew=w6 at L6 ⊢;clear L5 hT5 hB5 x4s x4r hw5 hc5 hB4 hw4 hr2 hs1 hB1 hB2 hB3 hB04 hB05;refine lI (x:=wd) (by simpa using L6.bx.w.cells 0 _ rfl) ?_;unfold Sc.lay at hK;rw [<-hwd] at hK;refine cO (λe=>?_) λe=>?_
 ·have e:wd=0:=eq_of_beq e;rw [if_pos e] at hK;exact hK F w6 L6.t
 have e:¬wd=0:=beq_eq_false_iff_ne.1 e;rw [if_neg e] at hK;have hrr:=zcz (r:=r) (by rw [<-hwd];exact e);have hw12:1<=wd/\wd<=2:=by
  rcases za5 r with h1 | h1 | h1
  ·exact absurd (hwd.trans h1) e
  ·omega
  ·omega
 refine qK (x:=some ⟨g,0,none⟩) (by simpa using L6.bx.s.cells 0 _ rfl) ?_;refine lI (x:=r) (by simpa using L6.bx.r.cells 0 _ rfl) ?_;simp only [onPtr_some];rw [q4];refine qw L6.t.m.blk (by simp [qu.rep]) λw7 hb7 hg7 hs7=>?_;obtain ⟨S1,hS1⟩:∃S1:Sc,S1={ S with char:=r }:=⟨_,rfl⟩;have hT7:ScT base g w6 F F S1 w7:=by
  rw [hS1];exact ScT.mk_struct L6.t.m (Chg.gg hg7) hb7 rfl rfl rfl rfl rfl rfl (L6.t.m.ok.char r)
 have L7:=L6.step hT7;have hcols1:S1.g.cols=S.g.cols:=by rw [hS1];rfl
 have hpm:S1.pmode 7=S.pmode 7:=by rw [hS1];rfl
 rw [<-hS1] at hK;obtain ⟨wrap,hwrap⟩:∃wrap,wrap=S.pmode 7:=⟨_,rfl⟩;rw [<-hwrap] at hK;clear hb7 hg7 hs7 hT7 L6;refine qK (x:=some ⟨g,0,none⟩) (by simpa using L7.bx.s.cells 0 _ rfl) ?_;simp only [onPtr_some];refine kM (x:=some F.mp) (by rw [q4];exact L7.t.m.blk.cell 36 rfl) (qkn L7.t.m.pr ?_);rw [show (zp S1.priv 7).getD false=wrap by rw [hwrap,<-hpm];rfl];obtain ⟨Sx,hSx⟩:∃Sx,Sx=S1.layX wrap:=⟨_,rfl⟩;rw [<-hSx] at hK;unfold Sc.layX at hSx;unfold Sc.layY at hK;have hok1:=L7.t.m.ok;have hcx:Sx.g.cols=S.g.cols:=by
  rw [hSx];split
  ·rw [(qw6 hok1).1,hcols1]
  ·exact hcols1
 have hb1:=h.ok.bnd;refine jpO λJ1 hJ1=>?_;have key1:∀F1 w9,LayS base g w F w.heap.size w1.heap.size w3.heap.size r wd F1 Sx w9->J1 () w9:=by
  intro F1 w9 L9;refine hJ1 _ _ ?_;refine qK (x:=some ⟨g,0,none⟩) (by simpa using L9.bx.s.cells 0 _ rfl) ?_;simp only [onPtr_some];rw [q4,q4];refine qw L9.t.m.blk (by simp [qu.rep]) λw10 hb10 hg10 hs10=>?_;have L10:=L9.step (ScT.dry L9.t.m hb10 hg10);clear hb10 hg10 hs10 L9;obtain ⟨S2,hS2⟩:∃S2,S2=Sx.dry:=⟨_,rfl⟩;rw [<-hS2] at L10 hK;have hc2:S2.g.cols=S.g.cols:=by rw [hS2];exact hcx
  refine jpO λJ2 hJ2=>?_;have key2:∀(S3:Sc) F2 w11,LayS base g w F w.heap.size w1.heap.size w3.heap.size r wd F2 S3 w11->S3.g.cols=S.g.cols->S3.c.Wrap=false->(∀F' w',ScT base g w F F' (S3.laid r wd wrap) w'->K w')->J2 () w11:=by
   intro S3 F2 w11 L11 hc3 hwr3 hK3;refine hJ2 _ _ ?_;have Ld:=L11.drew;refine qK (x:=some ⟨g,0,none⟩) (by simpa using Ld.bx.s.cells 0 _ rfl) (qK (x:=some ⟨g,0,none⟩) (by simpa using Ld.bx.s.cells 0 _ rfl) ?_);simp only [onPtr_some];refine lI (x:=S3.c.Row) (by simp only [q4];exact Ld.t.m.blk.cell 3 rfl) ?_;refine qn5 Ld.t.m ?_;have Ldd:=Ld.drew;refine ⟨by simp only [q4];exact Ldd.t.m.blk.cell 3 rfl,by simpa using Ldd.bx.s.cells 0 _ rfl,?_⟩;have hok3:=L11.t.m.ok;refine q0l (f:=S3.putL r wd) Ldd.t.m hok3.rowg (zdj S3 r wd) (q05 S3 hrr wd) (λl xs K' hl hlen hk=>?_) λF4 w13 hT13=>?_
   ·exact q9t Ldd.drew.t.m Ldd.drew.bx hl hlen hk
   have L13:=Ldd.step hT13;have ech:S3.withG { S3.g with L:=S3.g.L.set S3.c.Row.toNat (Z3 (S3.putL r wd (S3.g.L.getD S3.c.Row.toNat [])) S3.g.cols) }=S3.change (S3.putL r wd):=by
    unfold Sc.change;rw [if_pos hok3.rowg]
   rw [ech] at L13;clear hT13 L11 Ld Ldd ech;obtain ⟨S4,hS4⟩:∃S4,S4=S3.change (S3.putL r wd):=⟨_,rfl⟩;rw [<-hS4] at L13;have hc4:S4.c=S3.c:=by rw [hS4];exact q00 _ _
   have L14:=L13.drew;refine qK (x:=some ⟨g,0,none⟩) (by simpa using L14.bx.s.cells 0 _ rfl) ?_;simp only [onPtr_some];refine lI (x:=S4.c.Col) (by simp only [q4];exact L14.t.m.blk.cell 4 rfl) ?_;refine lI (x:=wd) (by simpa using L14.bx.w.cells 0 _ rfl) ?_;rw [q4,q4];refine qw L14.t.m.blk (by simp [qu.rep]) λw15 hb15 hg15 hs15=>?_;have hc15:=Chg.gg hg15;have x15:Bx w15 w.heap.size w1.heap.size w3.heap.size g r wd:=L14.bx.chg hc15 (λe=>(L14.ne g (.inl rfl)).1 e.symm) (λe=>(L14.ne g (.inl rfl)).2.1 e.symm) (λe=>(L14.ne g (.inl rfl)).2.2 e.symm);have hb15:Blk w15 g zu (qu.rep.cells (scX F4 (S4.setCol (w64 (S4.c.Col+wd))))):=hb15;refine qK (x:=some ⟨g,0,none⟩) (by simpa using x15.s.cells 0 _ rfl) ?_;simp only [onPtr_some];refine lI (x:=w64 (S4.c.Col+wd)) (by exact hb15.cell 4 rfl) ?_;have hokl:=hok3.laid hrr hw12 wrap;have elaid:S3.laid r wd wrap=(if w64 (S4.c.Col+wd)>=(S.g.cols:Int) then { S4.setCol (w64 (S4.c.Col+wd)) with c:={ (S4.setCol (w64 (S4.c.Col+wd))).c with Col:=w64 ((S.g.cols:Int)-1),Wrap:=wrap } } else S4.setCol (w64 (S4.c.Col+wd))):=by
    unfold Sc.laid;dsimp only;rw [<-hS4,<-hc4,hc3];rfl
   rw [elaid] at hK3 hokl;refine cO (λe2=>?_) λe2=>?_
   ·have e2:w64 (S4.c.Col+wd)>=(S.g.cols:Int):=oTq e2;rw [if_pos e2] at hK3 hokl;have xd:=x15.ext (zn w15);refine qK (x:=some ⟨g,0,none⟩) (by simpa using xd.s.cells 0 _ rfl) (qK (x:=some ⟨g,0,none⟩) (by simpa using xd.s.cells 0 _ rfl) ?_);simp only [onPtr_some];rw [q4,q4];refine qw hb15.drew (by simp [qu.rep]) λw16 hb16 hg16 hs16=>?_;have hc16:=Chg.gg hg16;have x16:=xd.chg hc16 (λe=>(L14.ne g (.inl rfl)).1 e.symm) (λe=>(L14.ne g (.inl rfl)).2.1 e.symm) (λe=>(L14.ne g (.inl rfl)).2.2 e.symm);refine ⟨by simpa using x16.s.cells 0 _ rfl,?_⟩;rw [q4];refine qw hb16 (by simp [qu.rep,putL]) λw17 hb17 hg17 hs17=>?_;have hcd:Chg (λk=>k=g) w15 w15.drew:=Chg.of_ext (zn w15);have hc17:Chg (λk=>k=g) w13.drew w17:=((hc15.trans hcd λi _ hi=>hi).trans hc16 λi _ hi=>hi).trans (Chg.gg hg17) λi _ hi=>hi;exact hK3 F4 w17 (L14.t.trans (ScT.mk_struct L14.t.m hc17 hb17 rfl rfl rfl rfl rfl rfl hokl))
   ·have e2:¬w64 (S4.c.Col+wd)>=(S.g.cols:Int):=oFq e2;rw [if_neg e2] at hK3 hokl;exact hK3 F4 w15 (L14.t.trans (ScT.mk_struct L14.t.m hc15 hb15 rfl rfl rfl rfl rfl rfl hokl))
  have Ld:=L10.drew;refine qK (x:=some ⟨g,0,none⟩) (by simpa using Ld.bx.s.cells 0 _ rfl) ?_;simp only [onPtr_some];refine lI (x:=S2.c.Col) (by simp only [q4];exact Ld.t.m.blk.cell 4 rfl) ?_;refine lI (x:=wd) (by simpa using Ld.bx.w.cells 0 _ rfl) ?_;have hwr2:S2.c.Wrap=false:=by rw [hS2];rfl
  refine cO (λe2=>?_) λe2=>?_
  ·have e2:w64 (S2.c.Col+wd)>(S.g.cols:Int):=oTq e2;rw [if_pos e2] at hK;refine lI (x:=wd) (by simpa using Ld.bx.w.cells 0 _ rfl) ?_;refine cO (λe3=>?_) λe3=>?_
   ·have e3:wd>(S.g.cols:Int):=oTq e3;rw [if_pos e3] at hK;exact hK F1 _ Ld.t
   ·have e3:¬wd>(S.g.cols:Int):=oFq e3;rw [if_neg e3] at hK;cases hwv:wrap
    ·rw [hwv] at hK key2;rw [if_neg (by decide)] at hK;refine cF rfl ?_;refine qK (x:=some ⟨g,0,none⟩) (by simpa using Ld.bx.s.cells 0 _ rfl) ?_;refine lI (x:=wd) (by simpa using Ld.bx.w.cells 0 _ rfl) ?_;simp only [onPtr_some];rw [q4,q4];refine qw Ld.t.m.blk (by simp [qu.rep]) λw19 hb19 hg19 hs19=>?_;have ew:w64 ((S.g.cols:Int)-wd)=(S.g.cols:Int)-wd:=qvl (by omega);have hokc:ScOk (S2.setCol (w64 ((S.g.cols:Int)-wd))):=Ld.t.m.ok.setCol (by rw [ew,hc2];omega);have L19:=Ld.step (ScT.mk_struct Ld.t.m (Chg.gg hg19) (S':=S2.setCol (w64 ((S.g.cols:Int)-wd))) hb19 rfl rfl rfl rfl rfl rfl hokc);exact key2 _ _ _ L19 hc2 hwr2 hK
    ·rw [hwv] at hK key2;rw [if_pos rfl] at hK;refine cT rfl ?_;have Ldd:=Ld.drew;refine qK (x:=some ⟨g,0,none⟩) (by simpa using Ldd.bx.s.cells 0 _ rfl) (qK (x:=some ⟨g,0,none⟩) (by simpa using Ldd.bx.s.cells 0 _ rfl) ?_);simp only [onPtr_some];refine lI (x:=S2.c.Row) (by simp only [q4];exact Ldd.t.m.blk.cell 3 rfl) ?_;refine qs2 Ldd.t.m λw17 hT17=>?_;have L17:=Ldd.step hT17;refine qK (x:=some ⟨g,0,none⟩) (by simpa using L17.bx.s.cells 0 _ rfl) ?_;refine qmo L17.t.m λF5 w18 hT18=>?_;have L18:=L17.step hT18;have hn:=qw6 L10.t.m.ok;refine key2 S2.next _ _ L18 (hn.1.trans hc2) ?_ hK;unfold Sc.next Sc.index;split
     ·show (Sc.scroll _ _ _ _).c.Wrap=false;unfold Sc.scroll;rw [q7x];rfl
     ·rfl
  ·have e2:¬w64 (S2.c.Col+wd)>(S.g.cols:Int):=oFq e2;rw [if_neg e2] at hK;exact key2 S2 _ _ Ld hc2 hwr2 hK
 refine jpO λJ3 hJ3=>?_;refine qK (x:=some ⟨g,0,none⟩) (by simpa using L7.bx.s.cells 0 _ rfl) ?_;simp only [onPtr_some];refine xP (x:=S1.c.Wrap) (by simp only [q4];exact L7.t.m.blk.cell 5 rfl) ?_;have key3:∀b:Bool,(b=true↔S1.c.Wrap=true/\wrap=true)->J3 (b,()) w7:=by
  intro b hb;refine hJ3 _ _ ?_;refine cO (λe=>?_) λe=>?_
  ·have e:=hb.1 e;rw [if_pos e] at hSx;have Ld:=L7.drew;refine qK (x:=some ⟨g,0,none⟩) (by simpa using Ld.bx.s.cells 0 _ rfl) (qK (x:=some ⟨g,0,none⟩) (by simpa using Ld.bx.s.cells 0 _ rfl) ?_);simp only [onPtr_some];refine lI (x:=S1.c.Row) (by simp only [q4];exact Ld.t.m.blk.cell 3 rfl) ?_;refine qs2 Ld.t.m λw17 hT17=>?_;have L17:=Ld.step hT17;refine qK (x:=some ⟨g,0,none⟩) (by simpa using L17.bx.s.cells 0 _ rfl) ?_;refine qmo L17.t.m λF5 w18 hT18=>?_;have L18:=L17.step hT18;rw [hSx] at key1;exact key1 _ _ L18
  ·have e:¬(S1.c.Wrap=true/\wrap=true):=λhh=>by rw [hb.2 hh] at e;cases e
   rw [if_neg e] at hSx;rw [hSx] at key1;exact key1 _ _ L7
 refine cO (λe=>key3 _ ?_) λe=>key3 _ ?_
 ·exact ⟨λhh=>⟨e,hh⟩,λhh=>hh.2⟩
 ·exact ⟨(λhh=>by cases hh),λhh=>absurd hh.1 (by rw [e];decide)⟩
theorem za3 (h:ScM w base g F S) {K:Int->Prop} (hK:K (S.set2 S.c.Shift)):ixA (((⟨g,0,none⟩:Addr).add 3).add 7) 2 S.c.Shift 1 λt=>ldI .u8 t w K:=by
 have hs:=h.ok.shift;unfold Sc.set2 at hK;rcases hs with e | e
 ·rw [e] at hK ⊢;exact ⟨⟨by decide,by decide⟩,lI (x:=S.c.Sets.e0) (by simp only [q4];exact h.blk.cell 10 rfl) hK⟩
 ·rw [e] at hK ⊢;exact ⟨⟨by decide,by decide⟩,lI (x:=S.c.Sets.e1) (by simp only [q4];exact h.blk.cell 11 rfl) hK⟩
theorem q4v {K:Ub} (h:ScM w base g F S) (hK:∀F' w',ScT base g w F F' (S.print r) w'->K w'):yh (some ⟨g,0,none⟩) r w K:=by
 refine qcu _ _ ?_;simp only [onPtr_some];refine jpO λJ1 hJ1=>?_;unfold Sc.print at hK;have key:∀b:Bool,(b=true↔0<=r/\r<128)->J1 (b,()) w:=by
  intro b hb;refine hJ1 _ _ ?_;refine cO (λe=>?_) λe=>?_
  ·have e:=hb.1 e;rw [if_pos e] at hK;have hd:=(ScT.refl h).drew;refine lI (x:=S.c.Shift) (by simp only [q4];exact hd.m.blk.cell 12 rfl) (za3 hd.m ?_);obtain ⟨n,rfl⟩:∃n:Nat,r=n:=⟨r.toNat,by omega⟩;rw [show IntKind.u8.wrap (n:Int)=n from jE .u8 (by show _<2^8;omega)];refine q0i (by omega) λw2 hB2=>?_;have h2:=hd.ext hB2;exact q1j h2.m λF' w' hT=>hK F' w' (h2.trans hT)
  ·have e:¬(0<=r/\r<128):=λhh=>by rw [hb.2 hh] at e;cases e
   rw [if_neg e] at hK;exact q1j h hK
 refine cO (λe=>key _ ?_) λe=>key _ ?_
 ·have e:r>=0:=oTq e;exact ⟨λhh=>⟨e,oTq hh⟩,λhh=>dTq hh.2⟩
 ·have e:¬r>=0:=oFq e;exact ⟨(λhh=>by cases hh),λhh=>absurd hh.1 e⟩
end
section
variable {w w':World} {base g:Nat} {F F':ScF} {S S':Sc}
theorem qxp {r:Nat} {L:List (Int×Bool)} (h:jc qyu w r L) {n:Int} (hn:-9223372036854775808<=n/\n<=9223372036854775807) {b:Bool} {K:Option Value->Ub}
  (hK:∀w',jc qyu w' r (k8 L n b)->Chg (λk=>k=r) w w'->w'.heap.size=w.heap.size->K none w'):qoy PG (Instr.mapUpdate zv (.map (some r)) (Ua n) (.bool b)) w K:=by
 obtain ⟨w',h1,h2,h3,h4⟩:=h.update q76 q72 hn b;exact ⟨w',h1,hK w' h2 h3 h4⟩
theorem ScOk.areas (h:ScOk S) (l:List zX):ScOk { S with areas:=l }:=⟨h.g0,h.g1,h.rows,h.cols,h.row,h.col,h.shift,h.sh0,h.sh1,h.top,h.marg,h.stops⟩
end
end Go.Proofs.YtokfefnmpjohpaaGreatDoor
