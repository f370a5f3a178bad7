import Derived.Test.YtjhgepnpnapnoaaGreatDoorP5
import Derived.Test.YtjhgepnpnapnoaaGreatDoorP3
import Derived.Test.YtjhgepnpnapnoaaGreatDoorP4
set_option linter.unusedVariables false
open Go.IntKind (i64 u8)
namespace Go.Proofs.YtjhgepnpnapnoaaGreatDoor
open Go.Vc Go.RowKit
set_option maxRecDepth 400000
open Builtin (copy_)
open _root_.Int (toNat_natCast)
open _root_.List (all_eq_true length_append length_cons length_map length_nil length_take mem_cons_of_mem mem_cons_self mem_range take_length)
open _root_.Nat (add_mul le_refl le_trans mul_assoc mul_le_mul mul_one zero_le)
open _root_.Option (getD_some)
section
variable {w w':World} {base:Nat} {F F':TmF} {T T':TS}
theorem qbj (h:TermM w base F T) {K:Slc->Ub} (hK:∀q ls w',Go.Vc.Own slE w' w.heap.size q ls->Lines w' w.heap.size ls T.S.g.L->Uc w w'->K q w'):jm (some ⟨F.tg,0,none⟩) w K:=by
 refine qml _ ?_;have b:=h.sc.gOk;refine qS (h.blk.cells 6 _ rfl) (q27 h.sc λo A p B r c=>?_);have m:=c.size;refine qtc (by rw [b.len];have:=b.rows;omega) (λi f t a u v=>?_) λq ls f k n a=>hK q ls f (k.base m) ⟨n.1,λj s d y e=>(n.2 j s d y e).base m⟩ (bT c a);refine zck (p.ext a) b.len (λd e=>by have:=(b.L d e).2.1;have:=b.cols;omega) (λs d z C e k l=>u d (by simpa using e) s z k l) λD=>v (by rw [b.len];omega) _ _ (Below.refl _ _)
theorem qzg (h:TermM w base F T) {K:Slc->Ub} (hK:∀q ls w',Go.Vc.Own slE w' w.heap.size q ls->Lines w' w.heap.size ls T.S.g.old->Uc w w'->K q w') (hol:T.S.g.old.length<=2000):Jy (some ⟨F.tg,0,none⟩) w K:=by
 refine qsf _ ?_;have m:=h.sc.gOk;refine qS (h.blk.cells 6 _ rfl) (q27 h.sc λp A r B t c=>?_);have n:=c.size;refine qtc hol (λi k u a v y=>?_) λq ls k f o a=>hK q ls k (f.base n) ⟨o.1,λj s d z e=>(o.2 j s d z e).base n⟩ (bT c a);refine zfk (r.ext a) (by have:=m.most;omega) (λd e=>by have:=(m.old d e).1;omega) (λs d l C e f b=>v d (by simpa using e) s l f b) λD s l f b=>y (by omega) s l b
theorem zf1 (h:TermM w base F T) {K:Slc->Ub} (hK:∀q w',Rd qo w' q T.rep->TmT base w F { F with rq:=⟨none,0,0⟩ } { T with rep:=[] } w'->K q w'):kF (some ⟨F.tg,0,none⟩) w K:=by
 refine qjp _ ?_;simp only [onPtr_some];refine lSl (h.blk.cells 12 _ rfl) (q3j (q6j h.rq) λq g m=>?_);refine qD h.blk (by show 0+12+1<=15;omega) λj b c l=>?_;have i:=Chg.gg c;have d:=g.chg i λk a e=>by
  obtain ⟨n,f⟩:=(g.blk k a).2;subst e;exact h.blk.ne_t f (by decide) rfl
 exact hK q j d.rd (h.put b i rfl rfl rfl rfl rfl rfl rfl rfl rfl h.cq (Go.Vc.Own.nil _ _ _) (λk a=>a) λk a=>by cases a)
theorem qnv (h:TermM w base F T) {K:Slc->Ub} (hK:∀q F' w',Rd qo w' q T.rep->TmT base w F F' { T with rep:=[] } w'->K q w'):kF (some ⟨F.tg,0,none⟩) w K:=zf1 h λq w'=>hK q _ w'
theorem Yw (h:TermM w base F T) {n:Int} {priv:Bool} {K:Bool->Ub} (hK:K (T.S.modeP n priv).1 w):xS (some ⟨F.tg,0,none⟩) n priv w K:=by
 refine qph _ _ _ ?_;exact qS (h.blk.cells 6 _ rfl) (zd9 h.sc hK)
def q1s (v:EvP):Ev:=⟨v.k,v.r,v.b,v.pv,v.i,v.ps⟩
structure TPM (w:World) (base:Nat) (F:TmF) (PF:PF) (p:PS) (T:TS):Prop where
 tm:TermM w base F T
 pm:∃fv,ParsM w base PF p fv
 e:PF.pg=F.pg
 dj:∀k,yl PF k->¬kV F k
 ni:T.E.S.L=[]
theorem ScM.based {base' g:Nat} {SF:ScF} {S:Sc} (h:ScM w base g SF S) (hb:base'<=base):ScM w base' g SF S :=
 ⟨h.blk,le_trans hb h.hg,h.g0.base hb,h.g1.base hb,h.st,⟨le_trans hb h.hst.1,le_trans hb h.hst.2⟩,h.mo,h.pr,⟨le_trans hb h.hm.1,le_trans hb h.hm.2⟩,h.dm,h.ar.base hb,h.dg,h.ok⟩
theorem EngM.based {base' g n:Nat} {KF:KF} {E:KE} (h:EngM w base g KF E n) (hl:E.ld=none) (hb:base'<=base):EngM w base' g KF E n :=
 ⟨h.blk,le_trans hb h.hg,⟨h.st.blk,h.st.map,λp hp=>(h.st.img p hp).base hb⟩,h.ok,⟨le_trans hb h.hs.1,le_trans hb h.hs.2⟩,⟨h.tb.blk,le_trans hb h.tb.hg,h.tb.own.base hb⟩,h.tl,(λC s e=>by rw [hl] at e;cases e),h.nl,h.dg,h.ds,h.dt,h.di⟩
def yj (c:qY):TS:=⟨c,zis c.Rows.toNat c.Cols.toNat c.Back.toNat,zkq c.Quota,0,none,[],false,[],0,0⟩
theorem zlx {c:qY} (hc:okC c) (hq:YT c.Quota=0) (hT:Tab w) (h16:4<=w.heap.size) {K:Option Addr->Int->Ub} (hK:∀F PF w',TPM w' w.heap.size F PF ps0 (yj c)->Uc w w'->(F.cq.c=0/\PF.qi.c=0/\PF.qp.c=0/\PF.qd.c=0)->K (some ⟨F.tg,0,none⟩) 0 w'):qjd c w K:=by
 refine q1z _ ?_;refine nwb λw1 D o T=>qz D.cells (zfo (λU=>absurd hc U) λ_ E G C q f=>cF rfl ?_);refine lI ((D.ext f).cells 5 _ rfl) (zgn (λN=>by rw [hq] at N;cases N) λ_ H KF e V g h=>?_);have s:=((D.ext f).ext h).drew;refine qz s.cells ?_;refine qy5 ?_;refine q5r ?_;refine nwb λw4 O t I=>nwb λl W m X=>?_;have u:=bT t m;refine ⟨(s.ext u).cells,nwb λP Y n Z=>?_⟩;have v:=bT (bT (bdw e) u) n;have y:=bT h v;have J:=bT o f;have z:=bT J y;have z1:=o.size;have z2:=f.size;have z3:=h.size;have e3:e.drew.heap.size=e.heap.size:=rfl;have A:=(q.ext y).based z1;have B:=(g.ext v).based (base':=w.heap.size) rfl (by omega);have L:=λk d=>(q.below k d).2;have M:=λk d=>g.below k d;have ib:∀k,¬ka (zkq c.Quota).S k:=λk d=>by obtain ⟨p,hp,_⟩:=d;cases hp
 refine hK ⟨l.heap.size,E,G,H,KF,w4.heap.size,none,⟨none,0,0⟩,⟨none,0,0⟩⟩ ⟨w4.heap.size,e.heap.size,⟨none,0,0⟩,⟨none,0,0⟩,⟨none,0,0⟩⟩ P ⟨⟨Y,by show w.heap.size<=l.heap.size;omega,A,B,Go.Vc.Own.nil _ _ _,Go.Vc.Own.nil _ _ _,trivial,?_,(λk d=>absurd d (g.nl rfl k)),hT.ext z,h16⟩,
  ⟨_,(W.ext n),⟨0,0,0,(O.ext m).ext n⟩,⟨by show w.heap.size<=w4.heap.size;omega,by show w.heap.size<=e.heap.size;omega⟩,Go.Vc.Own.nil _ _ _,Go.Vc.Own.nil _ _ _,Go.Vc.Own.nil _ _ _,(λk d=>by cases d),⟨by decide,by decide,by decide,by decide,by decide,by decide⟩⟩,rfl,?_,rfl⟩ z ⟨rfl,rfl,rfl,rfl⟩
 ·intro i j k b Q;have R:∀i,qx1 ⟨l.heap.size,E,G,H,KF,w4.heap.size,none,⟨none,0,0⟩,⟨none,0,0⟩⟩ (zkq c.Quota) i k->i=0/\k=l.heap.size\/i=1/\k<C.heap.size\/i=2/\C.heap.size<=k/\k<e.heap.size:=λi b=>by
   match i,b with
   | 0,b=>exact .inl ⟨rfl,b⟩
   | 1,b=>exact .inr (.inl ⟨rfl,L k b⟩)
   | 2,.inl b=>exact .inr (.inr ⟨rfl,M k b⟩)
   | 2,.inr b=>exact absurd b (ib k)
   | 3,b=>cases b
   | 4,b=>cases b
   | 5,b=>cases b
  have b:=R i b;have Q:=R j Q;omega
 ·rintro k (rfl | rfl | d | d | d) a
  ·rcases a with a | a | a | a | a | a
   ·have:w4.heap.size=l.heap.size:=a;omega
   ·have:=L _ a;dsimp only at this;omega
   ·have:=(M _ a).2;dsimp only at this;omega
   ·cases a
   ·cases a
   ·cases a
  ·rcases a with a | a | a | a | a | a
   ·have:e.heap.size=l.heap.size:=a;omega
   ·have:=L _ a;dsimp only at this;omega
   ·have:=(M _ a).2;dsimp only at this;omega
   ·cases a
   ·cases a
   ·cases a
  ·cases d
  ·cases d
  ·cases d
theorem zch {c:qY} (hc:okC c) (hq:YT c.Quota=0) (hT:Tab w) (h16:4<=w.heap.size) {K:Option Addr->Int->Ub} (hK:∀F PF w',TPM w' w.heap.size F PF ps0 (yj c)->Uc w w'->K (some ⟨F.tg,0,none⟩) 0 w'):qjd c w K:=zlx hc hq hT h16 λF PF w' h a _=>hK F PF w' h a
end
def EvN (v:Ev):Prop:=v.Kind=1\/v.Kind=4/\v.Private=0/\v.Inter=[]/\(v.B=110\/v.B=99)
def Sc.doN (S:Sc) (v:Ev):Sc:=if v.Kind=1 then S.print v.R else S
def Sc.doNR (S:Sc) (v:Ev):List UInt8:=if v.Kind=1 then [] else S.bareR v.Params v.B
section
variable {w w':World} {base g:Nat} {F F':ScF} {S S':Sc} {p:Slc} {ps:List Int}
theorem zbv (h:ScM w base g F S) (hp:ParM w g F p ps) (hT:Tab w) {c:Int} (hc:c=110\/c=99) {K:Slc->Ub}
  (hK:∀q w',Rd qo w' q (S.bareR ps c)->Uc w w'->K q w'):Zj (some ⟨g,0,none⟩) p c w K:=by
 refine qh7 _ _ _ ?_;refine qjf hp (qjf hp ?_);obtain ⟨n,m⟩:∃n,n=qzc ps 0 1:=⟨_,rfl⟩;obtain ⟨z,k⟩:∃z,z=qzc ps 0 0:=⟨_,rfl⟩;unfold Sc.bareR at hK;rw [<-k] at hK;rw [<-k];refine jpO λv o=>?_;have l:(∀q w',Rd qo w' q []->Uc w w'->K q w')->K ⟨none,0,0⟩ w:=λhK=>hK _ _ (Rd.nil _ _) (Below.refl _ _);refine cO (λe=>?_) λa=>?_
 ·have e:=eq_of_beq e;simp only [if_pos e] at hK;refine cO (λe=>?_) λb=>?_
  ·rw [if_pos (eq_of_beq e)] at hK;exact qrr (by decide) hK
  rw [if_neg (beq_eq_false_iff_ne.1 b)] at hK;refine cO (λe=>?_) λr=>?_
  ·rw [if_pos (eq_of_beq e)] at hK;refine q5k h hT λx d s=>?_;have f:(⟨#[82]⟩:ByteArray)=qX [82]:=rfl;rw [f,jH,qT,qT];refine ⟨by simp only [length_cons,length_nil];omega,?_⟩;exact qrr (by simp only [length_append,length_cons,length_nil];omega) λq t u j=>hK q t u (zM d j)
  ·rw [if_neg (beq_eq_false_iff_ne.1 r)] at hK;exact l hK
 have a:=beq_eq_false_iff_ne.1 a;have e:c=99:=by omega
 rw [if_neg a,if_pos e] at hK;refine cT (by rw [e];rfl) ?_;refine cO (λe=>?_) λb=>?_
 ·rw [if_pos (eq_of_beq e)] at hK;exact qrr (by decide) hK
 ·rw [if_neg (beq_eq_false_iff_ne.1 b)] at hK;exact l hK
theorem zd8 {e:ze} {v:Ev} (h:ScM w base g F S) (hv:EvM w g F e v) (hT:Tab w) (hp0:v.Private=0) (hi0:v.Inter=[]) (hb0:v.B=110\/v.B=99) {K:Slc->Ub}
  (hK:∀q w',Rd qo w' q (S.bareR v.Params v.B)->Uc w w'->K q w'):kd (some ⟨g,0,none⟩) e w K:=by
 refine QD _ _ ?_;obtain ⟨Y,Z,eb,ep,ei,b,D⟩:=e;obtain ⟨l,m,E,n,o,G,p,L,M⟩:=hv;rw [hp0] at n;rw [hi0] at o;subst E n o;refine nwb λH r s N=>?_;have f:=zM s (zH H);have I:=h.ext f;have c:=G.ext f;have J:=hT.ext f;have a:=r.drew;generalize H.drew=w2 at I f c J a ⊢;refine lSl (x:=b) (by simpa using a.cells 5 _ rfl) (lSl (x:=b) (by simpa using a.cells 5 _ rfl) ?_);refine qjf (i:=0) c ⟨by simpa using a.cells 5 _ rfl,?_⟩;refine jpO λO t=>?_;have j:O () w2:=by
  refine t _ _ (jpO λJ2 u=>?_);refine lI (x:=0) (by simpa using a.cells 3 _ rfl) (cF rfl ?_);refine qgu (x:=qX []) (by simpa using a.cells 4 _ rfl) ?_;rw [kN,show (⟨#[]⟩:ByteArray).toList=[] by kernel_rfl];refine cF rfl (u _ _ ?_);refine lI (x:=v.B) (by simpa using a.cells 2 _ rfl) ?_;exact zbv I c J hb0 λq w4 P y=>hK q w4 P (zM f y)
 refine lI (x:=0) (by simpa using a.cells 3 _ rfl) ?_;refine qjn ?_;refine qgu (x:=qX []) (by simpa using a.cells 4 _ rfl) ?_;have el:=qi9 0 (by decide);have Q:=qi9 v.B p;refine ⟨by rw [qT,qT];simp only [length_nil];omega,?_⟩;refine lI (x:=v.B) (by simpa using a.cells 2 _ rfl) ?_;refine qjn ⟨by rw [jH,qT,qT,length_append];simp only [length_nil];omega,?_⟩;rw [jH,jH,kN];have R:(⟨#[0,33,112]⟩:ByteArray).toList=[0,33,112]:=by kernel_rfl
 have T:(⟨#[63,110]⟩:ByteArray).toList=[63,110]:=by kernel_rfl
 have U:(⟨#[62,99]⟩:ByteArray).toList=[62,99]:=by kernel_rfl
 have V:(⟨#[63,36,112]⟩:ByteArray).toList=[63,36,112]:=by kernel_rfl
 have W:(⟨#[63,104]⟩:ByteArray).toList=[63,104]:=by kernel_rfl
 have X:(⟨#[63,108]⟩:ByteArray).toList=[63,108]:=by kernel_rfl
 rw [R,T,U,V,W,X];obtain ⟨k,z⟩:∃k,k=(Utf8.encode 0).data.toList++[]++(Utf8.encode v.B).data.toList:=⟨_,rfl⟩;have A:k=[0,110]\/k=[0,99]:=by
  rcases hb0 with e | e
  ·left;rw [z,e];kernel_rfl
  ·right;rw [z,e];kernel_rfl
 rw [<-z];have d:∀x:List UInt8,x≠[0,110]->x≠[0,99]->(k==x)=false:=λx l m=>by
  rw [beq_eq_false_iff_ne];rcases A with e | e
  ·rw [e];exact λh=>l h.symm
  ·rw [e];exact λh=>m h.symm
 rw [d [0,33,112] (by decide) (by decide),d [63,110] (by decide) (by decide),d [62,99] (by decide) (by decide),d [63,36,112] (by decide) (by decide),d [63,104] (by decide) (by decide),d [63,108] (by decide) (by decide)];refine cF rfl (jpO λJ3 C=>cF rfl (C _ _ (cF rfl ?_)));exact cF rfl (cF rfl (cF rfl j))
theorem zgz {e:ze} {v:Ev} (h:ScM w base g F S) (hv:EvM w g F e v) (hT:Tab w) (hn:EvN v) {K:Slc->Ub}
  (hK:∀q F' w',Rd qo w' q (S.doNR v)->ScT base g w F F' (S.doN v) w'->K q w'):js (some ⟨g,0,none⟩) e w K:=by
 refine KJ _ _ ?_;refine nwb λB f a u=>?_;have c:=ScT.of_ext h a;unfold Sc.doN Sc.doNR at hK;have y:=hv.k;have z:=hv.r;refine lI (x:=v.Kind) (by rw [<-y];simpa using f.cells 0 _ rfl) ?_;rcases hn with e | ⟨d,j,l,n⟩
 ·rw [if_pos e,if_pos e] at hK;refine cT (by rw [e];rfl) ?_;refine lI (x:=v.R) (by rw [<-z];simpa using f.cells 1 _ rfl) ?_;exact zaz c.m λC t o=>hK _ _ _ (Rd.nil _ _) (c.trans o)
 ·rw [if_neg (by omega),if_neg (by omega)] at hK;refine cF (by rw [d];rfl) (cF (by rw [d];rfl) (cF (by rw [d];rfl) (cT (by rw [d];rfl) ?_)));refine qz f.cells ?_;refine zd8 c.m ⟨hv.k,hv.r,hv.b,hv.p,hv.i,hv.ps.ext a,hv.br,hv.pr,hv.il⟩ (hT.ext a) j l n λq t A s=>hK q F t A (c.ext s)
end
structure Kept (E E':KE) (P:Slc):Prop where
 img:∀j,ka E'.S j->ka E.S j\/P.blk=some j
 q:E'.quota=E.quota
section
variable {n:Nat} {E:KE}
theorem qj1 (E:KE) (k:qh) (id:Int) (v:qu):(xK E k id v).1.S=E.S/\(xK E k id v).1.ld=E.ld/\(xK E k id v).1.quota=E.quota:=by
 unfold xK;split
 ·split
  ·exact ⟨rfl,rfl,rfl⟩
  ·exact ⟨rfl,rfl,rfl⟩
 ·exact ⟨rfl,rfl,rfl⟩
theorem zkd {S S':St} (h:∀p∈S'.L,p∈S.L) {k:Nat} (hk:ka S' k):ka S k:=by
 obtain ⟨p,a,e⟩:=hk;exact ⟨p,h p a,e⟩
theorem q7a (hok:StOk n E.S) (k:qh) (W H:Int) (bs:List UInt8) (P:Slc) (v:qu):Kept E (qqs E k W H bs P v).1 P:=by
 have kept:∀j,ka (qp4 E k W H bs P).S j->ka E.S j\/P.blk=some j:=by
  rintro j ⟨⟨a,b⟩,hp,e⟩;have c:StOk n (E.S.putPre k.Id bs.length).1:=qcv _ _ (qyf hok k.Id);rcases (y4 c.srt _ _ a b).1 hp with ⟨rfl,rfl⟩ | ⟨_,d⟩
  ·exact .inr e
  ·exact .inl ⟨(a,b),qi6 _ _ _ _ d,e⟩
 unfold qqs;split
 ·exact ⟨λj h=>.inl h,rfl⟩
 ·split
  ·exact ⟨kept,rfl⟩
  ·obtain ⟨f,i,g⟩:=qj1 (qp4 E k W H bs P) (yV E k bs) (idK E k bs) v;refine ⟨λj h=>?_,g⟩;rw [f] at h;exact kept j h
theorem zbn (hok:StOk n E.S) (C:LdK) (s:LdS) (k:qh) (P:Slc) (v:qu):Kept E (q19 E C s k P v).1 P:=by
 unfold q19;split
 ·exact ⟨λj h=>.inl h,rfl⟩
 ·have h:=q7a (E:=E.idle) (qsh hok 0) k ((qtb C s).2.1:Int) ((qtb C s).2.2.1:Int) (qtb C s).2.2.2 P v;exact ⟨h.img,h.q⟩
theorem yb (E:KE) (m:Int):(∀j,ka (E.reserve m).1.S j->ka E.S j)/\(E.reserve m).1.quota=E.quota:=by
 unfold KE.reserve;split
 ·exact ⟨λj h=>h,rfl⟩
 ·split
  ·exact ⟨λj h=>h,rfl⟩
  ·exact ⟨λj h=>zkd (λp a=>qw4 _ _ p a) h,rfl⟩
theorem q8l (hok:StOk n E.S) (m:Int):StOk n (E.reserve m).1.S:=by
 unfold KE.reserve;split
 ·exact hok
 ·split
  ·exact hok
  ·exact qzf hok _
theorem qv2 (hok:StOk n E.S) (C:LdK) (s:LdS) (k:qh) (ts:List UInt8) (P:Slc) (v:qu):Kept E (qer E C s k ts P v).1 P:=by
 obtain ⟨a,b⟩:=yb (qrl E C s ts) 0;unfold qer;split
 ·exact ⟨λj h=>.inl h,rfl⟩
 ·split
  ·exact ⟨λj h=>.inl (a j h),b⟩
  ·split
   ·exact ⟨λj h=>.inl (a j h),b⟩
   ·have h:=zbn (q8l (E:=qrl E C s ts) hok 0) C (JJ C s ts) (ZD E.first k) P v;exact ⟨λj c=>(h.img j c).imp_left (a j),h.q.trans b⟩
theorem zfz (hok:StOk n E.S) (bs:List UInt8) (P:Slc) (v:qu):Kept E (doK E bs P v).1 P:=by
 unfold doK zfb;split
 ·exact qv2 hok _ _ _ _ P v
 ·unfold goK;split
  ·unfold q7s;split
   ·exact ⟨λj h=>.inl h,rfl⟩
   ·obtain ⟨a,c,b⟩:=qj1 E { Jd bs with Id:=(kX E.S (Jd bs)).1 } (kX E.S (Jd bs)).1 v;split
    ·refine ⟨λj h=>.inl ?_,b⟩;rw [a] at h;exact zc2 hok _ j h
    ·exact ⟨λj h=>.inl (by dsimp only at h;rw [a] at h;exact h),b⟩
  ·unfold qog;split
   ·exact ⟨λj h=>.inl h,rfl⟩
   ·have h:=qv2 (E:=zhy E (Jd bs)) hok (q2a E (Jd bs)) ld0 (Jd bs) (qa5 59 bs) P v;exact ⟨h.img,h.q⟩
theorem q37 (hE:E.T=[]) (alt:Bool) (first:Int):zja E alt first=E:=by
 obtain ⟨q,S,T,a,f⟩:=E;subst hE;rfl
end
def XR (S:Sc):Int:=i64.wrap (S.g0.top-S.g0.old.length)
def Zw (T:TS):TS:={ T with f0:=XR T.S,f1:=T.S.g1.top }
structure Calm (T:TS):Prop where
 ar:T.S.areas=[]
 st:XR T.S=T.f0/\T.S.g1.top=T.f1\/T.E.T=[]
section
variable {w w':World} {base:Nat} {F F':TmF} {T T':TS}
theorem q5w (h:TermM w base F T) (hA:Calm T) (hn:T.n<=100000) {K:Ub} (hK:∀F' w',TmT base w F F' (Zw T) w'->K w'):zK (some ⟨F.tg,0,none⟩) w K:=by
 refine qnj _ ?_;simp only [onPtr_some];refine qS (h.blk.cells 6 _ rfl) (q4r h.sc λq L M N=>?_);have t:=h.screen N;have e:({ T with S:={ T.S with areas:=[] } }:TS)=T:=by
  have O:({ T.S with areas:=[] }:Sc)=T.S:=by rw [<-hA.ar]
  rw [O]
 rw [e] at t;refine lpR (λ(P:Int×Unit) w2=>P.1=0/\w2=L) (λ_=>0) ⟨rfl,rfl⟩ ?_;rintro ⟨i,u⟩ w2 ⟨rfl,rfl⟩ I hI;refine cF (by rw [M,hA.ar];rfl) ?_;refine qS (t.m.blk.cells 6 _ rfl) (q8y t.m.sc ?_);have A:=t.drew.drew;have Q:i64.wrap (T.S.g0.top-T.S.g0.old.length)=XR T.S:=rfl;rw [Q];have g:Zw T={ T with f0:=XR T.S,f1:=T.S.g1.top }:=rfl;have B:=hA.st;generalize XR T.S=x at *;generalize T.S.g1.top=y at *;refine jS rfl λw8 v j R=>?_;have f:=(A.ext j).drew;have v:=v.drew;refine qz (r:=vF.rep) (x:=⟨x,y⟩) v.cells (qz (r:=vF.rep) (x:=⟨T.f0,T.f1⟩) (f.m.blk.sub 13 _ rfl) ?_);by_cases hs:x=T.f0/\y=T.f1
 ·refine cF ?_ (hK { F with SF:={ F.SF with ar:=⟨none,0,0⟩ } } _ ?_)
  ·rw [hs.1,hs.2];simp
  ·rw [g,hs.1,hs.2];exact f
 have G:T.E.T=[]:=B.resolve_left hs;refine cT ?_ ?_
 ·rw [Bool.not_eq_true',Bool.and_true,Bool.and_eq_false_iff,beq_eq_false_iff_ne,beq_eq_false_iff_ne];by_cases H:x=T.f0
  ·exact .inr λU=>hs ⟨H,U⟩
  ·exact .inl H
 refine qS (f.m.blk.cells 7 _ rfl) ?_;refine qss f.m.en hn false _ λV W d=>?_;rw [q37 G] at d;have z:=f.m.engine d (λk b=>.inl b);have X:=v.chg d.chg (λb=>by have:=(A.m.en.below _ b).2;omega);refine qS (z.m.blk.cells 7 _ rfl) ?_;refine qss z.m.en hn true _ λl o a=>?_;rw [q37 G] at a;have c:=z.m.engine a (λk b=>.inl b);have C:=X.chg a.chg (λb=>by
  rcases d.trim.old _ b with b | b
  ·have:=(A.m.en.below _ b).2;omega
  ·have:w8.heap.size<=_:=b;omega)
 refine qz (r:=vF.rep) (x:=⟨x,y⟩) C.cells ?_;rw [qC];refine qD c.m.blk (by show 0+13+2<=15;omega) λD p s J=>hK { F with SF:={ F.SF with ar:=⟨none,0,0⟩ },KF:=q2y o l } D ?_;exact ((f.trans z).trans c).trans (c.m.put (T':=Zw T) (by rw [g];exact p) (Chg.gg s) rfl rfl rfl rfl rfl rfl rfl rfl rfl c.m.cq c.m.rq (λk b=>b) λk b=>b)
end
def q41 (S:Sc) (R:KR):Sc:=if R.moves=true then S.moveP (i64.wrap (R.rows-1)) R.cols else S
noncomputable def qt1 (T:TS) (P:Slc):TS :=
 { T with cmd:=[],E:=(doK T.E T.cmd.tail P (jI T)).1,n:=T.n+2,rep:=T.rep++(doK T.E T.cmd.tail P (jI T)).2.reply,S:=q41 T.S (doK T.E T.cmd.tail P (jI T)).2 }
noncomputable def q05 (t:Option Addr) (r:Addr) (x:qg) (w:World) (K:Ub):Prop :=
 stK r (qg.rep.cells x) w λw6=>
 qH t λt31=>
 zW (t31.add 12) w6.drew λt33=>
 zW (r.add 0) w6.drew λt35=>
 apK PG #[qj,qj] qj t33 t35 w6.drew λt36 w7=>
 qH t λt37=>
 stK (t37.add 12) [(.slice t36.a t36.n t36.c)] w7 λw8=>
 Go.Vc.ldB (r.add 3) w8 λt40=>
 cond t40
  (
   qH t λt42=>
   ldP (t42.add 6) w8.drew λt44=>
   ldI .i64 (r.add 1) w8.drew λt46=>
   ldI .i64 (r.add 2) w8.drew λt49=>
   zS t44 (i64.wrap (t46-(1:Int))) t49 w8.drew λw9=>
   K w9)
  (K w8)
section
variable {w w':World} {base:Nat} {F F':TmF} {T T':TS}
theorem zb8 (h:TermM w base F T) (hlong:T.long=false) {q:Slc} {bs:List UInt8} (hq:Rd qo w q bs) (hqn:∀a,q.a=some a->¬kV F a.block) (hl:T.cmd.length+bs.length<=6000) {K:Ub}
  (hK:∀F' w',TmT base w F F' { T with cmd:=T.cmd++bs } w'->K w'):YR (some ⟨F.tg,0,none⟩) q w K:=by
 refine qrx _ _ ?_;simp only [onPtr_some];refine jpO λy d=>jpO λz e=>?_;refine jw (h.blk.cells 11 _ rfl) (cF hlong (lSl (h.blk.cells 10 _ rfl) ?_));have A:=hq.n;have o:=h.cq.rd.n;have p:decide (((q.n:Nat):Int)>i64.wrap ((6512:Int)-((F.cq.n:Nat):Int)))=T.long:=by
  rw [qM (by omega),hlong,dFq (by omega)]
 rw [p];refine qD h.blk (by show 0+11+1<=15;omega) λl f g s=>e _ _ ?_;have b:=h.put f (Chg.gg g) rfl rfl rfl rfl rfl rfl rfl rfl rfl h.cq h.rq (λ_ c=>c) λ_ c=>c;have i:=hq.chg b.chg hqn;refine jw (b.m.blk.cells 11 _ rfl) (cF hlong (d _ _ ?_));refine lSl (b.m.blk.cells 10 _ rfl) ?_;refine jW qN b.m.cq i b.m.base_le (by rw [jV];omega) (by simp [maxLen];omega) λr w4 t u j=>?_;exact b.m.told t (Chg.of_grown u λk c=>c) j λB v=>hK _ _ (b.trans v)
theorem TmT.other {w0 w1 w2:World} {F3:TmF} {T3:TS} (h0:base<=w0.heap.size) (h:TmT base w0 F F3 T3 w1) {b:Nat} {t:TypeId} {vs:List Value} (hb:Blk w1 b t vs) (ht:t≠zi/\t≠qF) (hw:w0.heap.size<=b) (hn:¬kV F3 b) (hc:Chg (λk=>k=b) w1 w2):TmT base w0 F F3 T3 w2:=by
 refine ⟨h.m.keep hc (λk a e=>hn (e ▸ a)) (λk a e=>?_) (λk d e a=>?_) (qbv h.m hc λk e=>by rw [e];omega),h.old,h.chg.trans hc λi f e=>by omega,h.tg,h.pg⟩
 ·obtain ⟨_,d,c⟩:=qzn h.m.en a;exact hb.ne_t c ht.2 e.symm
 ·subst e;exact hb.ne_t a ht.1 rfl
theorem q1m {w0:World} {F3:TmF} {T3:TS} (h0:base<=w0.heap.size) (h:TmT base w0 F F3 T3 w) {ra:Nat} (hra:w0.heap.size<=ra) (hb:Blk w ra qB [(.slice none 0 0),(Ua 0),(Ua 0),(.bool false)]) (hn:¬kV F3 ra) {x:qg} {R:KR} (hx:qlk w x R)
  (hxb:0<R.reply.length->∀j,x.Reply.blk=some j->j≠ra) (hl:T3.rep.length<=1000000) (hR:R.reply.length<=2000000) {K:Ub} (hK:∀F' w',TmT base w0 F F' { T3 with rep:=T3.rep++R.reply,S:=q41 T3.S R } w'->K w'):q05 (some ⟨F3.tg,0,none⟩) ⟨ra,0,none⟩ x w K:=by
 unfold q05;simp only [onPtr_some];obtain ⟨t,u,v,p⟩:=hx;refine xR hb rfl λq b c y=>?_;have d:=(TmT.other h0 h hb (by decide) hra hn c).drew;have n:=(qo9 t c λz a A e=>hxb z a.block (slk.2 ⟨a,A,rfl⟩) e).ext (bdw q);have b:=b.drew;refine lSl (d.m.blk.cells 12 _ rfl) (lSl (b.cells 0 _ rfl) ?_);refine jW qN d.m.rq n d.m.base_le (by rw [jV];omega) (by simp [maxLen];omega) λr H B C o=>?_;refine d.m.replied B (Chg.of_grown C λk D=>D) o λw8 s=>?_;have f:=b.chg s.chg hn;have g:=d.trans s;unfold q41 at hK;refine jw (f.cells 3 _ rfl) (cO (λe=>?_) λe=>?_)
 ·rw [if_pos (by rw [<-p];exact e)] at hK;have l:=g.drew;have i:=f.drew;refine qS (l.m.blk.cells 6 _ rfl) (lI (i.cells 1 _ rfl) (lI (i.cells 2 _ rfl) ?_));rw [u,v];exact q30 l.m.sc λE I G=>hK _ _ (l.trans (l.m.screen G))
 ·rw [if_neg (by rw [<-p,e];decide)] at hK;exact hK _ _ g
theorem q6r (h:TermM w base F T) (hlong:T.long=false) {bs:List UInt8} (hcmd:T.cmd=71::bs) (hok:CmdOk bs) (hld:∀C s,T.E.ld=some (C,s)->s.over=false/\qft s+3*bs.length<=120000/\YW (toL T.E.first)) (hn:T.n<=880) (hq:T.E.quota<=100000) (hbl:bs.length<=39000) (hrl:T.rep.length<=1000000)
  (hrd:∀P,(qt1 T P).rep.length<=2000000) {K:Ub} (hK:∀P F' w',TmT base w F F' (qt1 T P) w'->(∀k,ka (qt1 T P).E.S k->ka T.E.S k\/w.heap.size<=k)->K w'):Vy (some ⟨F.tg,0,none⟩) true w K:=by
 refine qps _ _ ?_;refine qU (lSl (x:=F.cq) (h.blk.cells 10 _ rfl) (qU ?_));rw [qC];refine qD h.blk (by show 0+10+1<=15;omega) λd Y Z ar=>?_;have I:=Chg.gg Z;have t1:TmT base w F { F with cq:=⟨none,0,0⟩ } { T with cmd:=[] } d:=h.put Y I rfl rfl rfl rfl rfl rfl rfl rfl rfl (Go.Vc.Own.nil _ _ _) h.rq (λk B=>by cases B) λ_ B=>B;have aa:Rd qo d F.cq (71::bs):=by rw [<-hcmd];exact (h.cq.chg I (qI h.cq h.blk (by decide))).rd
 have h0:=h.base_le;refine jpO λJ1 ab=>cF rfl (qU (jw (x:=T.long) (t1.m.blk.cells 11 _ rfl) (cF hlong (ab _ _ (qU ?_)))));have et:T.cmd.tail=bs:=by rw [hcmd];rfl
 have o:∀(u:World) (Kx:qg->Ub),Uc d u->(∀P x c v,qlk v x (doK T.E bs P (jI T)).2->TmT base w F { F with cq:=⟨none,0,0⟩,KF:=c } { T with cmd:=[],E:=(doK T.E bs P (jI T)).1,n:=T.n+2 } v ->
   (∀k,kV { F with cq:=⟨none,0,0⟩,KF:=c } k->kV F k\/u.heap.size<=k)->(∀j,x.Reply.blk=some j->u.heap.size<=j)->(∀b t vs,Blk u b t vs->w.heap.size<=b->Blk v b t vs)->u.heap.size<=v.heap.size->(∀k,ka (doK T.E bs P (jI T)).1.S k->ka T.E.S k\/w.heap.size<=k)->Kx x v)->ko (some ⟨F.eg,0,none⟩) F.cq (jI T) u Kx:=by
  intro u Kx hB B;have Q:=t1.ext hB;have zx:=hB.size;refine zl1 Q.m.en (by show T.n<=900;omega) Q.m.tab Q.m.b4 hq (by omega) (aa.ext hB) hld hok (jI T) λP x c v q V i ac=>?_;have ad:=zfz (E:=T.E) Q.m.en.ok bs P (jI T);have r:=λk B=>(ad.img k B).imp_right λe=>ac k e;have t3:=Q.m.engine V r;have hw:∀{b},w.heap.size<=b->¬vC F.eg F.KF b:=λX y=>by have:=(h.en.below _ y).2;omega
  refine B P x (q2y v c) v q (Q.trans t3) (λk J=>?_) (λj L=>(i j L).1) (λb t vs X z=>X.chg V.chg (hw z)) V.chg.size λk J=>(r k J).imp_right λz=>by omega
  rcases t3.old k J with l | l
  ·rcases l with l | l | l | l | l
   ·exact .inl (.inl l)
   ·exact .inl (.inr (.inl l))
   ·exact .inl (.inr (.inr (.inl l)))
   ·cases l
   ·exact .inl (.inr (.inr (.inr (.inr l))))
  ·exact .inr l
 have M:∀(P:Slc) (x:qg) (c:KF) (W:World) (R:Nat),d.heap.size<=R->Blk W R qB [(.slice none 0 0),(Ua 0),(Ua 0),(.bool false)]->qlk W x (doK T.E bs P (jI T)).2->TmT base w F { F with cq:=⟨none,0,0⟩,KF:=c } { T with cmd:=[],E:=(doK T.E bs P (jI T)).1,n:=T.n+2 } W ->
   ¬kV { F with cq:=⟨none,0,0⟩,KF:=c } R->(0<(doK T.E bs P (jI T)).2.reply.length->∀j,x.Reply.blk=some j->j≠R)->(∀k,ka (doK T.E bs P (jI T)).1.S k->ka T.E.S k\/w.heap.size<=k)->q05 (some ⟨F.tg,0,none⟩) ⟨R,0,none⟩ x W K:=by
  intro P x c W R au X q U hn ae r;have hP:=hrd P;unfold qt1 at hP;rw [et] at hP;simp only [length_append] at hP;refine q1m h0 U (by omega) X hn q ae hrl (by omega) λF' w' hT=>hK P F' w' ?_ ?_
  ·unfold qt1;rw [et];exact hT
  ·unfold qt1;rw [et];exact r
 have N:=t1.drew;have Bd:Uc d d.drew:=bdw d;have nF:∀{k},d.heap.size<=k->¬kV F k:=λB y=>by have:=(h.below _ y).2;omega
 refine qS (N.m.blk.cells 7 _ rfl) ⟨?_,?_⟩
 ·refine qh4 N.m λw3 p=>⟨(N.m.ext p).blk.cells 7 _ rfl,?_,?_⟩
  ·have B3:=bT Bd p;refine o w3 _ B3 λP x c w4 q t4 U i A hz r=>?_;refine nwb λw5 af O av=>⟨(t4.m.ext O).blk.cells 7 _ rfl,?_⟩;have z3:=B3.size;refine M P x c w5 w4.heap.size (by omega) af (q.ext O) (t4.ext O) (λy=>by have:=(t4.m.below _ y).2;omega) (λhp j L e=>?_) r;obtain ⟨a,ha,aw⟩:=slk.1 L;have:=q82 q.1 hp a ha;omega
  ·refine nwb λah D G ap=>⟨((N.m.ext p).ext G).blk.cells 7 _ rfl,?_⟩;have ai:=bT (bT Bd p) G;have z3:=p.size;have e3:d.drew.heap.size=d.heap.size:=rfl;have ax:=D.lt;refine o ah _ ai λP x c aj q ak U i A hz r=>?_;exact M P x c aj w3.heap.size (by omega) (A _ _ _ D (by omega)) q ak (λy=>(U _ y).elim (nF (by omega)) λz=>by omega) (λ_ j L e=>by have:=i j L;omega) r
 ·refine nwb λay H f aq=>⟨(N.m.ext f).blk.cells 7 _ rfl,?_⟩;refine qh4 (N.m.ext f) λal g=>⟨((N.m.ext f).ext g).blk.cells 7 _ rfl,?_⟩;have am:=bT (bT Bd f) g;have e3:d.drew.heap.size=d.heap.size:=rfl;have az:=H.lt;have a1:=g.size;refine o al _ am λP x c an q ao U i A hz r=>?_;exact M P x c an d.heap.size (le_refl _) (A _ _ _ (H.ext g) (by omega)) q ao (λy=>(U _ y).elim (nF (le_refl _)) λz=>by omega) (λ_ j L e=>by have:=i j L;omega) r
end
def byD (D:SxD):Int:=i64.wrap ((i64.wrap (4*(D.w:Int)))*(D.h:Int))
def jo (T:TS):TS:={ T with d:=none,E:=(T.E.reserve 0).1 }
def qmx (T:TS) (was:Int) (D:SxD):TS :=
 if byD D≠was then
  (if (T.E.reserve (byD D)).2≠0 then jo { T with d:=some D,E:=(T.E.reserve (byD D)).1 } else { T with d:=some D,E:=(T.E.reserve (byD D)).1 })
 else { T with d:=some D }
def yk (T:TS) (b:UInt8):TS:=match T.d with
 | none=>T
 | some D=>if (D.put [b]).full=true then jo { T with d:=some (D.put [b]) } else qmx T (byD D) (D.put [b])
def xP (T:TS) (bs:List UInt8):TS:=bs.foldl yk T
theorem qzs {T:TS} (h:T.d=none):∀bs,xP T bs=T
 | []=>rfl
 | b::bs=>by
  show xP (yk T b) bs=T;have e:yk T b=T:=by unfold yk;rw [h]
  rw [e];exact qzs h bs
section
variable {w w':World} {base:Nat} {F F':TmF} {T T':TS}
theorem q0s {f:SxF} {D:SxD} (h:SxM w base f D) {K:Int->Ub} (hK:K (byD D) w.drew):jk (some ⟨f.g,0,none⟩) w K:=by
 refine qfm _ ?_;exact lI (h.drew.m.tl 3 rfl) (lI (h.drew.m.tl 4 rfl) hK)
theorem qz1 (h:TermM w base F T) (hn:T.n<=1000) {K:Ub} (hK:∀F' w',TmT base w F F' (jo T) w'->(∀k,ka (jo T).E.S k->ka T.E.S k)->K w'):jX (some ⟨F.tg,0,none⟩) w K:=by
 refine Y2 _ ?_;simp only [onPtr_some];refine qD h.blk (by show 0+9+1<=15;omega) λo b c f=>?_;have a:=h.putD (F':={ F with dF:=none }) (T':={ T with d:=none }) b (Chg.gg c) rfl rfl rfl rfl rfl rfl rfl rfl rfl h.cq h.rq trivial (λ_ h=>h) (λ_ h=>h) (λ_ h=>h.elim);refine qS (a.m.blk.cells 7 _ rfl) ?_;have e:=(yb T.E 0).1;exact QW a.m.en hn 0 λg i j _ _ _=>hK _ i (a.trans (a.m.engine j λk l=>.inl (e k l))) e
theorem zgh (h:TermM w base F T) (hn:T.n<=1000) (m:Int) {K:Int->Ub} (hK:∀F' w',TmT base w F F' { T with E:=(T.E.reserve m).1 } w'->K (T.E.reserve m).2 w'):zB (some ⟨F.eg,0,none⟩) m w K :=
 QW h.en hn m λa b c _ _ _=>hK _ b (h.engine c λk d=>.inl ((yb T.E m).1 k d))
theorem TermM.dec (h:TermM w base F T):(F.dF=none/\T.d=none)\/∃f D,F.dF=some f/\T.d=some D/\SxM w base f D:=by
 have a:=h.dx;cases hf:F.dF with
 | none =>
  cases ht:T.d with
  | none=>exact .inl ⟨rfl,rfl⟩
  | some D=>rw [hf,ht] at a;exact a.elim
 | some f =>
  cases ht:T.d with
  | none=>rw [hf,ht] at a;exact a.elim
  | some D=>rw [hf,ht] at a;exact .inr ⟨f,D,rfl,rfl,a⟩
theorem zgw {J:Ub} (h:TermM w base F T) (hn:T.n<=1000) {f:SxF} {D:SxD} (hf:F.dF=some f) (hd:T.d=some D) {q:Slc} {bs:List UInt8} (hq:Rd qo w q bs) (hl:bs.length<=1000000) (hqn:∀a,q.a=some a->¬kV F a.block) {i:Nat} (hi:i<bs.length)
  (hJ:∀F' w',TmT base w F F' (yk T bs[i]) w'->(∀k,ka (yk T bs[i]).E.S k->ka T.E.S k)->J w') :
  ldP ((⟨F.tg,0,none⟩:Addr).add 9) w λt22=>
   jk t22 w λt23 w3=>
   ldP ((⟨F.tg,0,none⟩:Addr).add 9) w3.drew λt27=>
   slK q (some (i:Int)) (some (i64.wrap ((i:Int)+1))) 1 λt32=>
   vq t27 t32 w3.drew λt33 w4=>
   cond (t33 !=0)
    (jX (some ⟨F.tg,0,none⟩) w4 λw5=>J w5)
    (
     ldP ((⟨F.tg,0,none⟩:Addr).add 9) w4 λt39=>
     jk t39 w4 λt40 w6=>
     cond (t40 !=t23)
      (
      ldP ((⟨F.tg,0,none⟩:Addr).add 7) w6 λt47=>
      ldP ((⟨F.tg,0,none⟩:Addr).add 9) w6 λt51=>
      jk t51 w6 λt52 w7=>
      w7.cell? ((⟨F.tg,0,none⟩:Addr).add 7)=some (.pointer t47) /\
      zB t47 t52 w7 λt53 w8=>
      cond (t53 !=0)
       (jX (some ⟨F.tg,0,none⟩) w8 λw9=>J w9)
       (J w8))
      (J w6)):=by
 have c9:∀{wx Fx Tx} {fx:SxF},TermM wx base Fx Tx->Fx.dF=some fx->Fx.tg=F.tg->wx.cell? ((⟨F.tg,0,none⟩:Addr).add 9)=some (.pointer (some ⟨fx.g,0,none⟩)):=λN e O=>by
  have:=N.blk.cells 9 _ rfl;rw [e,O] at this;exact this
 have P:SxM w base f D:=by have:=h.dx;rw [hf,hd] at this;exact this
 refine qS (c9 h hf rfl) (q0s P ?_);have u:=(TmT.refl h).drew.drew;have z:SxM w.drew.drew base f D:=by have:=u.m.dx;rw [hf,hd] at this;exact this
 refine qS (c9 u.m hf rfl) ?_;have A:=hq.drew.drew;rw [qM (by omega)];refine A.slK (E:=qo) (k:=1) (l:=i) (m:=i+1) rfl (.inr rfl) (.inr (by simp)) (by omega) (by omega) λM=>?_;have Q:(bs.take (i+1)).drop i=[bs[i]]:=by
  rw [List.take_succ_eq_append_getElem hi,List.drop_left' (by rw [length_take];omega)]
 rw [Q] at M;refine q50 z M (by simp) (λa R o=>?_) λv w4 p=>?_
 ·obtain ⟨a0,B,e⟩:=cut_block R;exact hqn a0 B (.inr (.inr (.inr (.inr (.inr (by rw [hf];exact e ▸ o))))))
 have y:=u.trans (u.m.sixel hf p);generalize hx:bs[i]=x at *;have r:yk T x=if (D.put [x]).full=true then jo { T with d:=some (D.put [x]) } else qmx T (byD D) (D.put [x]):=by unfold yk;rw [hd]
 refine cO (λe=>?_) λe=>?_
 ·have b:(D.put [x]).full=true:=by
   by_cases j:(D.put [x]).full=true
   ·exact j
   ·rw [if_neg j] at e;exact absurd e (by decide)
  rw [r,if_pos b] at hJ;have:=qz1 (K:=J) y.m hn λU w5 V C=>hJ U w5 (y.trans V) C;exact this
 have b:¬(D.put [x]).full=true:=λj=>by rw [if_pos j] at e;exact absurd e (by decide)
 rw [r,if_neg b] at hJ;unfold qmx at hJ;have G:=p.m;refine qS (c9 y.m rfl rfl) (q0s G ?_);have s:=y.drew;refine cO (λe=>?_) λe=>?_
 ·have e:=bne_iff_ne.1 e;rw [if_pos e] at hJ;have H:=s.m.dx;refine qS (s.m.blk.cells 7 _ rfl) (qS (c9 s.m rfl rfl) (q0s H ?_));have I:=s.drew;refine ⟨I.m.blk.cells 7 _ rfl,?_⟩;have t:=(yb T.E (byD (D.put [x]))).1;refine zgh I.m hn (byD (D.put [x])) λW w8 X=>?_;have c:=I.trans X;refine cO (λe=>?_) λe=>?_
  ·have e:=bne_iff_ne.1 e;rw [if_pos e] at hJ;rw [<-c.tg];exact qz1 c.m hn λY w9 Z L=>hJ Y w9 (c.trans Z) λk o=>t k (L k o)
  ·have e:¬(T.E.reserve (byD (D.put [x]))).2≠0:=λj=>by rw [bne_iff_ne.2 j] at e;cases e
   rw [if_neg e] at hJ;exact hJ W w8 c t
 ·have e:¬byD (D.put [x])≠byD D:=λj=>by rw [bne_iff_ne.2 j] at e;cases e
  rw [if_neg e] at hJ;exact hJ _ _ s λk o=>o
theorem q6z (h:TermM w base F T) (hn:T.n<=1000) {q:Slc} {bs:List UInt8} (hq:Rd qo w q bs) (hl:bs.length<=1000000) (hqn:∀a,q.a=some a->¬kV F a.block/\a.block<w.heap.size) {K:Ub}
  (hK:∀F' w',TmT base w F F' (xP T bs) w'->(∀k,ka (xP T bs).E.S k->ka T.E.S k)->K w'):Vz (some ⟨F.tg,0,none⟩) q w K:=by
 refine qpg _ _ ?_;have hqn2:=hq.n;have nk:∀b U,(yk U b).n=U.n:=λb U=>by
  unfold yk qmx jo;split
  ·rfl
  ·repeat' split
   all_goals rfl
 refine lpR (λ(st:Int×Unit) w1=>∃(i:Nat) (F1:TmF),st.1=i/\i<=bs.length/\TmT base w F F1 (xP T (bs.take i)) w1/\(∀k,ka (xP T (bs.take i)).E.S k->ka T.E.S k)/\(xP T (bs.take i)).n=T.n) (λst=>bs.length-st.1.toNat) ⟨0,F,rfl,zero_le _,TmT.refl h,λk hk=>hk,rfl⟩ ?_;rintro ⟨i',u⟩ w1 ⟨i,F1,rfl,hi,t1,hi1,hn1⟩ I hI;rw [hqn2];refine jpO λJ2 hJ2=>?_;refine cO (λe=>?_) λe=>?_
 ·have e:i<bs.length:=by have e:=oTq e;omega
  have etg:=t1.tg;have hend:∀(hd:(xP T (bs.take i)).d=none),xP T bs=xP T (bs.take i):=λhd=>by
   have:xP T bs=xP (xP T (bs.take i)) (bs.drop i):=by unfold xP;rw [<-List.foldl_append,List.take_append_drop]
   rw [this,qzs hd]
  have hnext:xP T (bs.take (i+1))=yk (xP T (bs.take i)) bs[i]:=by
   unfold xP;rw [List.take_succ_eq_append_getElem e,List.foldl_append];rfl
  have c9:=t1.m.blk.cells 9 _ rfl;rw [etg] at c9;rcases t1.m.dec with ⟨hf,hd⟩ | ⟨f,D,hf,hd,hs⟩
  ·rw [hf] at c9;refine qS c9 (cF rfl ?_);rw [hend hd] at hK;exact hK F1 w1 t1 hi1
  ·rw [hf] at c9;refine qS c9 (cT rfl (hJ2 _ _ ?_));have hq1:=hq.chg t1.chg λa ha=>(hqn a ha).1;have hqn1:=λa ha hs=>(t1.old _ hs).elim (hqn a ha).1 λh2=>by have:=(hqn a ha).2;omega
   have one:=zgw (J:=I (i64.wrap ((i:Int)+1),())) t1.m (by omega) hf hd hq1 hl hqn1 e λF2 w2 t2 hi2=>?_
   ·rw [etg] at one;exact one
   ·refine hI _ _ ⟨i+1,F2,by show i64.wrap ((i:Int)+1)=_;rw [qM (by omega)];rfl,e,by rw [hnext];exact t1.trans t2,λk hk=>hi1 k (hi2 k (by rw [hnext] at hk;exact hk)),by rw [hnext,nk,hn1]⟩ ?_;rw [qM (by omega)];omega
 ·have e:i=bs.length:=by have e:=oFq e;omega
  subst e;rw [take_length] at t1 hi1;exact hK F1 w1 t1 hi1
end
def idI (E:KE) (bs:List UInt8):Int:=Yo (E.S.putPre 0 bs.length).1.L 0
def q13 (E:KE) (W H:Int) (bs:List UInt8) (P:Slc):KE :=
 { E with S:=(E.S.putPre 0 bs.length).1.putAt (idI E bs) 0 W H P bs,T:=qsq E.T (E.S.putPre 0 bs.length).2 }
def VD (E:KE) (W H:Int) (bs:List UInt8) (P:Slc) (v:qu):KE :=
 if qad E.S 0 0 W H bs.length≠0 then E else ((xK (q13 E W H bs P) (ofL xx) (idI E bs) v).1.reserve 0).1
def qgc (E:KE) (W H:Int) (bs:List UInt8) (P:Slc) (v:qu):KR :=
 if qad E.S 0 0 W H bs.length≠0 then kr0 else (xK (q13 E W H bs P) (ofL xx) (idI E bs) v).2.1
def q25 (r:qg) (R:KR):Prop:=r.Rows=R.rows/\r.Cols=R.cols/\r.Moves=R.moves
theorem zbd:YW (toL (ofL xx)):=by
 intro i;have e:toL (ofL xx)=xx:=rfl;rw [e];cases hx:xx[i]? with
 | none=>simp
 | some x =>
  have:=qvg.1 x (List.mem_of_getElem? hx);simp only [getD_some];omega
section
variable {w w':World} {base g n:Nat} {F F':KF} {E E':KE}
theorem q46 (h:EngM w base g F E n) (hn:n<=900) (hT:Tab w) (h4:4<=base) {m:qf} {bs:List UInt8} (hP:Rd qo w m.P bs) (hPg:∀a,m.P.a=some a->bs≠[]->¬vC g F a.block) (v:qu) {K:qg->Ub}
  (hK:∀P r F' w',EngT base g w F F' (VD E m.W m.H bs P v) (n+2) w'->q25 r (qgc E m.W m.H bs P v)->(∀j,P.blk=some j->w.heap.size<=j)->K r w'):xn (some ⟨g,0,none⟩) m v w K:=by
 refine qgz _ _ _ ?_;simp only [onPtr_some];refine nwb λw1 bj ay cg=>nwb λw2 bk ao ch=>nwb λw3 C O ci=>?_;have B3:=(vN ay ao O).drew;have bl:=((bj.ext ao).ext O).drew;have az:=(bk.ext O).drew;have C:=C.drew;have h3:=h.ext B3;have z1:=ay.size;have z2:=ao.size;have z3:=O.size;have cj:=az.lt;have ck:=C.lt;have nE:∀{b:Nat},w.heap.size<=b->¬vC g F b:=λz Q=>by have:=(h.below _ Q).2;omega
 have l:∀{b:Nat},w.heap.size<=b->¬F.LS b:=λz Q=>nE z (.inr (.inr (.inr Q)));have c:qea qB:=by decide
 refine qS (x:=some ⟨F.sg,0,none⟩) (h3.blk.cells 1 _ rfl) (qz (r:=qf.rep) (x:=m) bl.cells ?_);refine q7i h3.st h.ok (by omega) (le_trans h3.hg (Nat.le_of_lt h3.blk.lt)) (hP.ext B3) (λhp a ha hs=>hPg a ha (List.length_pos_iff.1 hp) (.inr (.inl hs))) (λw5 he _ ap=>?_) λP q w5 he bm bn hq R a1=>?_
 ·have T:=C.ext ap;have z5:=ap.size;refine cT (by simpa using he) ?_;refine zN (r:=qg.rep) (x:=⟨⟨none,0,0⟩,0,0,false⟩) T rfl rfl λN bo cl=>?_;refine hK ⟨none,0,0⟩ _ F N ?_ (by unfold qgc;rw [if_pos he];exact ⟨rfl,rfl,rfl⟩) (λj hj=>by cases hj);unfold VD;rw [if_pos he];exact ((EngT.of_ext h (zC B3 ap)).up (by omega)).other T c (l (by omega)) (by omega) bo
 ·refine cF rfl ?_;have cm:=h.ok.len;have bp:StOk n (E.S.putPre 0 bs.length).1:=qcv _ _ (qyf h.ok 0);have h5:=(EngT.of_ext h B3).trans (EngT.store h3 bm bn (by omega) R (λj hj=>by
   obtain ⟨p,hp,z⟩:=hj;obtain ⟨a,b⟩:=p;rcases (y4 bp.srt _ _ a b).1 hp with ⟨rfl,rfl⟩ | ⟨_,bq⟩
   ·exact .inr (a1 j z)
   ·exact .inl ⟨(a,b),qi6 _ _ _ _ bq,z⟩))
  have z5:=R.size;have br:=az.chg R λe=>nE (by omega:w.heap.size<=w1.heap.size) (.inr (.inl e));have T:=C.chg R λe=>nE (by omega:w.heap.size<=w2.heap.size) (.inr (.inl e));refine qvu h5.m (by omega) hq.rd (λa ha=>qI hq h5.m.tb.blk (by decide) a.block (slk.2 ⟨a,ha,rfl⟩)) λq' N h6=>?_;have bt:=h5.trans h6;have a2:=br.chg h6.chg (nE (by omega:w.heap.size<=w1.heap.size));have a3:=T.chg h6.chg (nE (by omega:w.heap.size<=w2.heap.size));have z6:=h6.chg.size;have ek:∀P',P'=P->VD E m.W m.H bs P' v=((xK (q13 E m.W m.H bs P) (ofL xx) (idI E bs) v).1.reserve 0).1:=λP' aq=>by
   subst aq;unfold VD;rw [if_neg (λhh=>hh he)]
  have bu:∀P',P'=P->qgc E m.W m.H bs P' v=(xK (q13 E m.W m.H bs P) (ofL xx) (idI E bs) v).2.1:=λP' aq=>by
   subst aq;unfold qgc;rw [if_neg (λhh=>hh he)]
  have hK:=hK P;rw [ek P rfl,bu P rfl] at hK;have tl:∀(wa:World) (o:Nat) (d:KF) (r:qg),q25 r (xK (q13 E m.W m.H bs P) (ofL xx) (idI E bs) v).2.1->EngT base g w F d (xK (q13 E m.W m.H bs P) (ofL xx) (idI E bs) v).1 (n+2) wa->Blk wa o qB [(.slice none 0 0),(Ua 0),(Ua 0),(.bool false)]->¬d.LS o->w2.heap.size<o ->
    Blk wa w2.heap.size qB [(.slice none 0 0),(Ua 0),(Ua 0),(.bool false)]->¬d.LS w2.heap.size ->
    stK ⟨o,0,none⟩ (qg.rep.cells r) wa λU=>zB (some ⟨g,0,none⟩) 0 U λcn ar=>stK ((⟨o,0,none⟩:Addr).add 0) [(.slice none 0 0)] ar λD=>ldS qg.rep ⟨o,0,none⟩ D λbv=>
     stK ⟨w2.heap.size,0,none⟩ (qg.rep.cells bv) D λV=>ldS qg.rep ⟨w2.heap.size,0,none⟩ V λbw=>K bw V:=by
   intro wa o d r A h1 z au ho bx av;refine qD z (le_refl _) λU B a4 b9=>?_;have ab:Chg (λi=>i=o) wa U:=Chg.of_grown a4 λk Q=>by cases Q;rfl
   have X:=h1.other z c au (by omega) ab;have ac:=bx.chg ab λe=>by omega
   refine QW X.m (by omega) 0 λF2 ar aw _ _ a5=>?_;have nb:¬vC g d o:=X.m.not_in B c au;have nt:¬vC g d w2.heap.size:=X.m.not_in ac c av;have ad:=B.chg aw.chg nb;have a6:=ac.chg aw.chg nt;have a7:=X.trans aw;show stK ⟨o,0,none⟩ _ _ _;refine qD ad (by show (0+1:Nat)<=4;omega) λD G a8 ca=>?_;have ae:Chg (λi=>i=o) ar D:=Chg.of_grown a8 λk Q=>by cases Q;rfl
   have af:=a6.chg ae λe=>by omega
   refine qz (r:=qg.rep) (x:=⟨⟨none,0,0⟩,r.Rows,r.Cols,r.Moves⟩) G.cells ?_;refine zN (r:=qg.rep) af rfl rfl λV a9 cb=>?_;exact hK _ F2 V ((a7.other ad c (by rw [a5];exact au) (by omega) ae).other af c (by rw [a5];exact av) (by omega) a9) A (λj hj=>by have:=a1 j hj;omega)
  have u:=bt.ext (kj N);have f:=a2.drew;have I:=a3.drew;have e6:N.drew.heap.size=N.heap.size:=rfl;have bz:=hT.stepK h h4 u;have go:∀(wb:World) {K':qg->Bool->Ub},Below N.drew.heap.size N.drew wb->(∀r ok d w',q25 r (xK (q13 E m.W m.H bs P) (ofL xx) (idI E bs) v).2.1->EngT base g w F d (xK (q13 E m.W m.H bs P) (ofL xx) (idI E bs) v).1 (n+2) w'->EngT base g wb { F with q:=q' } d (xK (q13 E m.W m.H bs P) (ofL xx) (idI E bs) v).1 (n+2) w'->K' r ok w') ->
    jq (some ⟨g,0,none⟩) (ofL xx) (idI E bs) v wb K':=by
   intro wb K' hB Q;have z:=u.ext hB;exact qry z.m (by omega) (bz.ext hB) h4 zbd (idI E bs) v λr d w' hr h1 co=>Q r _ d w' hr.2 (z.trans h1) h1
  have ls:∀{d:KF} {E1:KE} {wb w':World} {b:Nat},EngT base g wb { F with q:=q' } d E1 (n+2) w'->w.heap.size<=b->b<wb.heap.size->¬d.LS b:=λh1 z av hs=>by
   rcases h1.ls _ hs with h2 | h2
   ·exact l z h2
   ·omega
  have cp:=a3.lt;have cq:=a2.lt;refine qz (r:=qu.rep) (x:=v) f.cells ⟨?_,?_⟩
  ·refine qoi λw7 y=>⟨(f.ext y).cells,?_,?_⟩
   ·have z7:=y.size;refine go w7 y λr ok d w8 A h8 Y=>?_;have z8:=Y.chg.size;refine nwb λw9 b0 ax cr=>?_;have ba:=f.ext y;have bb:=I.ext y;have bc:=u.ext y;have b1:=ba.chg Y.chg (bc.m.not_in ba (by decide) (l (by omega)));have b2:=bb.chg Y.chg (bc.m.not_in bb c (l (by omega)));refine ⟨(b1.ext ax).cells,?_⟩;exact tl w9 w8.heap.size d r A (h8.ext ax) b0 (λhs=>by have:=(h8.m.below _ (.inr (.inr (.inr hs)))).2;omega) (by omega) (b2.ext ax) (ls Y (by omega) (by omega))
   ·have z7:=y.size;refine nwb λb3 J ah cc=>?_;have Z:=zC y ah;have cs:=ah.size;have bd:=f.ext Z;have ai:=I.ext Z;have aj:=u.ext Z;refine ⟨bd.cells,go b3 Z λr ok d b4 A b5 s=>?_⟩;have be:=J.chg s.chg (aj.m.not_in J c (l (by omega)));have bf:=ai.chg s.chg (aj.m.not_in ai c (l (by omega)));have cd:=J.lt;exact tl b4 w7.heap.size d r A b5 be (ls s (by omega) (by omega)) (by omega) bf (ls s (by omega) (by omega))
  ·refine nwb λct ak L ce=>?_;refine ⟨(f.ext L).cells,qoi λb6 M=>?_⟩;have aa:=zC L M;have cu:=L.size;have cv:=M.size;have bg:=f.ext aa;have al:=I.ext aa;have am:=ak.ext M;have an:=u.ext aa;refine ⟨bg.cells,go b6 aa λr ok d b7 A b8 t=>?_⟩;have bh:=am.chg t.chg (an.m.not_in am c (l (by omega)));have bi:=al.chg t.chg (an.m.not_in al c (l (by omega)));have cf:=ak.lt;exact tl b7 N.drew.heap.size d r A b8 bh (ls t (by omega) (by omega)) (by omega) bi (ls t (by omega) (by omega))
end
def EvX (v:Ev):Prop:=v.Kind=4/\v.Private=63/\v.Inter=[]/\v.B=108/\v.Params=[25]\/v.Kind=2/\v.B=13
def Sc.doX (S:Sc) (v:Ev):Sc:=if v.Kind=4 then S.turn 25 false else S.to S.c.Row 0
section
variable {w w':World} {base g:Nat} {F F':ScF} {S S':Sc} {p:Slc} {ps:List Int}
theorem q74 (h:ScM w base g F S) {K:Ub} (hK:∀F' w',ScT base g w F F' (S.turn 25 false) w'->K w'):QY (some ⟨g,0,none⟩) 25 false w K:=by
 refine qid _ _ _ ?_;unfold Sc.turn at hK;refine jpO λd a=>cF rfl (a _ _ (cF rfl (jpO λf b=>cF rfl (cF rfl (cT rfl (b _ _ (cT rfl ?_)))))));refine km (by rw [qC];exact h.blk.cell 36 rfl) ?_;exact h.setPr (by unfold zeo;decide) λi c=>hK _ _ c
theorem zei {e:ze} {v:Ev} (h:ScM w base g F S) (hv:EvM w g F e v) (hp0:v.Private=63) (hi0:v.Inter=[]) (hb0:v.B=108) (hps:v.Params=[25]) {K:Slc->Ub}
  (hK:∀F' w',ScT base g w F F' (S.turn 25 false) w'->K ⟨none,0,0⟩ w'):kd (some ⟨g,0,none⟩) e w K:=by
 refine QD _ _ ?_;obtain ⟨ek,er,eb,ep,ei,b,P⟩:=e;obtain ⟨T,U,t,y,z,o,V,W,X⟩:=hv;rw [hp0] at y;rw [hi0] at z;rw [hb0] at t;rw [hps] at o;subst t y z;refine nwb λA C j Y=>?_;have l:=(ScT.of_ext h j).drew;have c:ParM A.drew g F b [25]:=⟨(o.rd.ext j).drew,o.off.imp id λh a Q=>⟨(h a Q).1,by have:=(h a Q).2;have:=j.size;show a.block<A.heap.size;omega⟩,o.rng,o.len⟩;have d:=C.drew;have D:¬scS g F w.heap.size:=λG=>by have:=(h.below _ G).2;omega
 generalize A.drew=w2 at l c d ⊢;refine lSl (x:=b) (by simpa using d.cells 5 _ rfl) (lSl (x:=b) (by simpa using d.cells 5 _ rfl) ?_);refine qjf (i:=0) c ⟨by simpa using d.cells 5 _ rfl,?_⟩;refine jpO λZ H=>?_;have p:∀(q:ScF) r,ScT base g w2 F q (S.turn 25 false) r->Z () r:=λq r f=>by
  have J:=d.chg f.chg D;refine H _ _ (jpO λJ2 aa=>?_);refine lI (by simpa using J.cells 3 _ rfl) (cT rfl (hK _ _ (l.trans f)))
 refine lI (by simpa using d.cells 3 _ rfl) ?_;refine qjn ?_;refine qgu (by simpa using d.cells 4 _ rfl) ?_;have el:=qi9 63 (by decide);have ab:=qi9 108 (by decide);refine ⟨by rw [qT,qT];simp only [length_nil];omega,?_⟩;refine lI (by simpa using d.cells 2 _ rfl) ?_;refine qjn ⟨by rw [jH,qT,qT,length_append];simp only [length_nil];omega,?_⟩;rw [jH,jH,kN];have l1:(⟨#[0,33,112]⟩:ByteArray).toList=[0,33,112]:=by kernel_rfl
 have l5:(⟨#[63,104]⟩:ByteArray).toList=[63,104]:=by kernel_rfl
 have l6:(⟨#[63,108]⟩:ByteArray).toList=[63,108]:=by kernel_rfl
 rw [l1,l5,l6];have G:(Utf8.encode 63).data.toList++[]++(Utf8.encode 108).data.toList=[63,108]:=by kernel_rfl
 refine cF rfl (jpO λJ3 L=>cF rfl (L _ _ (cT rfl ?_)));have R:=c.rd.n;refine lpR (λ(s:Int×Unit) w4=>s.1=0/\w4=w2\/s.1=1/\∃M,ScT base g w2 F M (S.turn 25 false) w4) (λs=>1-s.1.toNat) (.inl ⟨rfl,rfl⟩) ?_;rintro ⟨i,u⟩ w4 hi I hI;rcases hi with ⟨rfl,rfl⟩ | ⟨rfl,M,N⟩
 ·refine cT (by rw [R];rfl) ?_;refine c.rd.ix (i:=0) (k:=1) rfl (by decide) (by decide) λO=>?_;refine lI (by simpa using O 0 _ rfl) (lI (by simpa using d.cells 2 _ rfl) ?_);exact q74 l.m λq r f=>hI _ _ (.inr ⟨rfl,q,f⟩) (by show 1-(i64.wrap (0+1)).toNat<1-(0:Int).toNat;decide)
 ·exact cF (by rw [R];rfl) (p M w4 N)
theorem q87 {e:ze} {v:Ev} (h:ScM w base g F S) (hv:EvM w g F e v) (hn:EvX v) {K:Slc->Ub}
  (hK:∀F' w',ScT base g w F F' (S.doX v) w'->K ⟨none,0,0⟩ w'):js (some ⟨g,0,none⟩) e w K:=by
 refine KJ _ _ ?_;refine nwb λH n d A=>?_;have l:=ScT.of_ext h d;unfold Sc.doX at hK;have B:=hv.k;have C:=hv.b;refine lI (x:=v.Kind) (by rw [<-B];simpa using n.cells 0 _ rfl) ?_;rcases hn with ⟨f,o,q,a,s⟩ | ⟨y,a⟩
 ·rw [if_pos f] at hK;refine cF (by rw [f];rfl) (cF (by rw [f];rfl) (cF (by rw [f];rfl) (cT (by rw [f];rfl) ?_)));refine qz n.cells ?_;exact zei l.m ⟨hv.k,hv.r,hv.b,hv.p,hv.i,hv.ps.ext d,hv.br,hv.pr,hv.il⟩ o q a s λF' D c=>hK _ _ (l.trans c)
 ·rw [if_neg (by omega)] at hK;refine cF (by rw [y];rfl) (cT (by rw [y];rfl) ?_);refine lI (x:=13) (by rw [<-a,<-C];simpa using n.cells 2 _ rfl) ?_;refine qdc _ _ ?_;refine jpO λG t=>cF rfl (cF rfl (jpO λI j=>?_));have z:∀{F1 wx},ScT base g w F F1 S wx->G () wx:=λu=>t _ _ (u.m.ldRow (qsu u.m λD c=>hK _ _ (u.trans c)))
  first
   | exact cF rfl (cF rfl (cF rfl (j _ _ (cT rfl (z l)))))
   | exact cF rfl (cF rfl (cF rfl (j _ _ (cT rfl (z E)))))
end
def zlz:Ev:=⟨2,0,13,0,[],[]⟩
noncomputable def q9i (S:Sc) (R:KR):Sc:=if R.moves=true then (S.doX zlz).moveP R.rows 0 else S
noncomputable def VA (T:TS) (ok:Bool) (P:Slc):TS:=match T.d with
 | none=>T
 | some D =>
  if ok=true/\(xk D).2.1=0 then
   { jo T with E:=VD (jo T).E (((xk D).1.w:Nat):Int) (((xk D).1.h:Nat):Int) (xk D).2.2 P (jI T),n:=T.n+2,S:=q9i T.S (qgc (jo T).E (((xk D).1.w:Nat):Int) (((xk D).1.h:Nat):Int) (xk D).2.2 P (jI T)) }
  else jo T
noncomputable def qz8 (t:Option Addr) (r:Addr) (x:qg) (w:World) (K:Ub):Prop :=
 stK r (qg.rep.cells x) w λw9=>
 Go.Vc.ldB (r.add 3) w9 λt35=>
 cond t35
  (
   qH t λt38=>
   ldP (t38.add 6) w9 λt39=>
   js t39 (⟨2,0,13,0,(⟨#[]⟩:ByteArray),⟨none,0,0⟩,⟨none,0,0⟩⟩:ze) w9 λt41 w10=>
   qH t λt43=>
   ldP (t43.add 6) w10.drew λt45=>
   ldI .i64 (r.add 1) w10.drew λt47=>
   zS t45 t47 0 w10.drew λw11=>
   K w11)
  (K w9)
theorem q4q {n:Nat} {E:KE} (hok:StOk n E.S) (W H:Int) (bs:List UInt8) (P:Slc) (v:qu):∀j,ka (VD E W H bs P v).S j->ka E.S j\/P.blk=some j:=by
 intro j c;unfold VD at c;split at c
 ·exact .inl c
 ·have g:=(yb _ 0).1 j c;rw [(qj1 _ _ _ _).1] at g;obtain ⟨⟨a,b⟩,hp,e⟩:=g;have d:StOk n (E.S.putPre 0 bs.length).1:=qcv _ _ (qyf hok 0);rcases (y4 d.srt _ _ a b).1 hp with ⟨rfl,rfl⟩ | ⟨_,f⟩
  ·exact .inr e
  ·exact .inl ⟨(a,b),qi6 _ _ _ _ f,e⟩
section
variable {w w':World} {base:Nat} {F F':TmF} {T T':TS}
theorem q2f {w0:World} {F3:TmF} {T3:TS} (h0:base<=w0.heap.size) (h:TmT base w0 F F3 T3 w) {ra:Nat} (hra:w0.heap.size<=ra) (hb:Blk w ra qB [(.slice none 0 0),(Ua 0),(Ua 0),(.bool false)]) (hn:¬kV F3 ra) {x:qg} {R:KR} (hx:q25 x R) (ha:T3.S.areas.length<=1000)
  {K:Ub} (hK:∀F' w',TmT base w0 F F' { T3 with S:=q9i T3.S R } w'->K w'):qz8 (some ⟨F3.tg,0,none⟩) ⟨ra,0,none⟩ x w K:=by
 unfold qz8;obtain ⟨n,t,l⟩:=hx;refine xR hb rfl λo b f p=>?_;have g:=TmT.other h0 h hb (by decide) hra hn f;unfold q9i at hK;refine jw (b.cells 3 _ rfl) (cO (λe=>?_) λe=>?_)
 ·rw [if_pos (by rw [<-l];exact e)] at hK;have i:=g.m;refine qS (i.blk.cells 6 _ rfl) ?_;have q:EvM o F3.sg F3.SF ⟨2,0,13,0,(⟨#[]⟩:ByteArray),⟨none,0,0⟩,⟨none,0,0⟩⟩ zlz:=⟨rfl,rfl,rfl,rfl,rfl,⟨Rd.nil _ _,.inr λa ha=>(by cases ha),λx hx=>(by cases hx),zero_le _⟩,by decide,by decide,zero_le _⟩;refine q87 i.sc q (.inr ⟨rfl,rfl⟩) λj u c=>?_;have r:=g.trans (i.screen c);have d:=r.drew;have k:=(b.chg c.chg λs=>hn (.inr (.inl s))).drew;refine qS (d.m.blk.cells 6 _ rfl) (lI (k.cells 1 _ rfl) ?_);rw [n];exact q30 d.m.sc λj v c=>hK _ _ (d.trans (d.m.screen c))
 ·rw [if_neg (by rw [<-l,e];decide)] at hK;exact hK _ _ g
theorem q85 (h:TermM w base F T) (hn:T.n<=1000) {K:Ub} (hK:∀F' w',TmT base w F F' (jo T) w'->F'.dF=none->Chg (kV { F with dF:=none }) w w'->(∀k,kV F' k->kV { F with dF:=none } k\/w.heap.size<=k)->K w'):jX (some ⟨F.tg,0,none⟩) w K:=by
 refine Y2 _ ?_;simp only [onPtr_some];refine qD h.blk (by show 0+9+1<=15;omega) λo b c p=>?_;have f:=Chg.gg c;have a:=h.putD (F':={ F with dF:=none }) (T':={ T with d:=none }) b f rfl rfl rfl rfl rfl rfl rfl rfl rfl h.cq h.rq trivial (λ_ h=>h) (λ_ h=>h) (λ_ h=>h.elim);refine qS (a.m.blk.cells 7 _ rfl) ?_;have q:=(yb T.E 0).1;refine QW a.m.en hn 0 λr s t _ _ _=>?_;have g:=a.m.engine t λk j=>.inl (q k j);refine hK _ s (a.trans g) rfl ((f.mono λk _ e=>.inl e).trans g.chg λi _ u=>u) λk j=>?_;rcases g.old k j with l | l
 ·exact .inl l
 ·exact .inr (by omega)
theorem q51 (h:TermM w base F T) (hn:T.n<=880) (ha:T.S.areas.length<=1000) (ok:Bool) {K:Ub} (hK:∀P F' w',TmT base w F F' (VA T ok P) w'->(∀k,ka (VA T ok P).E.S k->ka T.E.S k\/w.heap.size<=k)->K w'):XY (some ⟨F.tg,0,none⟩) ok w K:=by
 refine qoc _ _ ?_;have c9:=h.blk.cells 9 _ rfl;rcases h.dec with ⟨hf,hd⟩ | ⟨f,D,hf,hd,v⟩
 ·have hP:VA T ok ⟨none,0,0⟩=T:=by unfold VA;rw [hd]
  have hK:=hK ⟨none,0,0⟩;rw [hP] at hK;rw [hf] at c9;exact qU (qS (x:=none) c9 (cT rfl (hK F w (TmT.refl h) λk j=>.inl j)))
 have ad:∀P,VA T ok P=if ok=true/\(xk D).2.1=0 then
   { jo T with E:=VD (jo T).E (((xk D).1.w:Nat):Int) (((xk D).1.h:Nat):Int) (xk D).2.2 P (jI T),n:=T.n+2,S:=q9i T.S (qgc (jo T).E (((xk D).1.w:Nat):Int) (((xk D).1.h:Nat):Int) (xk D).2.2 P (jI T)) }
  else jo T:=λP=>by unfold VA;rw [hd]
 rw [hf] at c9;refine qU (qS (x:=some ⟨f.g,0,none⟩) c9 (cF rfl ?_));have h0:=h.base_le;refine q85 h (by omega) λp w1 R a5 ae aj=>?_;have U:=(yb T.E 0).1;have z1:=ae.size;have q:∀k,sxS f k->qx1 F T.E 5 k:=λk j=>by show sxO F.dF k;rw [hf];exact j
 have ns:∀k,sxS f k->¬kV { F with dF:=none } k:=by
  rintro k j (e | e | e | e | e | e)
  ·exact absurd (h.dj 5 0 k (q k j) e) (by decide)
  ·exact absurd (h.dj 5 1 k (q k j) e) (by decide)
  ·exact absurd (h.dj 5 2 k (q k j) (.inl e)) (by decide)
  ·exact absurd (h.dj 5 3 k (q k j) e) (by decide)
  ·exact absurd (h.dj 5 4 k (q k j) e) (by decide)
  ·exact e
 have V:=v.chg ae ns;have ak:∀k,kV p k->¬sxS f k:=λk j y=>(aj k j).elim (ns k y) λh1=>by have:=(v.below k y).2;omega
 refine zaf V λf2 w2 m L hm=>?_;have z2:=L.chg.size;have af:far (sxS f) w1:=λk cs j=>(show typd w1 k from SxO.typd (f:=some f) (d:=some D) V k j).not cs;have i5:∀k,ka (jo T).E.S k->¬sxS f k:=λk j y=>absurd (h.dj 5 2 k (q k y) (.inr (U k j))) (by decide);have t2:TmT base w F p (jo T) w2:=⟨R.m.keep L.chg ak i5 af (qbv R.m L.chg λk j=>(V.below k j).1),R.old,R.chg.trans L.chg λi _ B=>.inr (.inr (.inr (.inr (.inr (q i B))))),R.tg,R.pg⟩;refine jS (vs:=qf.rep.cells m) rfl λw4 al X a6=>?_;have t4:=t2.ext X;have z4:=X.size;refine jpO λJ1 ah=>?_;have no:¬(ok=true/\(xk D).2.1=0)->J1 (false,()) w4:=λam=>ah _ _ (cF rfl (by
  have hK:=hK ⟨none,0,0⟩;rw [ad,if_neg am] at hK;exact hK p w4 t4 λk j=>.inl (U k j)))
 cases ok with
 | false=>exact cF rfl (no (λhh=>by cases hh.1))
 | true =>
 refine cT rfl ?_;by_cases he:(xk D).2.1=0
 rotate_left
 ·have e:((xk D).2.1==0)=false:=beq_eq_false_iff_ne.2 he;rw [e];exact no λhh=>he hh.2
 have e:((xk D).2.1==0)=true:=by rw [he];rfl
 rw [e];obtain ⟨hW,hH,hP,a7⟩:=hm he;refine ah _ _ (cT rfl (qU ?_));have N:=t4.drew;have A:=al.drew;have s:=N.tg;have c7:∀{J Fx Tx},TermM J base Fx Tx->Fx.tg=F.tg->Fx.eg=p.eg->J.cell? ((⟨F.tg,0,none⟩:Addr).add 7)=some (.pointer (some ⟨p.eg,0,none⟩)):=λhm e1 e2=>by
  have:=hm.blk.cells 7 _ rfl;rw [e1,e2] at this;exact this
 have z:∀{k},w1.heap.size<=k->¬kV p k:=λ{k} j v=>by
  have:=(R.m.below k v).2;omega
 have an:Rd qo w4 m.P (xk D).2.2:=(hP.ext X).rd;have C:∀(J:World) (Kx:qg->Ub),Uc w4 J->(∀P x c Y,q25 x (qgc (jo T).E m.W m.H (xk D).2.2 P (jI T))->TmT base w F { p with KF:=c } { jo T with E:=VD (jo T).E m.W m.H (xk D).2.2 P (jI T),n:=T.n+2 } Y ->
   (∀k,kV { p with KF:=c } k->kV p k\/J.heap.size<=k)->(∀b t Z,Blk J b t Z->w1.heap.size<=b->Blk Y b t Z)->J.heap.size<=Y.heap.size->(∀k,ka (VD (jo T).E m.W m.H (xk D).2.2 P (jI T)).S k->ka T.E.S k\/w.heap.size<=k)->Kx x Y)->xn (some ⟨p.eg,0,none⟩) m (jI T) J Kx:=by
  intro J Kx hB j;have tx:=t4.ext hB;have zx:=hB.size;refine q46 tx.m.en (by show T.n<=900;omega) tx.m.tab tx.m.b4 (an.ext hB) (λa ha _ v=>z (hP.lt a.block (slk.2 ⟨a,ha,rfl⟩)).1 (.inr (.inr (.inl v)))) (jI T) λP x c Y hE y ao=>?_;have B:∀k,ka (VD (jo T).E m.W m.H (xk D).2.2 P (jI T)).S k->ka (jo T).E.S k\/J.heap.size<=k:=λk j=>(q4q tx.m.en.ok _ _ _ _ _ k j).imp_right λe=>ao k e;have t3:=tx.m.engine hE B;refine j P x (q2y Y c) Y y (tx.trans t3) (λk aa=>(t3.old k aa).imp_right id) (λb t Z hb M=>hb.chg hE.chg λv=>z M (.inr (.inr (.inl v)))) hE.chg.size λk aa=>(B k aa).imp (U k) λM=>by omega
 have ab:∀(P:Slc) (x:qg) (c:KF) (wz:World) (ra:Nat),w.heap.size<=ra->Blk wz ra qB [(.slice none 0 0),(Ua 0),(Ua 0),(.bool false)]->q25 x (qgc (jo T).E m.W m.H (xk D).2.2 P (jI T))->TmT base w F { p with KF:=c } { jo T with E:=VD (jo T).E m.W m.H (xk D).2.2 P (jI T),n:=T.n+2 } wz ->
   ¬kV { p with KF:=c } ra->(∀k,ka (VD (jo T).E m.W m.H (xk D).2.2 P (jI T)).S k->ka T.E.S k\/w.heap.size<=k)->qz8 (some ⟨F.tg,0,none⟩) ⟨ra,0,none⟩ x wz K:=by
  intro P x c wz ra ap hb y ht hn B;have hK:=hK P;rw [ad,if_pos ⟨rfl,he⟩,<-hW,<-hH] at hK;have:=q2f (K:=K) h0 ht ap hb hn y ha λF' w' hT=>hK F' w' hT B;rw [ht.tg] at this;exact this
 refine qS (x:=some ⟨p.eg,0,none⟩) (c7 N.m s rfl) (qz (r:=qf.rep) (x:=m) A.cells ⟨?_,?_⟩)
 ·have Z:=λ{K} j=>by
   have:=qh4 (F:=p) (T:=jo T) N.m (K:=K) j;rw [s] at this;exact this
  refine Z λw6 u=>⟨(A.ext u).cells,c7 (N.ext u).m s rfl,?_,?_⟩
  ·have B6:=bT (bdw w4) u;have zb:=B6.size;refine C w6 _ B6 λP x c w7 y t7 ht G hz B=>?_;refine nwb λw8 aq ac a8=>?_;have ar:=G _ _ _ (A.ext u) (by omega);refine ⟨(ar.ext ac).cells,c7 (t7.m.ext ac) (t7.tg) rfl,?_⟩;exact ab P x c w8 w7.heap.size (by omega) aq y (t7.ext ac) (λv=>by have:=(t7.m.below _ v).2;omega) B
  ·refine nwb λau O I a3=>⟨((A.ext u).ext I).cells,c7 ((N.ext u).m.ext I) s rfl,?_⟩;have B6:=bT (bdw w4) u;have av:=bT B6 I;have zb:=B6.size;have a9:=O.lt;refine C au _ av λP x c aw y ax ht G hz B=>?_;exact ab P x c aw w6.heap.size (by omega) (G _ _ _ O (by omega)) y ax (λv=>(ht _ v).elim (z (by omega)) λM=>by omega) B
 ·refine nwb λai Q l a4=>⟨(A.ext l).cells,c7 (N.m.ext l) s rfl,?_⟩;have Z:=λ{K} j=>by
   have:=qh4 (F:=p) (T:=jo T) (N.m.ext l) (K:=K) j;rw [s] at this;exact this
  refine Z λay o=>⟨((A.ext l).ext o).cells,c7 ((N.m.ext l).ext o) s rfl,?_⟩;have az:=bT (bT (bdw w4) l) o;have ba:=Q.lt;have e5:w4.drew.heap.size=w4.heap.size:=rfl;have bb:=o.size;refine C ay _ az λP x c a1 y a2 ht G hz B=>?_;exact ab P x c a1 w4.drew.heap.size (by omega) (G _ _ _ (Q.ext o) (by omega)) y a2 (λv=>(ht _ v).elim (z (by omega)) λM=>by omega) B
end
section
variable {w w':World} {base:Nat} {F F':TmF} {T T':TS}
theorem SxM.based {base':Nat} {f:SxF} {D:SxD} (h:SxM w base f D) (hb:base'<=base):SxM w base' f D:=⟨h.blk,le_trans hb h.hg,h.q.base hb,h.nq.base hb,h.ok⟩
theorem TermM.sixNew (h:TermM w base F T) {f:SxF} {D:SxD} {w1:World} (hm:SxM w1 w.heap.size f D) (hB:Uc w w1) {K:Ub}
  (hK:∀w2,TmT base w F { F with dF:=some f } { T with d:=some D } w2->K w2):stK ((⟨F.tg,0,none⟩:Addr).add 9) [.pointer (some ⟨f.g,0,none⟩)] w1 K:=by
 have p:=TmT.of_ext h hB;have b:=p.m;rw [qC];refine qD b.blk (by show 0+9+1<=15;omega) λw2 n o q=>hK w2 ?_;have c:=Chg.gg o;have l:∀j k,j≠0->qx1 F T.E j k->k≠F.tg:=λj k r a e=>r (h.dj j 0 k a e);have s:=h.blk.lt;have t:=p.chg.trans (c.mono λk _ e=>.inl e) λi _ u=>u;refine ⟨⟨n,h.hg,b.sc.keep c (λk a=>l 1 k (by decide) a) (λk x e a=>by subst e;exact b.blk.ne_t a (by decide) rfl),b.en.chgS c (λk a=>l 2 k (by decide) (.inl a)) (λk a=>l 2 k (by decide) (.inr a)),b.cq.chg c (qI b.cq b.blk (by decide)),b.rq.chg c (qI b.rq b.blk (by decide)),
  (show SxO w2 base (some f) (some D) from (hm.based h.base_le).chg c λk a e=>by have:=(hm.below k a).1;omega),qyr 5 h.dj h.foot_lt (λi k a=>?_),λk a=>(b.nl k a).chg c (l 2 k (by decide) (.inl (.inr (.inr (.inr a))))),qbv b c λk e=>by rw [e];exact h.hg,h.b4⟩,λk a=>?_,t,rfl,rfl⟩
 ·match i,a with
  | 0,a=>exact .inl a
  | 1,a=>exact .inl a
  | 2,a=>exact .inl a
  | 3,a=>exact .inl a
  | 4,a=>exact .inl a
  | 5,a=>exact .inr ⟨(hm.below k a).1,rfl⟩
 ·rcases a with a | a | a | a | a | a
  ·exact .inl (.inl a)
  ·exact .inl (.inr (.inl a))
  ·exact .inl (.inr (.inr (.inl a)))
  ·exact .inl (.inr (.inr (.inr (.inl a))))
  ·exact .inl (.inr (.inr (.inr (.inr (.inl a)))))
  ·exact .inr (hm.below k a).1
end
def Sc.doM (S:Sc) (v:Ev):Sc:=if v.Private=63 then S.turn 25 false else S.doN v
def Sc.doMR (S:Sc) (v:Ev):List UInt8:=if v.Private=63 then [] else S.doNR v
def zm0 (v:Ev):Prop:=EvN v/\v.Private=0\/v.Kind=4/\EvX v
theorem zij {w:World} {base g:Nat} {F:ScF} {S:Sc} {e:ze} {v:Ev} (h:ScM w base g F S) (hv:EvM w g F e v) (hT:Tab w) (hn:zm0 v) {K:Slc->Ub}
  (hK:∀q F' w',Rd qo w' q (S.doMR v)->ScT base g w F F' (S.doM v) w'->K q w'):js (some ⟨g,0,none⟩) e w K:=by
 unfold Sc.doM Sc.doMR at hK;rcases hn with ⟨hn,a⟩ | ⟨b,hn⟩
 ·rw [if_neg (by omega),if_neg (by omega)] at hK;exact zgz h hv hT hn hK
 ·have c:=hn;rcases hn with ⟨_,a,_⟩ | ⟨e,_⟩
  ·rw [if_pos a,if_pos a] at hK;refine q87 h hv c λF' w' hT=>hK _ F' w' (Rd.nil _ _) ?_;unfold Sc.doX at hT;rw [if_pos b] at hT;exact hT
  ·omega
noncomputable def QR (T:TS) (v:EvP) (P:Slc):TS :=
 if v.k=9 then { T with cmd:=[],long:=false }
 else if v.k=10 then { T with cmd:=T.cmd++v.d }
 else if v.k=11 then qt1 T P
 else if v.k=6 then { T with d:=some (qym (v.ps.getD 1 0==1) T.c.Quota 256) }
 else if v.k=7 then xP T v.d
 else if v.k=8 then VA T (v.b==1) P
 else { T with S:=T.S.doM (q1s v),rep:=T.rep++T.S.doMR (q1s v) }
noncomputable def kR (T:TS) (v:EvP) (P:Slc):TS:=Zw (QR T v P)
def zma (T:TS) (v:EvP):Prop :=
 v.k=9\/(v.k=10/\T.long=false/\T.cmd.length+v.d.length<=6000)\/(v.k=11/\v.b=1/\T.long=false/\(∃bs,T.cmd=71::bs/\CmdOk bs/\(∀C s,T.E.ld=some (C,s)->s.over=false/\qft s+3*bs.length<=120000/\YW (toL T.E.first))/\bs.length<=39000)/\T.E.quota<=100000)\/((v.k=1\/v.k=4)/\zm0 (q1s v))
 \/ (v.k=6/\v.b=113/\v.pv=0/\v.i=[]/\0<=T.c.Quota/\T.c.Quota<=1073741824)\/(v.k=7/\XR T.S=T.f0/\T.S.g1.top=T.f1)\/(v.k=8/\T.S.areas.length<=1000)
structure EvOk (T:TS) (v:EvP):Prop where
 go:zma T v
 calm:∀P,Calm (QR T v P)
 rl:T.rep.length<=1000000
 rd:∀P,(QR T v P).rep.length<=2000000
 n:T.n<=880
def YY (F:TmF) (T:TS) (k:Nat):Prop:=kV F k\/ka T.E.S k
theorem q5l (T:TS):∀bs,(xP T bs).n=T.n:=λbs=>by
 have a:∀b U,(yk U b).n=U.n:=λb U=>by
  unfold yk qmx jo;split
  ·rfl
  ·dsimp only
   repeat' split
   all_goals rfl
 induction bs generalizing T with
 | nil=>rfl
 | cons b bs c=>exact (c (yk T b)).trans (a b T)
theorem q6w (T:TS) (ok:Bool) (P:Slc):(VA T ok P).n<=T.n+2:=by
 unfold VA;split
 ·omega
 ·split
  ·exact le_refl _
  ·show T.n<=_;omega
section
variable {w w':World} {base:Nat} {F F':TmF} {T T':TS}
theorem q5z {v:EvP} {p d:Slc} (h:TermM w base F T) (hv:EvW w (YY F T) p d v) (ok:EvOk T v) {K:Ub}
  (hK:∀P F' w',TmT base w F F' (kR T v P) w'->(∀k,ka (kR T v P).E.S k->ka T.E.S k\/w.heap.size<=k)->K w'):Xz (some ⟨F.tg,0,none⟩) ⟨v.k,v.r,v.b,v.pv,qX v.i,p,d⟩ w K:=by
 refine qm7 _ _ ?_;simp only [onPtr_some];obtain ⟨aa,I,ab,Q,hn⟩:=ok;refine nwb λw1 B z a2=>?_;refine lI (x:=v.k) (B.cells 0 _ rfl) ?_;have u:=TmT.of_ext h z;have z1:=z.size;have s:∀(P:Slc) (N:TmF) (y:World),TmT base w F N (QR T v P) y->(QR T v P).n<=100000->(∀k,ka (QR T v P).E.S k->ka T.E.S k\/w.heap.size<=k)->zK (some ⟨F.tg,0,none⟩) y λG=>K G:=by
  intro P N y o ac J;rw [<-o.tg];exact q5w o.m (I P) ac λF3 G O=>hK P F3 G (o.trans O) J
 have l:∀j:Int,v.k≠j->(v.k==j)=false:=λj h=>beq_eq_false_iff_ne.2 h;refine jpO λJ1 ad=>?_;rcases aa with e | ⟨e,t,R⟩ | ⟨e,U,t,⟨bs,V,ae,hm,af⟩,hq⟩ | ⟨e,hN⟩ | ⟨e,U,ah,ai,aj⟩ | ⟨e,_⟩ | ⟨e,ak⟩
 ·refine cF (l 6 (by omega)) (cF (l 7 (by omega)) (cF (l 8 (by omega)) (cT (by rw [e];rfl) ?_)));rw [qC];refine qD u.m.blk (by show 0+10+1<=15;omega) λy al am a3=>?_;have o:TmT base w1 F { F with cq:=⟨none,0,0⟩ } { T with cmd:=[] } y:=u.m.put al (Chg.gg am) rfl rfl rfl rfl rfl rfl rfl rfl rfl (Go.Vc.Own.nil _ _ _) u.m.rq (λk g=>by cases g) λ_ g=>g;rw [qC];refine qD o.m.blk (by show 0+11+1<=15;omega) λG an ao a4=>?_;have O:TmT base y { F with cq:=⟨none,0,0⟩ } { F with cq:=⟨none,0,0⟩ } { T with cmd:=[],long:=false } G:=o.m.put an (Chg.gg ao) rfl rfl rfl rfl rfl rfl rfl rfl rfl o.m.cq o.m.rq (λ_ g=>g) λ_ g=>g;have f:QR T v ⟨none,0,0⟩={ T with cmd:=[],long:=false }:=by unfold QR;rw [if_pos e]
  exact s ⟨none,0,0⟩ _ G (by rw [f];exact u.trans (o.trans O)) (by rw [f];show T.n<=_;omega) (by rw [f];exact λk g=>.inl g)
 ·refine cF (l 6 (by omega)) (cF (l 7 (by omega)) (cF (l 8 (by omega)) (cF (l 9 (by omega)) (cT (by rw [e];rfl) ?_))));refine lSl (x:=d) (B.cells 6 _ rfl) ?_;refine zb8 u.m t (hv.ds.ext z) (λa L W=>(hv.df a L).1 (.inl W)) R λN y o=>?_;have f:QR T v ⟨none,0,0⟩={ T with cmd:=T.cmd++v.d }:=by unfold QR;rw [if_neg (by omega),if_pos e]
  exact s ⟨none,0,0⟩ _ y (by rw [f];exact u.trans o) (by rw [f];show T.n<=_;omega) (by rw [f];exact λk g=>.inl g)
 ·refine cF (l 6 (by omega)) (cF (l 7 (by omega)) (cF (l 8 (by omega)) (cF (l 9 (by omega)) (cF (l 10 (by omega)) (cT (by rw [e];rfl) ?_)))));have f:∀P,QR T v P=qt1 T P:=λP=>by unfold QR;rw [if_neg (by omega),if_neg (by omega),if_pos e]
  refine lI (x:=v.b) (B.cells 2 _ rfl) ?_;rw [U];refine q6r u.m t V ae hm hn hq af ab (λP=>by rw [<-f P];exact Q P) λP N y o J=>?_;exact s P _ y (by rw [f];exact u.trans o) (by rw [f];show T.n+2<=_;omega) (by rw [f];exact λk g=>(J k g).imp_right λh=>by omega)
 ·have ap:v.k≠6/\v.k≠7/\v.k≠8/\v.k≠9/\v.k≠10/\v.k≠11/\v.k≠3:=by omega
  obtain ⟨n6,n7,n8,n9,X,Y,n3⟩:=ap;refine cF (l 6 n6) (cF (l 7 n7) (cF (l 8 n8) (cF (l 9 n9) (cF (l 10 X) (cF (l 11 Y) (cF (l 3 n3) (ad _ _ ?_)))))));have f:QR T v ⟨none,0,0⟩={ T with S:=T.S.doM (q1s v),rep:=T.rep++T.S.doMR (q1s v) }:=by unfold QR;rw [if_neg n9,if_neg X,if_neg Y,if_neg n6,if_neg n7,if_neg n8]
  have H:=Q ⟨none,0,0⟩;rw [f] at H;simp only [length_append] at H;have A:=u.drew;have C:=A.m;have D:=B.drew;refine lSl (x:=F.rq) (C.blk.cells 12 _ rfl) (qS (x:=some ⟨F.sg,0,none⟩) (C.blk.cells 6 _ rfl) (qz (r:=ze.rep) (x:=⟨v.k,v.r,v.b,v.pv,qX v.i,p,d⟩) D.cells ?_));have aq:EvM w1.drew F.sg F.SF ⟨v.k,v.r,v.b,v.pv,qX v.i,p,d⟩ (q1s v):=⟨rfl,rfl,rfl,rfl,rfl,⟨(hv.ps.ext z).drew,.inr λa L=>⟨λW=>(hv.pf a L).1 (.inl (.inr (.inl W))),by have:=(hv.pf a L).2;show a.block<w1.heap.size;omega⟩,λx hx=>by have:=hv.rng x hx;unfold zeo;omega,by have:=hv.pl;show v.ps.length<=100000;omega⟩,hv.b,hv.pv,by have:=hv.il;show v.i.length<=100000;omega⟩;refine zij C.sc aq C.tab hN λq a5 G hq hT=>?_;have O:=C.screen hT;have m3:=O.m;refine ⟨m3.blk.cells 12 _ rfl,?_⟩;refine jW qN (ty:=qj) (xs:=T.rep) (ys:=T.S.doMR (q1s v)) m3.rq hq m3.base_le (by rw [jV];omega) (by simp [maxLen];omega) λr w4 hr hg ar=>?_;refine m3.replied (xs:=T.S.doMR (q1s v)) hr (Chg.of_grown hg λk g=>g) ar λw5 t5=>?_;exact s ⟨none,0,0⟩ _ w5 (by rw [f];exact A.trans (O.trans t5)) (by rw [f];show T.n<=_;omega) (by rw [f];exact λk g=>.inl g)
 ·refine cT (by rw [e];rfl) (jpO λJ2 au=>?_);refine lI (x:=v.b) (B.cells 2 _ rfl) (cT (by rw [U];rfl) (lI (x:=v.pv) (B.cells 3 _ rfl) (cT (by rw [ah];rfl) (qgu (x:=qX v.i) (B.cells 4 _ rfl) ?_))));rw [ai];refine au _ _ (cT (by show ((qX []).toList==(⟨#[]⟩:ByteArray).toList)=true;rw [kN,show (⟨#[]⟩:ByteArray)=qX [] from rfl,kN];rfl) ?_);have A:=u.drew;have C:=A.m;have D:=B.drew;have f:QR T v ⟨none,0,0⟩={ T with d:=some (qym (v.ps.getD 1 0==1) T.c.Quota 256) }:=by unfold QR;rw [if_neg (by omega),if_neg (by omega),if_neg (by omega),if_pos e]
  have put:∀c:Bool,c=(v.ps.getD 1 0==1)->VX c T.c.Quota w1.drew λav aw w8=>stK ((⟨F.tg,0,none⟩:Addr).add 9) [(.pointer av)] w8 λw9=>zK (some ⟨F.tg,0,none⟩) w9 λax=>K ax:=λc hc=>by
   refine za3 (λU=>absurd aj U) λ_ G ay az=>?_;refine C.sixNew ay az λw4 t4=>?_;rw [hc] at t4;exact s ⟨none,0,0⟩ _ w4 (by rw [f];exact A.trans t4) (by rw [f];show T.n<=_;omega) (by rw [f];exact λk g=>.inl g)
  have Z:=(hv.ps.ext z).drew;have a6:=Z.n;refine lSl (x:=p) (D.cells 5 _ rfl) (cO (λM=>?_) λM=>?_)
  ·have M:=oTq M;have M:1<v.ps.length:=by omega
   refine lSl (x:=p) (D.cells 5 _ rfl) ?_;refine Z.ix (E:=jr) (i:=1) (k:=1) rfl (by decide) (by omega) λa1=>?_;refine lI (x:=v.ps[1]) (by simpa using a1 0 _ rfl) ?_;refine lI (x:=T.c.Quota) (by rw [jU];exact C.blk.cells 5 _ rfl) ?_;exact put _ (by rw [List.getD_eq_getElem?_getD,List.getElem?_eq_getElem M];rfl)
  ·have M:=oFq M;refine lI (x:=T.c.Quota) (by rw [jU];exact C.blk.cells 5 _ rfl) ?_;exact put false (by rw [List.getD_eq_getElem?_getD,List.getElem?_eq_none (by omega)];rfl)
 ·refine cF (l 6 (by omega)) (cT (by rw [e];rfl) ?_);refine lSl (x:=d) (B.cells 6 _ rfl) ?_;have f:QR T v ⟨none,0,0⟩=xP T v.d:=by unfold QR;rw [if_neg (by omega),if_neg (by omega),if_neg (by omega),if_neg (by omega),if_pos e]
  refine q6z u.m (by omega) (hv.ds.ext z) hv.dl (λa L=>⟨λW=>(hv.df a L).1 (.inl W),by have:=(hv.df a L).2;omega⟩) λN y o J=>?_;exact s ⟨none,0,0⟩ _ y (by rw [f];exact u.trans o) (by rw [f,q5l];omega) (by rw [f];exact λk g=>.inl (J k g))
 ·refine cF (l 6 (by omega)) (cF (l 7 (by omega)) (cT (by rw [e];rfl) ?_));refine lI (x:=v.b) (B.cells 2 _ rfl) ?_;have f:∀P,QR T v P=VA T (v.b==1) P:=λP=>by unfold QR;rw [if_neg (by omega),if_neg (by omega),if_neg (by omega),if_neg (by omega),if_neg (by omega),if_pos e]
  refine q51 u.m hn ak (v.b==1) λP N y o J=>?_;exact s P _ y (by rw [f];exact u.trans o) (by rw [f];exact le_trans (q6w T _ P) (by omega)) (by rw [f];exact λk g=>(J k g).imp_right λh=>by omega)
noncomputable def TH2 (base tg pg:Nat):Hnd TS where
 M w S s:=∃F,F.tg=tg/\F.pg=pg/\TermM w base F s/\S=YY F s
 R s v s':=∃P,s'=kR s v P
 ok s v:=EvOk s v
theorem zni (base tg pg:Nat):HndOk (TH2 base tg pg) base (.func (.func qdb) #[.pointer (some ⟨tg,0,none⟩)] #[]) where
 keep:=by
  rintro w j S s X ⟨F,e,f,c,rfl⟩ hc hS hf g;exact ⟨F,e,f,c.keep hc (λk a=>hS k (.inl a)) (λk a=>hS k (.inr a)) hf (qbv c hc g),rfl⟩
 lt:=by
  rintro w S s ⟨F,e,f,c,rfl⟩ k (a | a)
  ·exact c.below k a
  ·obtain ⟨g,o,h⟩:=qzn c.en a;exact ⟨g,h.lt⟩
 call:=by
  rintro w S s v p d K ⟨F,e,f,c,rfl⟩ ok hv hK;subst e;exact q5z c hv ok λP l j t n=>hK j (YY l (kR s v P)) (kR s v P) ⟨l,t.tg,t.pg.trans f,t.m,rfl⟩ ⟨P,rfl⟩ (t.chg.mono λk _ a=>.inl a) λk a=>by
   rcases a with a | a
   ·exact (t.old k a).imp_left .inl
   ·exact (n k a).imp_left .inr
structure TPI (w:World) (base:Nat) (F:TmF) (PF:PF) (p:PS) (T:TS):Prop where
 tm:TermM w base F T
 pm:∃fv,ParsM w base PF p fv
 e:PF.pg=F.pg
 dj:∀k,yl PF k->¬YY F T k
theorem TPM.two {PF:PF} {p:PS} (h:TPM w base F PF p T):TPI w base F PF p T:=⟨h.tm,h.pm,h.e,λk b c=>c.elim (h.dj k b) λd=>by obtain ⟨q,a,_⟩:=d;rw [h.ni] at a;cases a⟩
theorem TPI.ext {PF:PF} {p:PS} (h:TPI w base F PF p T) (hB:Uc w w'):TPI w' base F PF p T:=⟨h.tm.ext hB,by obtain ⟨a,b⟩:=h.pm;exact ⟨a,b.ext hB⟩,h.e,h.dj⟩
theorem TPI.lt {PF:PF} {p:PS} (h:TPI w base F PF p T) {k:Nat} (hk:yl PF k\/YY F T k):base<=k/\k<w.heap.size:=by
 obtain ⟨d,b⟩:=h.pm;rcases hk with hk | hk | hk
 ·exact b.below k hk
 ·exact h.tm.below k hk
 ·obtain ⟨c,e,a⟩:=qzn h.tm.en hk;exact ⟨c,a.lt⟩
theorem TPI.belowB {PF:PF} {p:PS} (h:TPI w base F PF p T) (hc:Chg (λk=>yl PF k\/YY F T k) w w'):Below base w w':=hc.below h.tm.base_le λi b a=>by have:=(h.lt a).1;omega
theorem qwk {PF:PF} {p:PS} (h:TPI w base F PF p T) {q:Slc} {bs:List UInt8} (hq:Rd qo w q bs) (hl:bs.length<=1000000) (hb:∀b∈bs,b.toNat<128) (hqn:∀a,q.a=some a->¬yl PF a.block/\¬YY F T a.block/\a.block<w.heap.size)
  (hok:zQ (TH2 base F.tg F.pg) T (p.eachB bs).2) {K:Ub} (hK:∀F' PF' T' w',TPI w' base F' PF' (p.eachB bs).1 T'->yn (TH2 base F.tg F.pg) T (p.eachB bs).2 T'->F'.tg=F.tg->F'.pg=F.pg->Chg (λk=>yl PF k\/YY F T k) w w'->(∀k,(yl PF' k\/YY F' T' k)->(yl PF k\/YY F T k)\/w.heap.size<=k)->K w'):jQ (some ⟨F.tg,0,none⟩) q w K:=by
 refine qpl _ _ ?_;refine qS (h.tm.blk.cells 8 _ rfl) ?_;rw [<-h.e];obtain ⟨i,j⟩:=h.pm;have l:(TH2 base F.tg F.pg).M w (YY F T) T:=⟨F,rfl,rfl,h.tm,rfl⟩;refine q7h (zni base F.tg F.pg) rfl rfl j l h.dj hq hl hb hqn hok λPF' t T' w' d f m n c o e=>?_;obtain ⟨F',r,g,s,rfl⟩:=f;exact hK F' PF' T' w' ⟨s,⟨_,d⟩,e.trans (h.e.trans g.symm),m⟩ n r g o c
end
def q61 (p:PS) (b:UInt8):PS×List EvP:=if 0<p.runN [b] then (p,[xH (if p.st=6 then 10 else 7) [b]]) else p.step b.toNat
def qvh (p:PS) (b:UInt8):PS:=(q61 p b).1
def Yd (p:PS):List UInt8->PS
 | []=>p
 | b::bs=>Yd (qvh p b) bs
theorem q24 {p:PS} {bs:List UInt8} (h:0<p.runN bs):p.ends=false/\(p.st=5\/p.st=6):=by
 unfold PS.runN at h;split at h
 ·omega
 ·rename_i a;rw [not_or] at a;refine ⟨by simpa using a.1,?_⟩;by_cases h5:p.st=5
  ·exact .inl h5
  ·by_cases h6:p.st=6
   ·exact .inr h6
   ·exact absurd ⟨h5,h6⟩ a.2
theorem que {p:PS} (hp:p.ends=false/\(p.st=5\/p.st=6)) {b:UInt8} (hb:JD b.toNat=false):q61 p b=(p,[xH (if p.st=6 then 10 else 7) [b]]):=by
 unfold q61;rw [if_pos];unfold PS.runN;rw [if_neg (by rintro (h | h);rw [hp.1] at h;cases h;omega)];simp [hb]
section
variable {σ:Type} {H:Hnd σ}
def Xu (H:Hnd σ):PS->σ->List UInt8->σ->Prop
 | _,s,[],s'=>s'=s
 | p,s,b::bs,s'=>∃m,yn H s (q61 p b).2 m/\Xu H (qvh p b) m bs s'
def vo (H:Hnd σ):PS->σ->List UInt8->Prop
 | _,_,[]=>True
 | p,s,b::bs=>zQ H s (q61 p b).2/\∀m,yn H s (q61 p b).2 m->vo H (qvh p b) m bs
theorem Xu.append:∀{a b:List UInt8} {p:PS} {s m s':σ},Xu H p s a m->Xu H (Yd p a) m b s'->Xu H p s (a++b) s'
 | [],b,p,s,m,s',h,h2=>by cases h;exact h2
 | e::a,b,p,s,m,s',⟨x,h1,h⟩,h2=>⟨x,h1,Xu.append h h2⟩
theorem vo.append:∀{a b:List UInt8} {p:PS} {s:σ},vo H p s (a++b)->vo H p s a/\∀m,Xu H p s a m->vo H (Yd p a) m b
 | [],b,p,s,h=>⟨trivial,λm c=>by cases c;exact h⟩
 | e::a,b,p,s,⟨h1,h2⟩=>⟨⟨h1,λm c=>(vo.append (h2 m c)).1⟩,λm c=>by
   obtain ⟨x,d,c⟩:=c;exact (vo.append (h2 x d)).2 m c⟩
theorem zQ.append:∀{a b:List EvP} {s:σ},zQ H s a->(∀m,yn H s a m->zQ H m b)->zQ H s (a++b)
 | [],b,s,h,h2=>h2 s rfl
 | e::a,b,s,⟨h1,h⟩,h2=>⟨h1,λm d=>zQ.append (h m d) λf c=>h2 f ⟨m,d,c⟩⟩
structure Pieces (H:Hnd σ):Prop where
 cut:∀{s m:σ} {k:Int} {b:UInt8} {d:List UInt8},(k=10\/k=7)->d≠[]->(H.R s (xH k (b::d)) m↔∃x,H.R s (xH k [b]) x/\H.R x (xH k d) m)
 ok:∀{s:σ} {k:Int} {b:UInt8} {d:List UInt8},(k=10\/k=7)->d≠[]->(H.ok s (xH k (b::d))↔H.ok s (xH k [b])/\∀x,H.R s (xH k [b]) x->H.ok x (xH k d))
theorem qcj (hH:Pieces H) {p:PS} (hp:p.ends=false/\(p.st=5\/p.st=6)):∀{d:List UInt8} {s m:σ},d≠[]->(∀b∈d,JD b.toNat=false)->(H.R s (xH (if p.st=6 then 10 else 7) d) m↔Xu H p s d m)
 | [],_,_,h,_=>absurd rfl h
 | [b],s,m,_,hb=>by
  have e:=que hp (hb b mem_cons_self);constructor
  ·intro i;refine ⟨m,?_,rfl⟩;rw [e];exact ⟨m,i,rfl⟩
  ·rintro ⟨x,a,rfl⟩;rw [e] at a;obtain ⟨y,a,rfl⟩:=a;exact a
 | b::c::d,s,m,_,hb=>by
  have j:(if p.st=6 then (10:Int) else 7)=10\/(if p.st=6 then (10:Int) else 7)=7:=by split<;>simp
  have e:=que hp (hb b mem_cons_self);have g:=λ{x m}=>qcj hH hp (s:=x) (m:=m) (List.cons_ne_nil c d) (λy k=>hb y (mem_cons_of_mem _ k));rw [hH.cut j (List.cons_ne_nil c d)];constructor
  ·rintro ⟨x,a,f⟩;refine ⟨x,?_,?_⟩
   ·rw [e];exact ⟨x,a,rfl⟩
   ·unfold qvh;rw [e];exact g.1 f
  ·rintro ⟨x,a,f⟩;unfold qvh at f;rw [e] at a f;obtain ⟨y,a,rfl⟩:=a;exact ⟨_,a,g.2 f⟩
theorem qwy {p:PS} (hp:p.ends=false/\(p.st=5\/p.st=6)):∀{d:List UInt8},(∀b∈d,JD b.toNat=false)->Yd p d=p
 | [],_=>rfl
 | b::d,hb=>by
  show Yd (qvh p b) d=p;unfold qvh;rw [que hp (hb b mem_cons_self)];exact qwy hp λy a=>hb y (mem_cons_of_mem _ a)
theorem q4v (hH:Pieces H) {p:PS} (hp:p.ends=false/\(p.st=5\/p.st=6)):∀{d:List UInt8} {s:σ},d≠[]->(∀b∈d,JD b.toNat=false)->(vo H p s d↔H.ok s (xH (if p.st=6 then 10 else 7) d))
 | [],_,h,_=>absurd rfl h
 | [b],s,_,hb=>by
  have e:=que hp (hb b mem_cons_self);constructor
  ·intro j;have a:=j.1;rw [e] at a;exact a.1
  ·intro h;refine ⟨?_,λm f=>trivial⟩;rw [e];exact ⟨h,λm f=>trivial⟩
 | b::c::d,s,_,hb=>by
  have k:(if p.st=6 then (10:Int) else 7)=10\/(if p.st=6 then (10:Int) else 7)=7:=by split<;>simp
  have e:=que hp (hb b mem_cons_self);have i:=λ{x}=>q4v hH hp (s:=x) (List.cons_ne_nil c d) (λy l=>hb y (mem_cons_of_mem _ l));rw [hH.ok k (List.cons_ne_nil c d)];constructor
  ·rintro ⟨a,g⟩;unfold qvh at g;rw [e] at a g;exact ⟨a.1,λx n=>i.1 (g x ⟨x,n,rfl⟩)⟩
  ·rintro ⟨a,g⟩;refine ⟨?_,λm f=>?_⟩
   ·rw [e];exact ⟨a,λm f=>trivial⟩
   ·unfold qvh;rw [e] at f ⊢;obtain ⟨y,f,rfl⟩:=f;exact i.2 (g _ f)
theorem qcf {p:PS} {bs:List UInt8}:∀b∈bs.take (p.runN bs),JD b.toNat=false:=by
 intro b a;unfold PS.runN at a;split at a
 ·cases a
 ·have e:bs.take (bs.takeWhile λb=>!JD b.toNat).length=bs.takeWhile λb=>!JD b.toNat:=by
   have:=List.takeWhile_append_dropWhile (p:=λb:UInt8=>!JD b.toNat) (l:=bs)
   conv=>lhs;arg 2;rw [<-this]
   exact List.take_left
  rw [e] at a;have:=all_eq_true.1 (List.all_takeWhile) b a;simpa using this
theorem Xu.split:∀{a b:List UInt8} {p:PS} {s s':σ},Xu H p s (a++b) s'->∃m,Xu H p s a m/\Xu H (Yd p a) m b s'
 | [],b,p,s,s',h=>⟨s,rfl,h⟩
 | e::a,b,p,s,s',⟨x,h1,h⟩=>by
  obtain ⟨m,c,d⟩:=Xu.split h;exact ⟨m,⟨x,h1,c⟩,d⟩
theorem vo.join:∀{a b:List UInt8} {p:PS} {s:σ},vo H p s a->(∀m,Xu H p s a m->vo H (Yd p a) m b)->vo H p s (a++b)
 | [],b,p,s,_,h=>h s rfl
 | e::a,b,p,s,⟨h1,h2⟩,h=>⟨h1,λm c=>vo.join (h2 m c) λx d=>h x ⟨m,c,d⟩⟩
theorem zQ.split:∀{a b:List EvP} {s:σ},zQ H s (a++b)->zQ H s a/\∀m,yn H s a m->zQ H m b
 | [],b,s,h=>⟨trivial,λm c=>by cases c;exact h⟩
 | e::a,b,s,⟨h1,h⟩=>⟨⟨h1,λm c=>(zQ.split (h m c)).1⟩,λm c=>by
   obtain ⟨x,d,c⟩:=c;exact (zQ.split (h x d)).2 m c⟩
theorem qby:∀(a c:List UInt8) (q:PS),Yd q (a++c)=Yd (Yd q a) c
 | [],c,q=>rfl
 | y::a,c,q=>qby a c (qvh q y)
theorem zfw {p:PS} {b:UInt8} {bs:List UInt8} (h:¬0<p.runN (b::bs)):q61 p b=p.step b.toNat:=by
 have c:¬0<p.runN [b]:=by
  intro a;obtain ⟨d,g⟩:=q24 a;apply h;unfold PS.runN at a ⊢;have e:¬(p.ends=true\/p.st≠5/\p.st≠6):=by rintro (h | h);rw [d] at h;cases h;omega
  rw [if_neg e] at a ⊢;rw [List.takeWhile_cons] at a ⊢;split at a
  ·rename_i f;rw [if_pos f];simp
  ·simp at a
 unfold q61;rw [if_neg c]
theorem qdh (hH:Pieces H):∀(n:Nat) {bs:List UInt8} {p:PS},bs.length<=n->(∀s s',yn H s (p.eachB bs).2 s'↔Xu H p s bs s')/\(∀s,zQ H s (p.eachB bs).2↔vo H p s bs)/\(p.eachB bs).1=Yd p bs
 | 0,bs,p,l=>by
  obtain rfl:=List.eq_nil_of_length_eq_zero (by omega:bs.length=0);exact ⟨λs s'=>Iff.rfl,λs=>Iff.rfl,rfl⟩
 | n+1,[],p,l=>⟨λs s'=>Iff.rfl,λs=>Iff.rfl,rfl⟩
 | n+1,b::bs,p,l=>by
  have l:bs.length<=n:=by simpa using l
  by_cases h:0<p.runN (b::bs)
  ·have i:=q24 h;have c:(b::bs).take (p.runN (b::bs))≠[]:=λe=>by
    have:=congrArg List.length e;simp at this;omega
   obtain ⟨o,q,u⟩:=qdh hH n (bs:=(b::bs).drop (p.runN (b::bs))) (p:=p) (by rw [List.length_drop];omega);have r:=qwy i (qcf (p:=p) (bs:=b::bs));have a:=List.take_append_drop (p.runN (b::bs)) (b::bs);rw [PS.eachB_run h];refine ⟨λs s'=>?_,λs=>?_,?_⟩
   ·conv=>rhs;rw [<-a]
    constructor
    ·rintro ⟨x,f,d⟩;exact ((qcj hH i c qcf).1 f).append (by rw [r];exact (o x s').1 d)
    ·intro w;obtain ⟨x,f,d⟩:=w.split;rw [r] at d;exact ⟨x,(qcj hH i c qcf).2 f,(o x s').2 d⟩
   ·conv=>rhs;rw [<-a]
    constructor
    ·rintro ⟨f,d⟩;refine ((q4v hH i c qcf).2 f).join λm g=>?_;rw [r];exact (q m).1 (d m ((qcj hH i c qcf).2 g))
    ·intro v;obtain ⟨k,j⟩:=v.append;refine ⟨(q4v hH i c qcf).1 k,λm g=>?_⟩;have:=j m ((qcj hH i c qcf).1 g);rw [r] at this;exact (q m).2 this
   ·rw [u]
    conv=>rhs;rw [<-a]
    rw [qby,r]
  ·have e:=zfw h;obtain ⟨o,q,u⟩:=qdh hH n (bs:=bs) l;have t:qvh p b=(p.step b.toNat).1:=by unfold qvh;rw [e]
   rw [PS.eachB_step h];refine ⟨λs s'=>?_,λs=>?_,?_⟩
   ·constructor
    ·intro y;obtain ⟨x,f,d⟩:=yn.split y;exact ⟨x,by rw [e];exact f,by rw [t];exact (o x s').1 d⟩
    ·rintro ⟨x,f,d⟩;rw [e] at f;rw [t] at d;exact yn.append f ((o x s').2 d)
   ·constructor
    ·intro v;obtain ⟨k,j⟩:=zQ.split v;refine ⟨by rw [e];exact k,λm g=>?_⟩;rw [e] at g;rw [t];exact (q m).1 (j m g)
    ·rintro ⟨k,j⟩;rw [e] at k j;rw [t] at j;exact k.append λm g=>(q m).2 (j m g)
   ·show (PS.eachB _ bs).1=Yd (qvh p b) bs;rw [u,t]
end
def qwr (T:TS) (a b:Int):TS:={ T with f0:=a,f1:=b }
theorem q3l:∀ids,qsq [] ids=[]
 | []=>rfl
 | i::r=>q3l r
theorem zfj (T:TS) (a b:Int) (x:UInt8):yk (qwr T a b) x=qwr (yk T x) a b:=by
 obtain ⟨c,S,E,n,d,f,e,g,h,i⟩:=T;cases d with
 | none=>rfl
 | some D =>
  unfold yk qmx jo qwr;dsimp only
  repeat' split
  all_goals first | rfl | contradiction
theorem q2k (a b:Int):∀(d:List UInt8) (T:TS),xP (qwr T a b) d=qwr (xP T d) a b
 | [],T=>rfl
 | x::d,T=>by
  show xP (yk (qwr T a b) x) d=qwr (xP (yk T x) d) a b;rw [zfj];exact q2k a b d _
theorem zfm (T:TS) (d:List UInt8):Zw (xP (Zw T) d)=Zw (xP T d):=by
 have e:Zw T=qwr T (XR T.S) T.S.g1.top:=rfl;rw [e,q2k];rfl
theorem qx7 (d:List UInt8) (T:TS):(xP T d).S=T.S/\(xP T d).f0=T.f0/\(xP T d).f1=T.f1/\(xP T d).rep=T.rep/\(T.E.T=[]->(xP T d).E.T=[]):=by
 have one:∀(T:TS) x,(yk T x).S=T.S/\(yk T x).f0=T.f0/\(yk T x).f1=T.f1/\(yk T x).rep=T.rep/\(T.E.T=[]->(yk T x).E.T=[]):=λT x=>by
  have hr:∀(E:KE) n,E.T=[]->(E.reserve n).1.T=[]:=λE n h=>by
   unfold KE.reserve
   repeat' split
   all_goals first | exact h | (dsimp only;rw [h];exact q3l _)
  obtain ⟨c,S,E,n,d,cmd,long,rep,f0,f1⟩:=T;cases d with
  | none=>exact ⟨rfl,rfl,rfl,rfl,id⟩
  | some D =>
   unfold yk qmx jo
   repeat' split
   all_goals first | exact ⟨rfl,rfl,rfl,rfl,λh=>hr _ _ (hr _ _ h)⟩ | exact ⟨rfl,rfl,rfl,rfl,λh=>hr _ _ h⟩ | exact ⟨rfl,rfl,rfl,rfl,id⟩
 induction d generalizing T with
 | nil=>exact ⟨rfl,rfl,rfl,rfl,id⟩
 | cons x d ih =>
  obtain ⟨a1,a2,a3,a4,a5⟩:=one T x;obtain ⟨b1,b2,b3,b4,b5⟩:=ih (yk T x);exact ⟨b1.trans a1,b2.trans a2,b3.trans a3,b4.trans a4,λh=>b5 (a5 h)⟩
theorem q10 (T:TS) (d:List UInt8) (P:Slc):QR T (xH 10 d) P={ T with cmd:=T.cmd++d }:=by
 unfold QR;have e:(xH 10 d).k=10:=rfl;rfl
theorem q7 (T:TS) (d:List UInt8) (P:Slc):QR T (xH 7 d) P=xP T d:=by
 unfold QR;have e:(xH 7 d).k=7:=rfl;rfl
theorem znt {s:TS} {d:List UInt8} (h:zma s (xH 10 d)):s.long=false/\s.cmd.length+d.length<=6000:=by
 rcases h with e | ⟨_,e⟩ | ⟨e,_⟩ | ⟨e,_⟩ | ⟨e,_⟩ | ⟨e,_⟩ | ⟨e,_⟩
 ·exact absurd e (by show ¬(10:Int)=9;decide)
 ·exact e
 ·exact absurd e (by show ¬(10:Int)=11;decide)
 ·exact absurd e (by show ¬((10:Int)=1\/(10:Int)=4);decide)
 ·exact absurd e (by show ¬(10:Int)=6;decide)
 ·exact absurd e (by show ¬(10:Int)=7;decide)
 ·exact absurd e (by show ¬(10:Int)=8;decide)
theorem go7 {s:TS} {d:List UInt8} (h:zma s (xH 7 d)):XR s.S=s.f0/\s.S.g1.top=s.f1:=by
 rcases h with e | ⟨e,_⟩ | ⟨e,_⟩ | ⟨e,_⟩ | ⟨e,_⟩ | ⟨_,e⟩ | ⟨e,_⟩
 ·exact absurd e (by show ¬(7:Int)=9;decide)
 ·exact absurd e (by show ¬(7:Int)=10;decide)
 ·exact absurd e (by show ¬(7:Int)=11;decide)
 ·exact absurd e (by show ¬((7:Int)=1\/(7:Int)=4);decide)
 ·exact absurd e (by show ¬(7:Int)=6;decide)
 ·exact e
 ·exact absurd e (by show ¬(7:Int)=8;decide)
theorem ok7 {s:TS} {d:List UInt8} (h:XR s.S=s.f0/\s.S.g1.top=s.f1) (ha:s.S.areas=[]) (hr:s.rep.length<=1000000) (hn:s.n<=880):EvOk s (xH 7 d):=by
 obtain ⟨a,b,c,e,f⟩:=qx7 d s;refine ⟨.inr (.inr (.inr (.inr (.inr (.inl ⟨rfl,h⟩))))),λP=>?_,hr,λP=>?_,hn⟩
 ·rw [q7];exact ⟨by rw [a];exact ha,.inl (by rw [a,b,c];exact h)⟩
 ·rw [q7,e];omega
theorem zm6 {s:TS} {d:List UInt8} (h:s.long=false/\s.cmd.length+d.length<=6000) (hc:Calm s) (hr:s.rep.length<=1000000) (hn:s.n<=880):EvOk s (xH 10 d) :=
 ⟨.inr (.inl ⟨rfl,h⟩),λP=>by rw [q10];exact ⟨hc.ar,hc.st⟩,hr,λP=>by rw [q10];show s.rep.length<=_;omega,hn⟩
theorem qr9 (base tg pg:Nat):Pieces (TH2 base tg pg) where
 cut:=by
  have f:∀(s:TS) b d P,kR s (xH 10 (b::d)) P=kR (kR s (xH 10 [b]) P) (xH 10 d) P:=λs b d P=>by
   unfold kR;rw [q10,q10,q10];unfold Zw;simp only [List.append_assoc,List.singleton_append]
  have r:∀(s:TS) b d P,kR s (xH 7 (b::d)) P=kR (kR s (xH 7 [b]) P) (xH 7 d) P:=λs b d P=>by
   unfold kR;rw [q7,q7,q7,zfm];rfl
  have j:∀(s:TS) d P c,kR s (xH 10 d) P=kR s (xH 10 d) c:=λs d P c=>by unfold kR;rw [q10,q10]
  have t:∀(s:TS) d P c,kR s (xH 7 d) P=kR s (xH 7 d) c:=λs d P c=>by unfold kR;rw [q7,q7]
  rintro s m k b d (rfl | rfl) hd
  ·constructor
   ·rintro ⟨P,e⟩;exact ⟨kR s (xH 10 [b]) P,⟨P,rfl⟩,P,e.trans (f s b d P)⟩
   ·rintro ⟨x,⟨P,l⟩,c,e⟩;exact ⟨P,e.trans (by rw [l];exact (j (kR s (xH 10 [b]) P) d c P).trans (f s b d P).symm)⟩
  ·constructor
   ·rintro ⟨P,e⟩;exact ⟨kR s (xH 7 [b]) P,⟨P,rfl⟩,P,e.trans (r s b d P)⟩
   ·rintro ⟨x,⟨P,l⟩,c,e⟩;exact ⟨P,e.trans (by rw [l];exact (t (kR s (xH 7 [b]) P) d c P).trans (r s b d P).symm)⟩
 ok:=by
  rintro s k b d (rfl | rfl) hd
  ·constructor
   ·intro h;obtain ⟨i,o⟩:=znt h.go;have o:s.cmd.length+(d.length+1)<=6000:=o;have a:=h.calm ⟨none,0,0⟩;refine ⟨zm6 ⟨i,by show s.cmd.length+1<=6000;omega⟩ ⟨a.ar,a.st⟩ h.rl h.n,?_⟩;rintro x ⟨P,rfl⟩;unfold kR;rw [q10];exact zm6 ⟨i,by show (s.cmd++[b]).length+d.length<=6000;rw [length_append,List.length_singleton];omega⟩ ⟨a.ar,.inl ⟨rfl,rfl⟩⟩ h.rl h.n
   ·rintro ⟨h,p⟩;have p:=p _ ⟨⟨none,0,0⟩,rfl⟩;obtain ⟨i,o⟩:=znt h.go;obtain ⟨w,g⟩:=znt p.go;unfold kR at g;have g:(s.cmd++[b]).length+d.length<=6000:=g;rw [length_append,List.length_singleton] at g;have a:=h.calm ⟨none,0,0⟩;exact zm6 ⟨i,by show s.cmd.length+(d.length+1)<=6000;omega⟩ ⟨a.ar,a.st⟩ h.rl h.n
  ·have q:∀d,EvOk s (xH 7 d)->s.S.areas=[]:=λd h=>by
    have a:=(h.calm ⟨none,0,0⟩).ar;rw [q7,(qx7 d s).1] at a;exact a
   constructor
   ·intro h;refine ⟨ok7 (go7 h.go) (q _ h) h.rl h.n,?_⟩;rintro x ⟨P,rfl⟩;unfold kR;rw [q7];obtain ⟨u,y,z,v,A⟩:=qx7 [b] s;exact ok7 ⟨rfl,rfl⟩ (by show (xP s [b]).S.areas=[];rw [u];exact q _ h) (by show (xP s [b]).rep.length<=_;rw [v];exact h.rl) (by show (xP s [b]).n<=_;rw [q5l];exact h.n)
   ·rintro ⟨h,_⟩;exact ok7 (go7 h.go) (q _ h) h.rl h.n
section
variable {w w':World} {base:Nat} {F F':TmF} {T T':TS}
theorem q6m {PF:PF} {p:PS} (h:TPI w base F PF p T) {q:Slc} {bs:List UInt8} (hq:Rd qo w q bs) (hl:bs.length<=1000000) (hb:∀b∈bs,b.toNat<128) (hqn:∀a,q.a=some a->¬yl PF a.block/\¬YY F T a.block/\a.block<w.heap.size)
  (hok:vo (TH2 base F.tg F.pg) p T bs) {K:Ub} (hK:∀F' PF' T' w',TPI w' base F' PF' (Yd p bs) T'->Xu (TH2 base F.tg F.pg) p T bs T'->F'.tg=F.tg->F'.pg=F.pg->Chg (λk=>yl PF k\/YY F T k) w w'->(∀k,(yl PF' k\/YY F' T' k)->(yl PF k\/YY F T k)\/w.heap.size<=k)->K w'):jQ (some ⟨F.tg,0,none⟩) q w K:=by
 obtain ⟨d,f,g⟩:=qdh (qr9 base F.tg F.pg) bs.length (le_refl _);refine qwk h hq hl hb hqn ((f T).2 hok) λF' PF' T' w' c i e j l m=>?_;rw [g] at c;exact hK F' PF' T' w' c ((d T T').1 i) e j l m
end
def qin:Nat->Nat->List UInt8
 | 0,_=>[]
 | f+1,n=>if n<10 then [UInt8.ofNat (48+n)] else qin f (n/10)++[UInt8.ofNat (48+n%10)]
def q96 (w h c y:Nat):List UInt8:=(List.range w).map λ_=>UInt8.ofNat (63+if c=0 then ((List.range 6).map λk=>if y+k<h then 2^k else 0).sum else 0)
def zd7 (w h y c:Nat):List UInt8:=35::qin 9 c++[59,50,59]++qin 9 (10+30*c)++[59]++qin 9 (100-c)++[59]++qin 9 c++q96 w h c y++[36]
def zkg (w h y:Nat):List UInt8:=zd7 w h y 0++zd7 w h y 1++zd7 w h y 2++zd7 w h y 3++[45]
def zcs (w h:Nat):List UInt8:=[34,49,59,49,59]++qin 9 w++[59]++qin 9 h++zkg w h 0++if 6<h then zkg w h 6 else []
def cm1:List UInt8:=[71,97,61,84,44,102,61,50,52,44,115,61,50,44,118,61,49,44,105,61,53,44,109,61,49,44,67,61,49,59,65,81,73,68]
def cm2:List UInt8:=[71,109,61,48,59,66,65,85,71]
def qrw (w h:Nat):List UInt8:=[27,91,63,50,53,108]++[27,95]++cm1++[27,92]++[27,80,48,59,49,113]++zcs w h++[27,92]++[27,95]++cm2++[27,92]
def q40 (w h:Nat):List EvP:=[⟨4,0,108,63,[],[25],[]⟩,evK 9 0,xH 10 cm1,evK 11 1,⟨6,0,113,0,[],[0,1],[]⟩,xH 7 (zcs w h),evK 8 1,evK 9 0,xH 10 cm2,evK 11 1]
def c9:qY:=⟨9,9,2,2,4,1024⟩
noncomputable def q4u:(Nat->Slc)->TS->List EvP->TS
 | _,T,[]=>T
 | f,T,v::vs=>q4u (λn=>f (n+1)) (kR T v (f 0)) vs
def f0P:Nat->Slc:=λ_=>⟨none,0,0⟩
noncomputable def qze (f:Nat->Slc) (i:Nat):TS:=q4u f (yj c9) (q40 (1+i/8) (1+i%8))
theorem znc:(List.range 64).map (λi=>(ps0.eachB (qrw (1+i/8) (1+i%8))).2)=(List.range 64).map (λi=>q40 (1+i/8) (1+i%8)):=by kernel_rfl
theorem zlu:∀f,(List.range 64).map (λi=>(qze f i).rep)=(List.range 64).map λ_=>[27,95,71,105,61,53,59,79,75,27,92]:=λf=>by kernel_rfl
def zil (T:TS):Bool:=T.S.areas.isEmpty && (decide (XR T.S=T.f0) && decide (T.S.g1.top=T.f1))
def zju (l:List Int):Bool:=l.all λx=>decide (-9223372036854775808<=x) && decide (x<=9223372036854775807)
noncomputable def ldB (E:KE) (n:Nat):Bool:=match E.ld with
 | none=>true
 | some (_,s)=>!s.over && (decide (qft s+3*n<=120000) && zju (toL E.first))
noncomputable def goB (T:TS) (v:EvP):Bool :=
 if v.k=9 then true
 else if v.k=10 then !T.long && decide (T.cmd.length+v.d.length<=6000)
 else if v.k=11 then decide (v.b=1) && (!T.long && ((T.cmd==cm1 || T.cmd==cm2) && (ldB T.E 100 && decide (T.E.quota<=100000))))
 else if v.k=7 then decide (XR T.S=T.f0) && decide (T.S.g1.top=T.f1)
 else if v.k=8 then decide (T.S.areas.length<=1000)
 else if v.k=6 then decide (0<=T.c.Quota) && decide (T.c.Quota<=1073741824)
 else true
noncomputable def zgv:(Nat->Slc)->TS->List EvP->Bool
 | _,_,[]=>true
 | f,T,v::vs=>goB T v && (zil (QR T v (f 0)) && (decide (T.rep.length<=1000000) && (decide ((QR T v (f 0)).rep.length<=2000000) && (decide (T.n<=880) && zgv (λn=>f (n+1)) (kR T v (f 0)) vs))))
def EvS (v:EvP):Prop:=v.k=9\/v.k=10\/v.k=11\/(v.k=4/\zm0 (q1s v))\/(v.k=6/\v.b=113/\v.pv=0/\v.i=[])\/v.k=7\/v.k=8
theorem zm8:CmdOk cm1.tail:=⟨by kernel_rfl,⟨by rw [show (Jd cm1.tail).Format=24 by kernel_rfl];decide,by rw [show (Jd cm1.tail).Zip=0 by kernel_rfl];decide⟩,.inr (.inl (by kernel_rfl))⟩
theorem zm7:CmdOk cm2.tail:=⟨by kernel_rfl,⟨by rw [show (Jd cm2.tail).Format=32 by kernel_rfl];decide,by rw [show (Jd cm2.tail).Zip=0 by kernel_rfl];decide⟩,.inl (by kernel_rfl)⟩
theorem zkt {l:List Int} (h:zju l=true):YW l:=by
 intro i;unfold zju at h;rw [all_eq_true] at h;cases hx:l[i]? with
 | none=>simp
 | some x =>
  have:=h x (List.mem_of_getElem? hx);simp only [Bool.and_eq_true,decide_eq_true_eq] at this;exact this
theorem zm4 {T:TS} {v:EvP} (hs:EvS v) (h:goB T v=true):zma T v:=by
 unfold goB at h;rcases hs with e | e | e | ⟨e,f⟩ | ⟨e,c⟩ | e | e
 ·exact .inl e
 ·rw [if_neg (by omega),if_pos e] at h;simp only [Bool.and_eq_true,Bool.not_eq_true',decide_eq_true_eq] at h;exact .inr (.inl ⟨e,h⟩)
 ·rw [if_neg (by omega),if_neg (by omega),if_pos e] at h;simp only [Bool.and_eq_true,Bool.not_eq_true',decide_eq_true_eq,Bool.or_eq_true,beq_iff_eq] at h;obtain ⟨g,i,a,b,j⟩:=h;have d:∀n,n<=100->∀C s,T.E.ld=some (C,s)->s.over=false/\qft s+3*n<=120000/\YW (toL T.E.first):=λn l C s k=>by
   unfold ldB at b;rw [k] at b;simp only [Bool.and_eq_true,Bool.not_eq_true',decide_eq_true_eq] at b;exact ⟨b.1,by omega,zkt b.2.2⟩
  refine .inr (.inr (.inl ⟨e,g,i,?_,j⟩));rcases a with a | a
  ·exact ⟨cm1.tail,a,zm8,d _ (by decide),by decide⟩
  ·exact ⟨cm2.tail,a,zm7,d _ (by decide),by decide⟩
 ·exact .inr (.inr (.inr (.inl ⟨.inr e,f⟩)))
 ·rw [if_neg (by omega),if_neg (by omega),if_neg (by omega),if_neg (by omega),if_neg (by omega),if_pos e] at h;simp only [Bool.and_eq_true,decide_eq_true_eq] at h;exact .inr (.inr (.inr (.inr (.inl ⟨e,c.1,c.2.1,c.2.2,h⟩))))
 ·rw [if_neg (by omega),if_neg (by omega),if_neg (by omega),if_pos e] at h;simp only [Bool.and_eq_true,decide_eq_true_eq] at h;exact .inr (.inr (.inr (.inr (.inr (.inl ⟨e,h⟩)))))
 ·rw [if_neg (by omega),if_neg (by omega),if_neg (by omega),if_neg (by omega),if_pos e] at h;exact .inr (.inr (.inr (.inr (.inr (.inr ⟨e,oTq h⟩)))))
theorem q39 {b tg pg:Nat}:∀{es:List EvP} {T:TS},(∀v∈es,EvS v)->(∀f,zgv f T es=true)->zQ (TH2 b tg pg) T es
 | [],T,_,_=>trivial
 | v::vs,T,hs,h=>by
  have a:=λf=>by
   have:=h f;unfold zgv at this;simp only [Bool.and_eq_true,decide_eq_true_eq] at this;exact this
  have c:=a f0P;refine ⟨⟨zm4 (hs v mem_cons_self) c.1,λP=>?_,c.2.2.1,λP=>(a λ_=>P).2.2.2.1,c.2.2.2.2.1⟩,?_⟩
  ·have:=(a λ_=>P).2.1;unfold zil at this;simp only [Bool.and_eq_true,decide_eq_true_eq,List.isEmpty_iff] at this;exact ⟨this.1,.inl this.2⟩
  ·rintro m ⟨P,rfl⟩;exact q39 (λx d=>hs x (mem_cons_of_mem _ d)) λf=>(a λn=>match n with | 0=>P | n+1=>f n).2.2.2.2.2
theorem zhg {b tg pg:Nat}:∀{es:List EvP} {T T':TS},yn (TH2 b tg pg) T es T'->∃f,T'=q4u f T es
 | [],T,T',h=>⟨f0P,h⟩
 | v::vs,T,T',h=>by
  obtain ⟨m,⟨P,rfl⟩,h⟩:=h;obtain ⟨f,rfl⟩:=zhg h;exact ⟨λn=>match n with | 0=>P | n+1=>f n,rfl⟩
theorem zmz (w h:Nat):∀v∈q40 w h,EvS v:=by
 intro v a;unfold q40 at a;simp only [List.mem_cons,List.not_mem_nil,or_false] at a;rcases a with rfl | rfl | rfl | rfl | rfl | rfl | rfl | rfl | rfl | rfl
 ·exact .inr (.inr (.inr (.inl ⟨rfl,.inr ⟨rfl,.inl ⟨rfl,rfl,rfl,rfl,rfl⟩⟩⟩)))
 ·exact .inl rfl
 ·exact .inr (.inl rfl)
 ·exact .inr (.inr (.inl rfl))
 ·exact .inr (.inr (.inr (.inr (.inl ⟨rfl,rfl,rfl,rfl⟩))))
 ·exact .inr (.inr (.inr (.inr (.inr (.inl rfl)))))
 ·exact .inr (.inr (.inr (.inr (.inr (.inr rfl)))))
 ·exact .inl rfl
 ·exact .inr (.inl rfl)
 ·exact .inr (.inr (.inl rfl))
theorem zmg:∀f,(List.range 64).all (λi=>zgv f (yj c9) (q40 (1+i/8) (1+i%8)))=true:=λf=>by kernel_rfl
theorem zk3 {b tg pg i:Nat} (hi:i<64):zQ (TH2 b tg pg) (yj c9) (q40 (1+i/8) (1+i%8)) :=
 q39 (zmz _ _) λf=>all_eq_true.1 (zmg f) i (mem_range.2 hi)
def plI (p:qm):List Int:=[p.Image,p.Id,(if p.Alt then 1 else 0),p.Line,p.Col,p.Rows,p.Cols,p.X,p.Y,p.W,p.H,p.DX,p.DY,p.Z]
def imI (q:Int×Im):List Int:=[q.1,q.2.v.m.W,q.2.v.m.H,q.2.v.stamp]++q.2.bs.map λb=>(b.toNat:Int)
theorem zku:∀{p q:qm},plI p=plI q->p=q:=by
 rintro ⟨u,v,a,w,x,y,z,A,B,C,D,E,F,G⟩ ⟨H,I,b,J,K,L,M,N,c9,O,P,Q,R,S⟩ h;unfold plI at h;simp only [List.cons.injEq,and_true] at h;obtain ⟨d,e,c,f,g,i,j,k,l,m,n,o,r,s⟩:=h;have t:a=b:=by cases a<;>cases b<;>simp at c ⊢
 subst d e t f g i j k l m n o r s;rfl
def ze7 (w h:Nat):qm:=⟨1099511627776,0,false,0,0,((h+1)/2:Nat),((w+1)/2:Nat),0,0,w,h,0,0,0⟩
def ze0 (h:Nat):qm:=⟨5,0,false,((h+1)/2:Nat),0,1,1,0,0,2,1,0,0,0⟩
def px4:List Int:=[26,255,0,255]
def zks (w h:Nat):List Int:=[1099511627776,(w:Int),(h:Int),1]++(List.replicate (w*h) px4).flatten
theorem zns:∀f,(List.range 64).all (λi=>(qze f i).E.T.map plI==[plI (ze7 (1+i/8) (1+i%8)),plI (ze0 (1+i%8))])=true:=λf=>by kernel_rfl
theorem znf:∀f,(List.range 64).all (λi=>(qze f i).E.S.L.map imI==[[5,2,1,2,1,2,3,255,4,5,6,255],zks (1+i/8) (1+i%8)])=true:=λf=>by kernel_rfl
theorem zoh {f:Nat->Slc} {i:Nat} (hi:i<64):(qze f i).E.T=[ze7 (1+i/8) (1+i%8),ze0 (1+i%8)]:=by
 have h:=eq_of_beq (all_eq_true.1 (zns f) i (mem_range.2 hi));have d:∀{a b:List qm},a.map plI=b.map plI->a=b:=λ{a}=>by
  induction a with
  | nil=>intro b c;cases b with | nil=>rfl | cons _ _=>simp at c
  | cons x g e =>
   intro b c;cases b with
   | nil=>simp at c
   | cons y j =>
    simp only [List.map_cons,List.cons.injEq] at c;rw [zku c.1,e c.2]
 exact d h
theorem zoo {f:Nat->Slc} {i:Nat} (hi:i<64):(qze f i).E.S.L.map imI=[[5,2,1,2,1,2,3,255,4,5,6,255],zks (1+i/8) (1+i%8)] :=
 eq_of_beq (all_eq_true.1 (znf f) i (mem_range.2 hi))
section
variable {w w':World}
def Xy (x:Int):Prop:=0<=x/\x<=255
def zmc (s:qt):Nat->List Value
 | 0=>[(.int .u8 0),(.int .u8 0),(.int .u8 0),(.int .u8 255)]
 | 1=>[(.int .u8 s.e0),(.int .u8 0),(.int .u8 0),(.int .u8 255)]
 | 2=>[(.int .u8 s.e0),(.int .u8 s.e1),(.int .u8 0),(.int .u8 255)]
 | _=>[(.int .u8 s.e0),(.int .u8 s.e1),(.int .u8 s.e2),(.int .u8 255)]
theorem zia (s:qt):∀k,(zmc s k).length=4
 | 0=>rfl
 | 1=>rfl
 | 2=>rfl
 | _+3=>rfl
theorem qyg {a n side:Int} (ha:0<=a) (hn:1<=n) (hs:a+n<=side) (hb:side<=1000000) {K:Int->Int->Ub} (hK:K a (a+n) w):Z2 a n side w K:=by
 refine qxy _ _ _ ?_;refine jpO λg c=>cF (dFq (by omega)) (cF (dFq (by omega)) (c _ _ ?_));have d:(if (1048576:Int)<n then (1048576:Int) else n)=n:=if_neg (by omega);have f:(if (0:Int)>a then (0:Int) else a)=a:=if_neg (by omega);rw [d,f];refine jpO λh b=>cF (dFq (by omega)) ?_;rw [qM (by omega),qM (by omega)];refine cO (λe=>b _ _ hK) λe=>?_;have e:=oFq e;have:side=a+n:=by omega
 rw [this];exact b _ _ hK
def KO (P:List UInt8) (o:Nat):qt:=⟨((P.getD o 0).toNat:Int),((P.getD (o+1) 0).toNat:Int),((P.getD (o+2) 0).toNat:Int),((P.getD (o+3) 0).toNat:Int)⟩
theorem q3b {m:qf} {P:List UInt8} {W x y:Nat} (hP:Rd qo w m.P P) (hsp:∀a,m.P.a=some a->a.spot=none) (hW:m.W=W) (hin:4*(y*W+x)+4<=P.length) (hl:P.length<=1000000000) {K:qt->Ub} (hK:∀w',Uc w w'->K (KO P (4*(y*W+x))) w'):yJ m (x:Int) (y:Int) w K:=by
 refine q1q _ _ _ ?_;refine nwb λJ A n L=>nwb λB C p M=>?_;have d:=A.ext p;have s:=bT n p;refine lSl (d.cells 2 _ rfl) (lI (x:=(W:Int)) (by rw [<-hW];exact d.cells 0 _ rfl) ?_);have e:i64.wrap ((4:Int)*(i64.wrap ((i64.wrap ((y:Int)*(W:Int)))+(x:Int))))=((4*(y*W+x):Nat):Int):=by
  have g:(y:Int)*(W:Int)=((y*W:Nat):Int):=by simp
  rw [g];generalize y*W=q at hin ⊢;rw [qM (x:=((q:Nat):Int)) (by omega),qM (x:=((q:Nat):Int)+(x:Int)) (by omega),qM (by omega)];omega
 rw [e];obtain ⟨o,D⟩:∃o,o=4*(y*W+x):=⟨_,rfl⟩;rw [<-D] at hin hK ⊢;have h:=hP.ext s;refine h.slK (l:=o) rfl (.inr rfl) (.inl ⟨rfl,rfl⟩) (by omega) (le_refl _) λb=>?_;rw [take_length] at b;have t:(P.drop o).length=P.length-o:=List.length_drop;obtain ⟨a,E⟩:=Option.isSome_iff_exists.1 (b.some_ (by omega));have f:=E;rw [f];refine ⟨by show 4<=P.length-o;omega,?_⟩;have F:qG B a (qt.rep.cells (KO P o)):=by
  intro j v u;have O:j<4:=(List.getElem?_eq_some_iff.1 u).1;have G:(P.drop o)[j]?=some (P.getD (o+j) 0):=by
   rw [List.getElem?_drop,List.getD_eq_getElem?_getD,List.getElem?_eq_getElem (by omega)];rfl
  have z:=b.at_ j _ G 0 (.int .u8 ((P.getD (o+j) 0).toNat:Int)) rfl;have g:((⟨cut m.P.a o m.P.c qo.k,P.length-o,m.P.c-o⟩:Slc).at_ qo.k j).add 0=a.add j:=by
   unfold Slc.at_;rw [f];show a.add (j*1)=a.add j;rw [mul_one]
  rw [g] at z;rw [z];have i:j=0\/j=1\/j=2\/j=3:=by omega
  rcases i with rfl | rfl | rfl | rfl<;>exact u
 refine qz F ?_;exact zN C rfl rfl λH I Q=>hK H (b1o s I (by omega))
theorem qkf {m:qf} {P:List UInt8} {W H:Nat} (hP:m.P.n=P.length) (hW:m.W=W) (hH:m.H=H) (hlen:P.length=4*W*H) (h1:1<=W/\W<=1000) (h2:1<=H/\H<=1000) {K:Bool->Ub} (hK:∀w',Uc w w'->K true w'):ye m w K:=by
 refine qhy _ ?_;refine nwb λb a c g=>lI (x:=(W:Int)) (by rw [<-hW];exact a.cells 0 _ rfl) (lI (x:=(H:Int)) (by rw [<-hH];exact a.cells 1 _ rfl) ?_);refine YX _ _ ?_;have h:=mul_le_mul h1.2 h2.2;have d:(W:Int)*(H:Int)=((W*H:Nat):Int):=by simp
 rw [d,qM (by omega),dTq (p:=((W*H:Nat):Int)<=67108864) (by omega)];refine cF (by simp;omega) (cT (dTq (by omega)) (cT (dTq (by omega)) (cT (dTq (by omega)) (cT (dTq (by omega)) (cT rfl ?_)))));refine lSl (a.cells 2 _ rfl) (lI (x:=(W:Int)) (by rw [<-hW];exact a.cells 0 _ rfl) (lI (x:=(H:Int)) (by rw [<-hH];exact a.cells 1 _ rfl) ?_));have e:i64.wrap ((i64.wrap ((4:Int)*(W:Int)))*(H:Int))=((4*W*H:Nat):Int):=by
  rw [qM (x:=(4:Int)*(W:Int)) (by omega)];have f:(4:Int)*(W:Int)*(H:Int)=((4*W*H:Nat):Int):=by simp
  rw [f,qM (by rw [mul_assoc];omega)]
 rw [e,hP,hlen];rw [beq_self_eq_true];exact hK b c
end
section
variable {w w':World}
theorem q0o (P:List UInt8) (o:Nat):Xy (KO P o).e0/\Xy (KO P o).e1/\Xy (KO P o).e2:=by
 have h:∀x:UInt8,Xy (x.toNat:Int):=λx=>⟨by omega,by have:=x.toNat_lt;omega⟩;exact ⟨h _,h _,h _⟩
end
def q0c (m:qf):Value:=.agg (qf.rep.cells m).toArray
def p7:qm:=⟨7,0,false,0,2,1,1,0,0,1,1,0,0,0⟩
theorem zmn:PG.underlying jZ=some (.map zJ qx):=by kernel_rfl
theorem zpg:∀w,(zeroValue qx).run PG w=.ok (q0c ⟨0,0,⟨none,0,0⟩⟩) w:=Tryz.zeroValue31
section
variable {w w':World} {base W H r:Nat} {m:qf} {P:List UInt8}
theorem zlr {L:List (Int×qf)} (h:jf q0c w r L) (id:Int) {K:qf->Bool->Ub} (hK:K ((zy L id).getD ⟨0,0,⟨none,0,0⟩⟩) (zy L id).isSome w) :
  qep PG (Instr.lookup jZ (.map (some r)) (Ua id) true) (Kind.struct qf.rep) Kind.bool w K:=by
 refine ⟨_,_,w,?_,hK⟩;rw [h.lookup_ok zmn zao zpg id];cases zy L id<;>rfl
end
def q77 (fs:Nat->List UInt8->List UInt8) (P:List UInt8):Nat->List UInt8
 | 0=>P
 | k+1=>fs k (q77 fs P k)
def zow (fi:Bool->List UInt8->List UInt8) (L:List (List Cel)) (C0 R cw ch:Nat) (on:Bool) (row col:Int):Nat->List UInt8->List UInt8
 | 0=>λP=>qwj (q5g (C0*cw) (R*ch) cw ch) L C0 P R
 | 1=>fi false
 | 2=>λP=>qwj (q56 (C0*cw) (R*ch) cw ch C0) L C0 P R
 | 3=>fi true
 | _=>λP=>qo2 P (C0*cw) R C0 cw ch on row col
def zle (fi:Bool->List UInt8->List UInt8) (L:List (List Cel)) (C0 R cw ch:Nat) (on:Bool) (row col:Int):List UInt8 :=
 q77 (zow fi L C0 R cw ch on row col) (List.replicate (4*(C0*cw)*(R*ch)) 0) 5
section
variable {w w':World} {B base:Nat} {s:qy} {R C0 cw ch W H:Nat} {L:List (List Cel)} {m:qf} {P:List UInt8}
structure LayF (w0:World) (base:Nat) (m:qf) (W H:Nat) (v:Value) (f:List UInt8->List UInt8):Prop where
 nm:∀{w2:World} {K:ByteArray->Ub},(∀s,K s w2)->yg v w2 K
 pt : ∀ {w2 : World} {P2 : List UInt8} {K : qf -> Ub}, Chg (λk=> m.P.blk = some k) w0 w2 -> MatM w2 base m W H P2 -> (∀ w3, Chg (λk=> m.P.blk = some k) w2 w3 -> MatM w3 base m W H (f P2) -> K m w3) -> qzy C v "Paint" [mA m] [(Kind.struct qf.rep)] w2 K
theorem zeq {fs:Nat->List UInt8->List UInt8} {b n:Nat} {ls:List Value} {t:TypeId} (hb:Blk w b t ls) (hn:ls.length=n) (hn2:n<=1000) (hM:MatM w base m W H P) (hbn:m.P.blk≠some b) (hl:∀(i:Nat) v,ls[i]?=some v->LayF w base m W H v (fs i)) {K:qf->Ub}
  (hK:∀w',MatM w' base m W H (q77 fs P n)->Chg (λk=>m.P.blk=some k) w w'->K m w'):YP m ⟨some ⟨b,0,none⟩,n,n⟩ w K:=by
 refine qrq _ _ ?_;refine nwb λQ S B T=>nwb λZ U j V=>?_;have C:=bT B j;obtain ⟨X,ha,c⟩:=hM.some_;have gl:=hM.own.lt X c;have bl:=hb.lt;refine lpR (λ(D:Int×Unit) w3=>∃(i:Nat),D.1=i/\i<=n/\MatM w3 base m W H (q77 fs P i)/\Blk w3 w.heap.size qx (qf.rep.cells m)/\(∃l,Blk w3 Q.heap.size qx l/\l.length=3)/\Blk w3 b t ls/\Chg (λk=>m.P.blk=some k) w w3) (λD=>n-D.1.toNat) ⟨0,rfl,zero_le _,hM.ext C,S.ext j,⟨_,U,rfl⟩,hb.ext C,Chg.of_ext C⟩ ?_;rintro ⟨i,u⟩ w3 ⟨k,A,g,hM3,hm3,⟨l,o,p⟩,hb3,hc3⟩ I hI;dsimp only at A ⊢;subst A;refine cO (λe=>?_) λe=>?_
 ·have e:=oTq e
  obtain ⟨v,R⟩:∃v,ls[k]?=some v:=⟨ls[k],List.getElem?_eq_getElem (by omega)⟩;have y:=hl k v R;refine q4z rfl (by omega) (by show (k:Int)<(n:Int);omega) ?_;refine qo6 (by show w3.cell? ((⟨b,0,none⟩:Addr).add (((k:Nat):Int).toNat*1))=some v;rw [mul_one];exact hb3.cells k v R) ?_;refine jpO λY E=>?_;have z:Y (true,()) w3:=by
   refine E _ _ (cT rfl ?_);refine qz hm3.cells ?_;refine y.pt hc3 hM3 λw4 f d=>?_;have F:=hm3.chg f (by rw [c];intro e;cases e;omega);have G:=o.chg f (by rw [c];intro e;cases e;omega);have J:=hb3.chg f (λe=>hbn e);refine xR F rfl λL M a N=>?_;have O:MatM L base m W H (fs k (q77 fs P k)):=⟨d.hw,d.hh,d.own.chg a (λk g e=>by rw [c] at g;cases g;omega),d.len,d.lim⟩;refine hI _ _ ⟨k+1,by show i64.wrap ((k:Int)+1)=_;rw [qM (by have:=hb.lt;omega)];simp,by omega,O,M,⟨l,G.chg a (by omega),p⟩,J.chg a (by omega),?_⟩ (by show n-(i64.wrap ((k:Int)+1)).toNat<n-((k:Nat):Int).toNat;rw [qM (by omega)];omega);exact (hc3.trans f λ_ _ h=>h).trans a λi A e=>by omega
  refine y.nm λsn=>?_;refine cO (λ_=>z) λ_=>lSl (hm3.cells 2 _ rfl) ?_;have hp:0<m.P.n:=by
   rw [hM3.own.rd.n,hM3.len];have:=hM3.lim;exact Nat.mul_pos (Nat.mul_pos (by decide) (by omega)) (by omega)
  rw [dTq (by omega)];exact z
 ·refine qz hm3.cells ?_;refine zN o rfl (by rw [p];rfl) λL a N=>?_;have q:k=n:=by have:=oFq e;omega
  subst q;refine hK L ⟨hM3.hw,hM3.hh,hM3.own.chg a (λk g e=>by rw [c] at g;cases g;omega),hM3.len,hM3.lim⟩ (hc3.trans a λi A e=>by omega)
def znu (w:World) (s:qy) (W H:Nat) (fi:Bool->List UInt8->List UInt8):Prop :=
 ∀(ab:Bool) {w2:World} {m:qf} {P2:List UInt8} {base:Nat} {K:qf->Ub},(∀k,m.P.blk=some k->w.heap.size<=k)->Uc w w2->MatM w2 base m W H P2->(∀w3,Chg (λk=>m.P.blk=some k) w2 w3->MatM w3 base m W H (fi ab P2)->K m w3)->vJ ⟨s,ab⟩ m w2 K
theorem zne {fi:Bool->List UInt8->List UInt8} (h:ScnM w B s R C0 cw ch L) (hbr:zg5 L) (hch:zdn L) (himg:znu w s (C0*cw) (R*ch) fi) (br:-1000000<=s.Row/\s.Row<=1000000) (bc:-1000000<=s.Col/\s.Col<=1000000) (hBw:B<=w.heap.size) (hW2:C0*cw<=16384) (hH2:R*ch<=16384) (hA:C0*cw*(R*ch)<=67108864)
  {K:qf->Int->Ub} (hK:∀m w',MatM w' w.heap.size m (C0*cw) (R*ch) (zle fi L C0 R cw ch s.Cursor s.Row s.Col)->Uc w w'->K m 0 w'):qjx s w K:=by
 refine qxx _ ?_;have ac:=h.lim;refine nwb λw1 h1 F ad=>nwb λu h2 G ae=>?_;have T:=bT F G;have c:=h1.ext G;refine jpO λJ1 U=>jpO λJ2 V=>?_;refine lI (x:=(R:Int)) (by rw [<-h.rows];exact c.cells 0 _ rfl) (kf (cF (by rw [dTq (by omega)];rfl) ?_));refine lI (x:=(C0:Int)) (by rw [<-h.cols];exact c.cells 1 _ rfl) (kf (cF (by rw [dTq (by omega)];rfl) ?_));refine lI (x:=(cw:Int)) (by rw [<-h.ecw];exact c.cells 2 _ rfl) (kf (cF (by rw [dTq (by omega)];rfl) ?_));refine lI (x:=(ch:Int)) (by rw [<-h.ech];exact c.cells 3 _ rfl) (kf ?_);rw [dTq (by omega)];refine V _ _ (cF rfl (U _ _ ?_));refine lI (x:=(C0:Int)) (by rw [<-h.cols];exact c.cells 1 _ rfl) (lI (x:=(cw:Int)) (by rw [<-h.ecw];exact c.cells 2 _ rfl) ?_);refine lI (x:=(R:Int)) (by rw [<-h.rows];exact c.cells 0 _ rfl) (lI (x:=(ch:Int)) (by rw [<-h.ech];exact c.cells 3 _ rfl) ?_);rw [(q9d (a:=C0) (b:=cw) (by omega) (by omega)).1,(q9d (a:=R) (b:=ch) (by omega) (by omega)).1];have H:1<=C0*cw:=Nat.mul_pos (by omega) (by omega);have I:1<=R*ch:=Nat.mul_pos (by omega) (by omega);refine q2s H hW2 I hH2 hA λt W w4 X Y af y=>?_;have B4:=bT T y;refine nwb λw5 h5 z ah=>xR h5 rfl λZ h6 A ai=>?_;have aj:=T.size;have l4:=y.size;have B6:Uc w Z:=b1o (bT B4 z) A (by omega);have J:Uc u Z:=b1o (bT y z) A (by omega);refine cF rfl (qz (r:=qf.rep) (x:=⟨_,_,t⟩) h6.cells ?_);have j:=c.ext J;have aa:=h2.ext J;refine qz (r:=qy.rep) (x:=s) j.cells (qz (r:=qy.rep) (x:=s) j.cells (qz (r:=qy.rep) (x:=s) j.cells (qz (r:=qy.rep) (x:=s) j.cells (qz (r:=qy.rep) (x:=s) j.cells ?_))));refine nwb λS h7 C M=>?_;have D:=((X.ext z).chg A λk E e=>by have h8:=(X.lt k E).2;omega).ext C;have ab:4*(C0*cw)*(R*ch)<=268435456:=by rw [mul_assoc];omega
 have l:MatM S u.heap.size ⟨((C0*cw:Nat):Int),((R*ch:Nat):Int),t⟩ (C0*cw) (R*ch) (List.replicate (4*(C0*cw)*(R*ch)) 0):=⟨rfl,rfl,D,by rw [List.length_replicate],⟨H,hW2,I,hH2,ab⟩⟩;have B7:=bT B6 C;have M:=h.ext B7;have o:t.blk=some W:=by unfold Slc.blk;rw [Y];rfl
 have al:=(X.lt W o).2;have gt:∀k,t.blk=some k->w.heap.size<=k:=λk E=>by have:=(D.lt k E).1;omega
 have bl:∀{wx},Chg (λk=>t.blk=some k) S wx->Uc w wx:=λd=>B7.trans (d.below B7.size λi hi e=>by have:=gt i e;omega);have kp:∀{wx},Chg (λk=>t.blk=some k) S wx->ScnM wx B s R C0 cw ch L:=λd=>M.keep d λk E=>by rw [o] at E;cases E;omega
 refine zeq (fs:=zow fi L C0 R cw ch s.Cursor s.Row s.Col) (n:=5) h7 rfl (by decide) l (by show t.blk≠_;rw [o];intro e;cases e;omega) (λi v f=>?_) λw8 g N=>?_
 ·match i,f with
  | 0,f =>
   obtain rfl:=Option.some.inj f;exact ⟨λhK=>zlk hK,λd l hK=>zl2 (q5a (kp d) hbr l (by omega) λO p q=>hK O q p)⟩
  | 1,f =>
   obtain rfl:=Option.some.inj f;exact ⟨λhK=>zcw (s:=s) (b:=false) hK,λd l hK=>zdh (himg false gt (bl d) l hK)⟩
  | 2,f =>
   obtain rfl:=Option.some.inj f;exact ⟨λhK=>zkh hK,λd l hK=>zkb (q7f (kp d) hbr hch l (by omega) λO p q=>hK O q p)⟩
  | 3,f =>
   obtain rfl:=Option.some.inj f;exact ⟨λhK=>zcw (s:=s) (b:=true) hK,λd l hK=>zdh (himg true gt (bl d) l hK)⟩
  | 4,f =>
   obtain rfl:=Option.some.inj f;exact ⟨λhK=>zkw hK,λd l hK=>zj9 (q1k (kp d) rfl rfl br bc l λO p q=>hK O q p)⟩
  | i+5,f=>simp at f
 have P:=(aa.ext C).chg N (by show t.blk≠_;rw [o];intro e;cases e;omega);refine zN (r:=qf.rep) P rfl rfl λw9 Q am=>hK _ w9 ?_ ?_
 ·exact ⟨g.hw,g.hh,(g.own.chg Q (qI g.own P (by decide))).base T.size,g.len,g.lim⟩
 ·exact b1o (bl N) Q F.size
end
section
variable {w w':World} {base:Nat} {F F':TmF} {T T':TS}
theorem zab {b b':Nat} {ls:List Slc} {xss:List (List qZ)} (h:Lines w b ls xss) (hb:b'<=b):Lines w b' ls xss:=⟨h.1,λj s a c d=>(h.2 j s a c d).base hb⟩
theorem Jp (h:TermM w base F T) {K:Option Addr->Ub} (hK:∀g' r' w',StM w' base g' r' T.E.S->Uc w w'->K (some ⟨g',0,none⟩) w'):xh (some ⟨F.tg,0,none⟩) w K:=by
 refine qlu _ ?_;exact qS (h.blk.cells 7 _ rfl) (q55 h.en λg' r' w' _ _ a b=>hK g' r' w' a b)
end
section
variable {w w':World} {base:Nat} {F F':TmF} {T T':TS}
theorem zk8 {g n:Nat} {F:KF} {E:KE} (h:EngM w base g F E n) (id:Int) {K:qf->Bool->Ub} (hK:∀w',Uc w w'->K (((zy E.S.L id).map Im.v).getD quc).m (zy E.S.L id).isSome w'):JC (some ⟨g,0,none⟩) id w K:=by
 refine ql4 _ _ ?_;refine nwb λt l b u=>qU (qS ((h.blk.ext b).cells 1 _ rfl) ?_);refine Ys _ _ ?_;refine nwb λy o c z=>?_;have i:=bT b c;have j:=h.st.ext i;refine qU (km (j.blk.cells 4 _ rfl) (qo4 j.map id ?_));generalize ((zy E.S.L id).map Im.v).getD quc=v at hK ⊢;refine qey λw4 p a C=>?_;have d:=bT c a;refine qz (p.sub 1 _ rfl) ?_;have e:=o.ext a;refine zN e rfl rfl λG k H=>?_;have f:=(l.ext d).chg k (by omega);refine zN f rfl rfl λq s I=>hK q ?_;exact b1o (b1o (bT i a) k (by omega)) s (le_refl _)
theorem zl0 {K:Nat->Ub} (hK:∀w',jf q0c w' w.heap.size ([]:List (Int×qf))->Uc w w'->K w.heap.size w'):nwM w K:=hK _ (jf.new w) ((Below.refl _ w).alloc (le_refl _) _)
end
theorem q26 {V:Type} {k:Int} {v:V}:∀{L:List (Int×V)},(∀p∈L,p.1<k)->kD L k v=L++[(k,v)]
 | [],_=>rfl
 | p::r,h=>by
  have b:=h p mem_cons_self;show (if k<p.1 then _ else if k=p.1 then _ else _)=_;rw [if_neg (by omega),if_neg (by omega),q26 λq a=>h q (mem_cons_of_mem _ a)];rfl
def imM (p:Int×Im):Int×qf:=(p.1,p.2.v.m)
section
variable {w w':World} {base:Nat} {F F':TmF} {T T':TS}
def zok (w:World) (F:TmF) (T:TS) (ps:List qm):Prop :=
 ∀{wx:World} {K:Slc->Ub},Uc w wx->(∀r wy,Go.Vc.Own qR wy wx.heap.size r ps->Uc wx wy->K r wy)->zq (some ⟨F.eg,0,none⟩) (jI T).View wx K
theorem zls (h:TermM w base F T) (hn:T.n<=900) {ps:List qm} (hO:zok w F T ps) {cw ch:Nat} (ecw:T.c.CellW=cw) (ech:T.c.CellH=ch) (lim:1<=cw/\cw<=64/\1<=ch/\ch<=64) {K:qy->Ub}
  (hK:∀s w' mp,ScnM w' w'.heap.size s T.S.g.rows T.S.g.cols cw ch T.S.g.L->s.Top=T.S.g.top->Rd qR w' s.Places ps->(∀a,s.Places.a=some a->a.block<w'.heap.size)->s.Images=some mp->jf q0c w' mp (T.E.S.L.map imM)->s.Cursor=(T.S.modeP 25 true).1->s.Row=T.S.c.Row->s.Col=T.S.c.Col->Uc w w'->K s w'):XP (some ⟨F.tg,0,none⟩) (.func (.func qap) #[(.pointer (some ⟨F.eg,0,none⟩))] #[]) w K:=by
 refine qnt _ _ ?_;refine nwb λw1 h1 hB1 hs1=>qh4 (h.ext hB1) λw2 hB2=>?_;refine jS (vs:=qu.rep.cells (jI T)) rfl λw4 h4 hB4 hs4=>?_;have B4:=bT (bT hB1 hB2) hB4;have z1:=hB1.size;have z2:=hB2.size;have z4:=hB4.size;have hm0:=(h.ext B4).drew;have hv0:=h4.drew;have ht0:=((h1.ext hB2).ext hB4).drew;have B04:=bT B4 (bdw w4);have hG:=h.sc.gOk;refine jpO λJ1 hJ1=>?_;have c1:∀{wx},Below w4.drew.heap.size w4.drew wx->wx.cell? (((⟨w2.heap.size,0,none⟩:Addr).add 0).add 1)=some (Ua T.S.g.top):=λhB=>by rw [jU];exact (hv0.ext hB).cells 1 _ rfl
 have c2:∀{wx},Below w4.drew.heap.size w4.drew wx->wx.cell? (((⟨w2.heap.size,0,none⟩:Addr).add 0).add 2)=some (Ua T.S.g.rows):=λhB=>by rw [jU];exact (hv0.ext hB).cells 2 _ rfl
 have c3:∀{wx},Below w4.drew.heap.size w4.drew wx->wx.cell? (((⟨w2.heap.size,0,none⟩:Addr).add 0).add 3)=some (Ua T.S.g.cols):=λhB=>by rw [jU];exact (hv0.ext hB).cells 3 _ rfl
 have c4:∀{wx},Below w4.drew.heap.size w4.drew wx->wx.cell? (((⟨w2.heap.size,0,none⟩:Addr).add 0).add 4)=some (Ua T.S.c.Row):=λhB=>by rw [jU];exact (hv0.ext hB).cells 4 _ rfl
 have c5:∀{wx},Below w4.drew.heap.size w4.drew wx->wx.cell? (((⟨w2.heap.size,0,none⟩:Addr).add 0).add 5)=some (Ua T.S.c.Col):=λhB=>by rw [jU];exact (hv0.ext hB).cells 5 _ rfl
 have c6:∀{wx},Below w4.drew.heap.size w4.drew wx->wx.cell? ((⟨w2.heap.size,0,none⟩:Addr).add 6)=some (Ua T.c.CellW):=λhB=>(hv0.ext hB).cells 6 _ rfl;have c7:∀{wx},Below w4.drew.heap.size w4.drew wx->wx.cell? ((⟨w2.heap.size,0,none⟩:Addr).add 7)=some (Ua T.c.CellH):=λhB=>(hv0.ext hB).cells 7 _ rfl;have cs:∀{wx},Below w4.drew.heap.size w4.drew wx->qG wx ((⟨w2.heap.size,0,none⟩:Addr).add 0) (zE.rep.cells (jI T).View):=λhB=>(hv0.ext hB).sub 0 _ rfl;have ct:∀{wx},Below w4.drew.heap.size w4.drew wx->wx.cell? ((⟨F.tg,0,none⟩:Addr).add 7)=some (.pointer (some ⟨F.eg,0,none⟩)):=λhB=>(hm0.ext hB).blk.cells 7 _ rfl;have B0:=Below.refl w4.drew.heap.size w4.drew;have fin:∀(sb mp:Nat) (q:Slc) (ls:List Slc) (pl:Slc) (wx:World),Blk wx sb zo [(Ua 0),(Ua 0),(Ua 0),(Ua 0),(.slice none 0 0),(.slice none 0 0),(.map none),(Ua 0),(.bool false),(Ua 0),(Ua 0)]->Below w4.drew.heap.size w4.drew wx->w4.drew.heap.size<=sb->Go.Vc.Own slE wx w4.drew.heap.size q ls->Lines wx w4.drew.heap.size ls T.S.g.L->Go.Vc.Own qR wx w4.drew.heap.size pl ps->jf q0c wx mp ([]:List (Int×qf))->w4.drew.heap.size<=mp ->
   stK ⟨sb,0,none⟩ [(Ua T.S.g.rows),(Ua T.S.g.cols),(Ua T.c.CellW),(Ua T.c.CellH),(.slice q.a q.n q.c),(.slice pl.a pl.n pl.c),(.map (some mp)),(Ua T.S.g.top),(.bool false),(Ua T.S.c.Row),(Ua T.S.c.Col)] wx λwy=>J1 (⟨sb,0,none⟩,()) wy:=by
  intro sb mp q ls pl wx hs hBx hle ho hl hpl hmp hml;have hne:=hmp.ne_blk hs;refine xR hs rfl λwy hy hcy hsy=>hJ1 _ _ ?_;have By:=b1o hBx hcy hle;have oy:=ho.chg hcy (qI ho hs (by decide));have py:=hpl.chg hcy (qI hpl hs (by decide));have ky:=hmp.chg hcy hne;have ly:=hl.chg hcy λk cs e hk=>by subst e;exact hs.ne_t hk (by decide) rfl
  have my:=hm0.ext By;refine Yw my ?_;rw [qC];refine qD hy (by show 0+8+1<=11;omega) λwz hz hgz hsz=>?_;have hcz:=Chg.gg hgz;have Bz:=b1o By hcz hle;have oz:=oy.chg hcz (qI oy hy (by decide));have pz:=py.chg hcz (qI py hy (by decide));have kz:=ky.chg hcz hne;have lz:=ly.chg hcz λk cs e hk=>by subst e;exact hy.ne_t hk (by decide) rfl
  refine Jp (hm0.ext Bz) λg' r' w8 hst hB8=>?_;refine qto hst h.en.ok (by omega) λiq w9 hiq hB9=>?_;have hin:=hiq.rd.n;have hir:=hiq.rd;rw [length_map] at hin;have B9:=bT (bT Bz hB8) hB9;have hs9:=(hz.ext hB8).ext hB9;have o9:=(oz.ext hB8).ext hB9;have p9:=(pz.ext hB8).ext hB9;have k9:=(kz.ext hB8).ext hB9;have l9:=(lz.ext hB8).ext hB9;have hll:=h.en.ok.len;refine lpR (λ(st:Int×Unit) wb=>∃k:Nat,st.1=(k:Int)/\k<=T.E.S.L.length/\jf q0c wb mp ((T.E.S.L.take k).map imM)/\Chg (λk=>k=mp) w9 wb) (λst=>T.E.S.L.length-st.1.toNat) ⟨0,rfl,zero_le _,k9,Chg.refl _ _⟩ ?_;rintro ⟨i,u⟩ wb ⟨k,hki,hk1,hkm,cb⟩ I hI;dsimp only at hki ⊢;subst hki;have Bb:=b1o B9 cb hml;have hsb:=hs9.chg cb λe=>hne e.symm;refine cO (λe=>?_) λe=>?_
  ·have e:=oTq e;have hkn:k<T.E.S.L.length:=by omega
   obtain ⟨q1,hq1⟩:∃q1,T.E.S.L[k]?=some q1:=⟨_,List.getElem?_eq_getElem hkn⟩;have hqm:q1∈T.E.S.L:=List.mem_of_getElem? hq1;have hi9:=hir.chg cb λa haa e=>k9.ne_own hiq a.block (slk.2 ⟨a,haa,rfl⟩) e;obtain ⟨x1,hx1,hxs⟩:=qf9 (xs:=T.E.S.L.map (·.1)) (k:=k) (by rw [length_map];exact hkn);rw [List.getElem?_map,hq1] at hx1;obtain rfl:=Option.some.inj hx1;refine hi9.ix (E:=jr) (i:=(k:Int)) (k:=1) rfl (by omega) (by rw [length_map];omega) λhcc=>?_;rw [hxs] at hcc;refine lI (x:=q1.1) (by simpa using hcc 0 _ rfl) ?_;refine km (x:=some mp) (hsb.drew.cells 6 _ rfl) ?_;refine yG (by kernel_rfl) ?_;have hSee:JC (some ⟨F.eg,0,none⟩) q1.1 wb.drew (λ(t58:qf) (t58_1:Bool) w11 =>
     w11.cell? ((⟨sb,0,none⟩:Addr).add 6)=some (.map (some mp)) /\
     qma PG (Instr.mapUpdate jZ (.map (some mp)) (Ua q1.1) (.agg #[(Ua t58.W),(Ua t58.H),(.slice t58.P.a t58.P.n t58.P.c)])) w11 λ_ w12=>
     I ((i64.wrap ((k:Int)+(1:Int))),()) w12):=by
    refine zk8 (hm0.ext Bb).drew.en q1.1 λw11 B11=>?_;rw [(xF h.en.ok.srt).2 hqm];refine ⟨(hsb.drew.ext B11).cells 6 _ rfl,?_⟩;have B11':=bT (bdw wb) B11;have hky:=h.en.ok.keys q1 hqm;obtain ⟨w12,hr12,hm12,hc12,hs12⟩:=(hkm.ext B11').update zmn zao (k:=q1.1) (by omega) (enc:=q0c) q1.2.v.m;have hsrt:=h.en.ok.srt;rw [<-List.take_append_drop k T.E.S.L] at hsrt;rw [q26 λp hp=>by
     obtain ⟨p0,hp0,rfl⟩:=List.mem_map.1 hp;exact (List.pairwise_append.1 hsrt).2.2 p0 hp0 q1 (List.mem_of_getElem? (i:=0) (by rw [List.getElem?_drop];exact hq1))] at hm12
    refine q4w hr12 (hI _ _ ⟨k+1,by show i64.wrap ((k:Int)+1)=_;rw [qM (by omega)];simp,hkn,?_,(cb.trans (Chg.of_ext (S:=λk=>k=mp) B11') λ_ _ h=>h).trans hc12 λ_ _ h=>h⟩ (by show _-(i64.wrap ((k:Int)+1)).toNat<_-((k:Nat):Int).toNat;rw [qM (by omega)];omega));rw [List.take_add_one,hq1,List.map_append];exact hm12
   exact Calls.mono hSee (by rintro e w' ⟨r0,r1,rfl,hK⟩;exact ⟨r0,r1,rfl,hK⟩)
  ·have e:=oFq e;obtain rfl:k=T.E.S.L.length:=by omega
   rw [take_length] at hkm;have ob:=o9.chg cb λk hk e=>k9.ne_own o9 k hk e;have pb:=p9.chg cb λk hk e=>k9.ne_own p9 k hk e;have lb:=l9.chg cb λk cs e hk=>by subst e;exact k9.ne_blk hk rfl
   have htb:=ht0.ext Bb;refine qz (r:=qy.rep) (x:=⟨T.S.g.rows,T.S.g.cols,T.c.CellW,T.c.CellH,q,pl,some mp,T.S.g.top,(T.S.modeP 25 true).1,T.S.c.Row,T.S.c.Col⟩) hsb.cells ?_;refine zN (r:=qy.rep) htb rfl rfl λw5 hc5 hs5=>?_;have o5:=ob.chg hc5 (qI ob htb (by decide));have p5:=pb.chg hc5 (qI pb htb (by decide));have k5:=hkm.chg hc5 (hkm.ne_blk htb);have l5:=lb.chg hc5 λk cs e hk=>by subst e;exact htb.ne_t hk (by decide) rfl
   refine hK _ w5 mp ⟨rfl,rfl,ecw,ech,⟨hG.rows.1,hG.rows.2,hG.cols.1,hG.cols.2,lim⟩,⟨ls,o5.rd,l5.1,λj s xs hj hx=>⟨(l5.2 j s xs hj hx).rd,λa ha=>((l5.2 j s xs hj hx).lt a.block (slk.2 ⟨a,ha,rfl⟩)).2⟩⟩,λa ha=>(o5.lt a.block (slk.2 ⟨a,ha,rfl⟩)).2⟩ rfl p5.rd (λa ha=>(p5.lt a.block (slk.2 ⟨a,ha,rfl⟩)).2) rfl k5 rfl rfl rfl ?_;exact b1o (bT B04 Bb) hc5 (le_refl _)
 simp only [onPtr_some];refine lI (x:=(T.S.g.rows:Int)) (c2 B0) (lI (x:=(T.S.g.cols:Int)) (c3 B0) (lI (x:=T.c.CellW) (c6 B0) (lI (x:=T.c.CellH) (c7 B0) ?_)));refine qS (x:=some ⟨F.eg,0,none⟩) (ct B0) (qz (r:=zE.rep) (x:=(jI T).View) (cs B0) ?_);refine lI (x:=T.S.g.top) (c1 B0) (lI (x:=T.S.c.Row) (c4 B0) (lI (x:=T.S.c.Col) (c5 B0) ?_));have B:=B0
 repeat' first
  | exact fin _ _ _ _ _ _ hs B le hq hl hp hk lm
  | refine ⟨c5 B,c4 B,c1 B,cs B,ct B,c7 B,c6 B,c3 B,c2 B,?_⟩
  | refine ⟨c5 B,c4 B,c1 B,c7 B,c6 B,c3 B,c2 B,?_⟩
  | (
    refine qbj (hm0.ext B) λq ls y hq hl b=>?_
    replace hl:=zab hl B.size
    replace hq:=hq.base B.size
    try replace hs:=hs.ext b
    try replace hk:=hk.ext b
    replace B:=bT B b)
  | (
    refine hO (bT B04 B) λp y hp b=>?_
    replace hp:=hp.base B.size
    try replace hs:=hs.ext b
    try replace hk:=hk.ext b
    try replace hq:=hq.ext b
    try replace hl:=hl.ext b
    replace B:=bT B b)
  | (
    refine zl0 λy hk b=>?_;have lm:=B.size
    try replace hs:=hs.ext b
    try replace hp:=hp.ext b
    try replace hq:=hq.ext b
    try replace hl:=hl.ext b
    replace B:=bT B b)
  | (
    refine nwb λy hs b z=>?_;have le:=B.size
    try replace hk:=hk.ext b
    try replace hp:=hp.ext b
    try replace hq:=hq.ext b
    try replace hl:=hl.ext b
    replace B:=bT B b)
  | refine ⟨?_,?_⟩
theorem q62 (h:TermM w base F T) (hn:T.n<=900) {ps:List qm} (hO:∀{wx},Uc w wx->zok wx F T ps) {fi:Bool->List UInt8->List UInt8} {cw ch:Nat} (ecw:T.c.CellW=cw) (ech:T.c.CellH=ch) (lim:1<=cw/\cw<=64/\1<=ch/\ch<=64) (hbr:zg5 T.S.g.L) (hch:zdn T.S.g.L)
  (hW2:T.S.g.cols*cw<=16384) (hH2:T.S.g.rows*ch<=16384) (hA:T.S.g.cols*cw*(T.S.g.rows*ch)<=67108864) (br:-1000000<=T.S.c.Row/\T.S.c.Row<=1000000) (bc:-1000000<=T.S.c.Col/\T.S.c.Col<=1000000)
  (hI:∀(s:qy) w' mp,Uc w w'->s.CellW=cw->s.CellH=ch->s.Top=T.S.g.top->Rd qR w' s.Places ps->(∀a,s.Places.a=some a->a.block<w'.heap.size)->s.Images=some mp->jf q0c w' mp (T.E.S.L.map imM)->znu w' s (T.S.g.cols*cw) (T.S.g.rows*ch) fi) {K:qf->Int->Ub}
  (hK:∀m w',MatM w' (w.heap.size+1) m (T.S.g.cols*cw) (T.S.g.rows*ch) (zle fi T.S.g.L T.S.g.cols T.S.g.rows cw ch (T.S.modeP 25 true).1 T.S.c.Row T.S.c.Col)->Uc w w'->K m 0 w'):zF (some ⟨F.tg,0,none⟩) w K:=by
 refine qgg _ ?_;refine nwb λH t d A=>?_;have u:=h.ext d;refine qS (u.blk.cells 7 _ rfl) ?_;refine zls u hn (hO d) ecw ech lim λs B mp l f o p C D q v y e=>?_;have z:=bT d e;refine zne l hbr hch (hI s B mp z l.ecw l.ech f o p C D) (by rw [v];exact br) (by rw [y];exact bc) (le_refl _) hW2 hH2 hA λm I b i=>?_;have j:=(t.ext e).ext i;have M:=e.size;rw [q,v,y] at b;refine zN j rfl rfl λw4 k G=>hK m w4 ⟨b.hw,b.hh,?_,b.len,b.lim⟩ (b1o (bT z i) k (le_refl _));exact (b.own.chg k (qI b.own j (by decide))).base (by omega)
end
section
variable {w w':World} {base:Nat}
theorem qq3 {body:(Int×Unit->Ub)->Int×Unit->Ub} {n:Nat} (hn:(n:Int)<=9223372036854775807)
  (h1:∀(k:Nat) w1 (I:Int×Unit->Ub),k<n->Uc w w1->(∀w2,Uc w1 w2->I (i64.wrap ((k:Int)+1),()) w2)->body I ((k:Int),()) w1)
  (h2:∀w1 I,Uc w w1->body I ((n:Int),()) w1):zh (σ:=Int×Unit) body (0,()) w:=by
 refine lpR (λ(st:Int×Unit) w1=>∃k:Nat,st.1=(k:Int)/\k<=n/\Uc w w1) (λst=>n-st.1.toNat) ⟨0,rfl,zero_le _,Below.refl _ _⟩ ?_;rintro ⟨i,u⟩ w1 ⟨k,hi,hk,hB⟩ I hI;dsimp only at hi;subst hi;by_cases e:k<n
 ·refine h1 k w1 I e hB λw2 hB2=>?_;rw [qM (by omega)];exact hI _ _ ⟨k+1,by simp,e,bT hB hB2⟩ (by dsimp only;omega)
 ·obtain rfl:k=n:=by omega
  exact h2 w1 I hB
theorem zi6 {T:Type} {E:El T} {s:Slc} {xs:List T} (h:Rd E w s xs):(xs.length:Int)<=9223372036854775807:=by
 have b:=h.n;have c:=h.nc;have a:=h.cm;unfold maxLen at a;omega
theorem zg0 {a b:Slc} {xs:List qZ} (ha:Rd zD w a xs) (hb:Rd zD w b xs) {K:Bool->Ub} (hK:∀w',Uc w w'->K true w'):qos a b w K:=by
 refine qzl _ _ ?_;refine ZE _ _ ?_;have e:=ha.n;have m:=hb.n;have l:=zi6 ha;refine cF (by rw [e,m];exact bne_self_eq_false _) (qq3 (n:=xs.length) l (λk d I o f p=>?_) λd I f=>?_)
 ·have g:=bT f (bdw d);obtain ⟨x,q,c⟩:=qf9 (xs:=xs) (k:=k) o;refine cT (dTq (by show (k:Int)<_;rw [e];omega)) ?_;refine (ha.ext g).ix (i:=(k:Int)) rfl (by omega) (by omega) λh=>?_;rw [c] at h;refine qz (x:=x) h ((hb.ext g).ix (i:=(k:Int)) rfl (by omega) (by omega) λj=>?_);rw [c] at j;refine qz (x:=x) j ?_;change cond (!(zi2 x x)) _ _;rw [zf8.2 rfl];exact p _ (bdw d)
 ·exact cF (dFq (by show ¬(xs.length:Int)<_;rw [e];omega)) (hK d f)
theorem zka {a b:Slc} {xs:List Int} (ha:Rd jr w a xs) (hb:Rd jr w b xs) {K:Bool->Ub} (hK:∀w',Uc w w'->K true w'):yH a b w K:=by
 refine qdz _ _ ?_;have e:=ha.n;have m:=hb.n;have l:=zi6 ha;refine cF (by rw [e,m];exact bne_self_eq_false _) (qq3 (n:=xs.length) l (λk d I o f p=>?_) λd I f=>?_)
 ·have g:=bT f (bdw d);obtain ⟨x,q,c⟩:=qf9 (xs:=xs) (k:=k) o;refine cT (dTq (by show (k:Int)<_;rw [e];omega)) ?_;refine (ha.ext g).ix (i:=(k:Int)) rfl (by omega) (by omega) λh=>?_;rw [c] at h;refine lI (x:=x) (by simpa using h 0 _ rfl) ((hb.ext g).ix (i:=(k:Int)) rfl (by omega) (by omega) λj=>?_);rw [c] at j;exact lI (x:=x) (by simpa using j 0 _ rfl) (cF (bne_self_eq_false _) (p _ (bdw d)))
 ·exact cF (dFq (by show ¬(xs.length:Int)<_;rw [e];omega)) (hK d f)
theorem zeu {a b:Slc} {xs:List qm} (ha:Rd qR w a xs) (hb:Rd qR w b xs) {K:Bool->Ub} (hK:∀w',Uc w w'->K true w'):jC a b w K:=by
 refine Qk _ _ ?_;have e:=ha.n;have m:=hb.n;have l:=zi6 ha;refine cF (by rw [e,m];exact bne_self_eq_false _) (qq3 (n:=xs.length) l (λk d I o f p=>?_) λd I f=>?_)
 ·have g:=bT f (bdw d);obtain ⟨x,q,c⟩:=qf9 (xs:=xs) (k:=k) o;refine cT (dTq (by show (k:Int)<_;rw [e];omega)) ?_;refine (ha.ext g).ix (i:=(k:Int)) rfl (by omega) (by omega) λh=>?_;rw [c] at h;refine qz (r:=qm.rep) (x:=x) h ((hb.ext g).ix (i:=(k:Int)) rfl (by omega) (by omega) λj=>?_);rw [c] at j;refine qz (r:=qm.rep) (x:=x) j (cF ?_ (p _ (bdw d)));simp only [beq_self_eq_true,Bool.and_self,Bool.not_true]
 ·exact cF (dFq (by show ¬(xs.length:Int)<_;rw [e];omega)) (hK d f)
theorem q75 {a b:Slc} {xs:List UInt8} (ha:Rd qo w a xs) (hb:Rd qo w b xs) {K:Bool->Ub} (hK:K true w):yi a b w K:=by
 refine qu8 _ _ ?_;refine kw ha (kw hb ?_);rw [beq_self_eq_true];exact hK
theorem zdf {a b:qf} {xs:List UInt8} (e1:a.W=b.W) (e2:a.H=b.H) (ha:Rd qo w a.P xs) (hb:Rd qo w b.P xs) {K:Bool->Ub} (hK:∀w',Uc w w'->K true w'):qbx a b w K:=by
 refine qxz _ _ ?_;refine nwb λk c e h=>nwb λi f d j=>?_;have c:=c.ext d;have g:=bT e d;refine lI (x:=a.W) (c.cells 0 _ rfl) (lI (x:=b.W) (f.cells 0 _ rfl) (cT (by rw [e1];exact beq_self_eq_true _) ?_));refine lI (x:=a.H) (c.cells 1 _ rfl) (lI (x:=b.H) (f.cells 1 _ rfl) (cT (by rw [e2];exact beq_self_eq_true _) ?_));exact lSl (x:=a.P) (c.cells 2 _ rfl) (lSl (x:=b.P) (f.cells 2 _ rfl) (q75 (ha.ext g) (hb.ext g) (hK i g)))
theorem q08 {g r:Nat} {S:St} (h:StM w base g r S) (id:Int) {K:Int->Bool->Ub} (hK:∀b w',Uc w w'->K (vOf S.L id).stamp b w'):yq (some ⟨g,0,none⟩) id w K:=by
 refine qkm _ _ ?_;unfold vOf at hK;refine qU (km (x:=some r) (h.blk.cells 4 _ rfl) (qo4 h.map id ?_));generalize ((zy S.L id).map Im.v).getD quc=v at hK ⊢;exact qey λd a c e=>lI (x:=v.stamp) (a.cells 4 _ rfl) (hK _ d c)
variable {F:TmF} {T:TS}
theorem qs1 (h:TermM w base F T) {K:qQ->Ub} (hK:∀w',Uc w w'->K T.S.c w'):yT (some ⟨F.tg,0,none⟩) w K:=by
 refine ql5 _ ?_;refine nwb λi d a e=>qU (qS (x:=some ⟨F.sg,0,none⟩) ((h.ext a).blk.cells 6 _ rfl) (qxc (h.ext a).sc λj b=>?_));exact zN (r:=qQ.rep) (x:=T.S.c) (d.ext b) rfl rfl λf g k=>hK f (b1o (bT a b) g (le_refl _))
theorem qtq (h:TermM w base F T) (hn:T.n<=100000) {K:Option Addr->Ub} (hK:∀g' q' w',PlTM w' w.heap.size g' q' T.E.T->Uc w w'->K (some ⟨g',0,none⟩) w'):Qd (some ⟨F.tg,0,none⟩) w K:=by
 refine qlw _ ?_;exact qU (qS (x:=some ⟨F.eg,0,none⟩) (h.blk.cells 7 _ rfl) (q1n h.en hn hK))
end
def qf7:List Int:=[1,4,6,7,20,25,47,1000,1047,1049,2004]
def imT (q:Int×Im):Int×Int×Int×List UInt8×Int:=(q.1,q.2.v.m.W,q.2.v.m.H,q.2.bs,q.2.v.stamp)
theorem zhq {L L':List (Int×Im)} (h:L.map imT=L'.map imT) (id:Int):(vOf L id).m.W=(vOf L' id).m.W/\(vOf L id).m.H=(vOf L' id).m.H/\q06 L id=q06 L' id/\(vOf L id).stamp=(vOf L' id).stamp:=by
 have e:(zy L id).map (λx=>imT (id,x))=(zy L' id).map λx=>imT (id,x):=by
  induction L generalizing L' with
  | nil=>cases L' with
   | nil=>rfl
   | cons _ _=>cases h
  | cons p L b=>cases L' with
   | nil=>cases h
   | cons q L' =>
    simp only [List.map_cons,List.cons.injEq] at h;have a:p.1=q.1:=congrArg (λt:Int×Int×Int×List UInt8×Int=>t.1) h.1;unfold zy at b ⊢;rw [List.find?_cons,List.find?_cons,<-a];cases hp:p.1==id with
    | false=>exact b h.2
    | true =>
     have c:=eq_of_beq hp;obtain ⟨d,f⟩:=p;obtain ⟨g,i⟩:=q;dsimp only at a c;subst c a;exact congrArg some h.1
 unfold vOf q06;cases a:zy L id with
 | none=>cases h2:zy L' id with
  | none=>exact ⟨rfl,rfl,rfl,rfl⟩
  | some y=>rw [a,h2] at e;cases e
 | some x=>cases h2:zy L' id with
  | none=>rw [a,h2] at e;cases e
  | some y =>
   rw [a,h2] at e;have e:=Option.some.inj e;simp only [imT,Prod.mk.injEq] at e;exact ⟨e.2.1,e.2.2.1,e.2.2.2.1,e.2.2.2.2⟩
structure Twin (T U:TS):Prop where
 l:U.S.g.L=T.S.g.L
 o:U.S.g.old=T.S.g.old
 c:U.S.c=T.S.c
 m:∀n∈qf7,∀p,(U.S.modeP n p).1=(T.S.modeP n p).1
 i:U.E.S.L.map imT=T.E.S.L.map imT
 t:U.E.T=T.E.T
section
variable {w w':World} {base:Nat} {F G:TmF} {T U:TS}
theorem zde {q p:Slc} {ls ms:List Slc} {LS:List (List qZ)} (hq:Rd slE w q ls) (hp:Rd slE w p ms) {base2:Nat} (hl:Lines w base ls LS) (hm:Lines w base2 ms LS) {K:Bool->Ub} (hK:∀w',Uc w w'->K true w'):zG q p (.func (.func qsi) #[] #[]) w K:=by
 refine xI _ _ _ ?_;have d:=hq.n;have o:=hp.n;have l:=zi6 hq;have r:=hl.1;have u:=hm.1;refine cF (by rw [d,o,r,u];exact bne_self_eq_false _) (qq3 (n:=ls.length) l (λk e I v a y=>?_) λe I a=>?_)
 ·obtain ⟨s,z,f⟩:=qf9 (xs:=ls) (k:=k) v;obtain ⟨t,A,g⟩:=qf9 (xs:=ms) (k:=k) (by omega);obtain ⟨c,b⟩:∃c,LS[k]?=some c:=⟨_,List.getElem?_eq_getElem (by omega)⟩;refine cT (dTq (by show (k:Int)<_;rw [d];omega)) ?_;refine (hq.ext a).ix (E:=slE) (i:=(k:Int)) rfl (by omega) (by omega) λj=>?_;rw [f] at j;refine lSl (x:=s) (by simpa using j 0 _ rfl) ((hp.ext a).ix (E:=slE) (i:=(k:Int)) rfl (by omega) (by omega) λm=>?_);rw [g] at m;refine lSl (x:=t) (by simpa using m 0 _ rfl) (callR_plain (by kernel_rfl) (show qos s t e _ from ?_));exact zg0 ((hl.2 k s c z b).rd.ext a) ((hm.2 k t c A b).rd.ext a) λB h=>cF rfl (y B h)
 ·exact cF (dFq (by show ¬(ls.length:Int)<_;rw [d];omega)) (hK e a)
theorem zjg (h:TermM w base F T) {base':Nat} (h':TermM w base' G U) (hm:∀n∈qf7,∀p,(U.S.modeP n p).1=(T.S.modeP n p).1) {K:Bool->Ub} (hK:∀w',Uc w w'->K true w'):qc5 (some ⟨F.tg,0,none⟩) (some ⟨G.tg,0,none⟩) w K:=by
 refine qtf _ _ ?_;refine nwb λwa ha hBa hsa=>qq3 (n:=11) (by decide) (λk w1 I hk hB hI=>?_) λw1 I hB=>cF rfl (hK w1 (bT hBa hB));have B:=bT hBa hB;have hlt:k<qf7.length:=hk;have hcell:w1.cell? ((⟨w.heap.size,0,none⟩:Addr).add (((k:Int):Int).toNat*1))=some (Ua (qf7[k]'hlt)):=by
  rw [toNat_natCast,mul_one];refine (ha.ext hB).cells k _ ?_;show (qf7.map (Value.int .i64))[k]?=_;rw [List.getElem?_map,List.getElem?_eq_getElem hlt];rfl
 have hMp:=hm _ (List.getElem_mem hlt);refine cT (dTq (by show (k:Int)<11;omega)) ⟨⟨by show (0:Int)<=k;omega,by show (k:Int)<(11:Nat);omega⟩,lI (x:=qf7[k]'hlt) hcell (Yw (h.ext B) (Yw (h'.ext B) ?_))⟩;rw [hMp true];refine cF (by simp) (Yw (h.ext B) (Yw (h'.ext B) ?_));rw [hMp false];exact cF (by simp) (hI w1 (Below.refl _ _))
theorem zeb (h:TermM w base F T) {base':Nat} (h':TermM w base' G U) (hn:T.n<=900) (hn':U.n<=900) (hi:U.E.S.L.map imT=T.E.S.L.map imT) (ht:U.E.T=T.E.T) (hl:T.E.T.length<=100000) {K:Bool->Ub} (hK:∀w',Uc w w'->K true w'):qaa (some ⟨F.tg,0,none⟩) (some ⟨G.tg,0,none⟩) w K:=by
 refine qrd _ _ ?_;refine Jp h λg r V d t=>Jp (h'.ext t) λg' r' w2 c u=>?_;have d:=d.ext u;have B2:=bT t u;refine qto d h.en.ok (by omega) λq w3 s l=>jpO λJ1 X=>?_;have d:=d.ext l;have c:=c.ext l;have B3:=bT B2 l;refine qto c h'.en.ok (by omega) λq' w4 v o=>?_;have ei:U.E.S.L.map (·.1)=T.E.S.L.map (·.1):=by
  have:=congrArg (List.map Prod.fst) hi;simpa [List.map_map,imT,Function.comp_def] using this
 rw [ei] at v;have B4:=bT B3 o;refine zka (s.ext o).rd v.rd λw5 y=>cF rfl ?_;have B5:=bT B4 y;refine qtq (h.ext B5) (by omega) λg1 q1 w6 Y z=>qy6 Y hl λl1 w7 Z A=>?_;have B7:=bT (bT B5 z) A;refine qtq (h'.ext B7) (by omega) λg2 q2 w8 aa B=>qy6 aa (by rw [ht];exact hl) λl2 w9 C D=>?_;rw [ht] at C;have ab:=bT B D;refine zeu (Z.ext ab).rd C.rd λwa ac=>cF rfl (X _ _ ?_);have j:=bT (bT (bT (bT (bT (bT o y) z) A) B) D) ac;have Ba:=bT B3 j;have d:=d.ext j;have c:=c.ext j;have s:=(s.ext j).rd;have qn:=s.n;refine qq3 (n:=(T.E.S.L.map (·.1)).length) (zi6 s) (λk V I hk J hI=>?_) λV I J=>?_
 ·obtain ⟨e,ai,M⟩:=qf9 (xs:=T.E.S.L.map (·.1)) (k:=k) hk;have d:=d.ext J;have c:=c.ext J;obtain ⟨e1,e2,e3,e4⟩:=zhq hi e;refine cT (dTq (by show (k:Int)<_;rw [qn];omega)) ?_;refine (s.ext J).ix (E:=jr) (i:=(k:Int)) rfl (by omega) (by omega) λhc=>?_;rw [M] at hc;refine lI (x:=e) (by simpa using hc 0 _ rfl) (q0w d h.en.ok e λP x1 hP ad=>jS rfl λx2 k2 N _=>?_);have C2:=bT ad N;refine q0w (c.ext C2) h'.en.ok e λQ x3 hQ ae=>jS rfl λx4 k4 O _=>?_;have p:=bT ae O;have C4:=bT C2 p;refine q08 (d.ext C4) e λb1 x5 R=>q08 (c.ext (bT C4 R)) e λb2 x6 af=>?_;have f:=bT R af;rw [e1,e2] at k4;refine qz (r:=qf.rep) (x:=⟨(vOf T.E.S.L e).m.W,(vOf T.E.S.L e).m.H,P⟩) ((k2.ext p).ext f).cells (qz (r:=qf.rep) (x:=⟨(vOf T.E.S.L e).m.W,(vOf T.E.S.L e).m.H,Q⟩) (k4.ext f).cells ?_);rw [e3] at hQ;refine zdf (a:=⟨(vOf T.E.S.L e).m.W,(vOf T.E.S.L e).m.H,P⟩) (b:=⟨(vOf T.E.S.L e).m.W,(vOf T.E.S.L e).m.H,Q⟩) rfl rfl (hP.ext (bT (bT N p) f)).rd (hQ.ext (bT O f)).rd λx7 ah=>cF rfl (cF (by rw [e4];exact bne_self_eq_false _) (hI x7 (bT (bT C4 f) ah)))
 ·exact cF (dFq (by show ¬((T.E.S.L.map (·.1)).length:Int)<_;rw [qn];omega)) (hK V (bT Ba J))
theorem zj8 {a b:Option Addr} {W H:Nat} {P:List UInt8} (ca:∀w1 (K:qf->Int->Ub),Uc w w1->(∀m w',MatM w' (w1.heap.size+1) m W H P->Uc w1 w'->K m 0 w')->zF a w1 K) (cb:∀w1 (K:qf->Int->Ub),Uc w w1->(∀m w',MatM w' (w1.heap.size+1) m W H P->Uc w1 w'->K m 0 w')->zF b w1 K)
  {K:Bool->Ub} (hK:∀w',Uc w w'->K true w'):qga a b w K:=by
 refine qvc _ _ ?_;refine ca w _ (Below.refl _ _) λm w1 e j=>jS rfl λp i g _=>?_;have l:=bT j g;refine cb p _ l λo t f k=>jS rfl λw4 n h _=>cT (by rfl) ?_;have d:=bT k h;have i:=i.ext d;have e:=((e.ext g).ext d);have f:=f.ext h;have q:=bT l d;refine qz (r:=qf.rep) (x:=m) i.cells (qz (r:=qf.rep) (x:=o) n.cells ?_);refine zdf (e.hw.trans f.hw.symm) (e.hh.trans f.hh.symm) e.own.rd f.own.rd λs c=>cT rfl ?_;refine lSl (x:=m.P) ((i.ext c).cells 2 _ rfl) (lSl (x:=o.P) ((n.ext c).cells 2 _ rfl) (q75 (e.ext c).own.rd (f.ext c).own.rd (hK s (bT q c))))
theorem znp (h:TermM w base F T) {base':Nat} (h':TermM w base' G U) (hn:T.n<=900) (hn':U.n<=900) (hol:T.S.g.old.length<=2000) (hl:T.E.T.length<=100000) (ht:Twin T U) {W H:Nat} {P:List UInt8}
  (ca:∀w1 (K:qf->Int->Ub),Uc w w1->(∀m w',MatM w' (w1.heap.size+1) m W H P->Uc w1 w'->K m 0 w')->zF (some ⟨F.tg,0,none⟩) w1 K) (cb:∀w1 (K:qf->Int->Ub),Uc w w1->(∀m w',MatM w' (w1.heap.size+1) m W H P->Uc w1 w'->K m 0 w')->zF (some ⟨G.tg,0,none⟩) w1 K)
  {K:Bool->Ub} (hK:∀w',Uc w w'->K true w'):qfs (some ⟨F.tg,0,none⟩) (some ⟨G.tg,0,none⟩) w K:=by
 refine qu3 _ _ ?_;refine nwb λX M r N=>qq3 (n:=2) (by decide) (λk w1 I O f D=>?_) λw1 I f=>?_
 ·have B:=bT r f;have J:=M.ext f;refine cT (dTq (by show (k:Int)<2;omega)) ⟨⟨by show (0:Int)<=k;omega,by show (k:Int)<(2:Nat);omega⟩,?_⟩;rw [toNat_natCast,mul_one]
  match k,O with
  | 0,_ =>
   refine zhx (J.cells 0 _ rfl) (callR_plain (by kernel_rfl) (show jm _ w1 _ from ?_));refine qbj (h.ext B) λq Q s u j b=>callR_plain (by kernel_rfl) (show jm _ s _ from ?_);refine qbj (h'.ext (bT B b)) λp R L v d a=>?_;rw [ht.l] at d;exact zde (u.ext a).rd v.rd (j.ext a) d λw4 e=>cF rfl (D w4 (bT (bT b a) e))
  | 1,_ =>
   refine zhx (J.cells 1 _ rfl) (callR_plain (by kernel_rfl) (show Jy _ w1 _ from ?_));refine qzg (h.ext B) (λq Q s u j b=>callR_plain (by kernel_rfl) (show Jy _ s _ from ?_)) hol;refine qzg (h'.ext (bT B b)) (λp R L v d a=>?_) (by rw [ht.o];exact hol);rw [ht.o] at d;exact zde (u.ext a).rd v.rd (j.ext a) d λw4 e=>cF rfl (D w4 (bT (bT b a) e))
 ·have B:=bT r f;refine cF rfl (qs1 (h.ext B) λs b=>qs1 (h'.ext (bT B b)) λL a=>?_);have x:=bT (bT B b) a;rw [ht.c];refine cT (by simp only [beq_self_eq_true,Bool.and_self]) (zjg (h.ext x) (h'.ext x) ht.m λw4 e=>cT rfl ?_);have y:=bT x e;refine zeb (h.ext y) (h'.ext y) hn hn' ht.i ht.t hl λY z=>cT rfl ?_;have A:=bT y z;exact zj8 (λw1 K f=>ca w1 K (bT A f)) (λw1 K f=>cb w1 K (bT A f)) λV C=>hK V (bT A C)
end
section
variable {w w':World}
def ovI (s d a:Int):Int:=(s*a+d*(255-a)+127)/255
theorem zgm {s d a:Int} (hs:Xy s) (hd:Xy d) (ha:Xy a):u8.wrap (i64.wrap ((i64.wrap ((i64.wrap ((i64.wrap ((i64.wrap s)*(i64.wrap a)))+(i64.wrap ((i64.wrap d)*(i64.wrap ((255:Int)-(i64.wrap a)))))))+(127:Int))).tdiv (255:Int)))=ovI s d a/\Xy (ovI s d a):=by
 obtain ⟨c,e⟩:=hs;obtain ⟨f,g⟩:=hd;obtain ⟨b,h⟩:=ha;rw [qM (x:=s) (by omega),qM (x:=d) (by omega),qM (x:=a) (by omega),qM (x:=255-a) (by omega)];have i:0<=s*a:=Int.mul_nonneg c b;have j:s*a<=255*a:=Int.mul_le_mul_of_nonneg_right e b;have k:0<=d*(255-a):=Int.mul_nonneg f (by omega);have l:d*(255-a)<=255*(255-a):=Int.mul_le_mul_of_nonneg_right g (by omega);unfold ovI Xy;generalize s*a=X at *;generalize d*(255-a)=Y at *;rw [qM (x:=X) (by omega),qM (x:=Y) (by omega),qM (x:=X+Y) (by omega),qM (x:=X+Y+127) (by omega),Int.tdiv_eq_ediv_of_nonneg (by omega)];rw [qM (x:=(X+Y+127)/255) (by omega)];exact ⟨IntWalk.u8_in _ (by omega),by omega,by omega⟩
def ovC (d s:qt):qt:=⟨ovI s.e0 d.e0 s.e3,ovI s.e1 d.e1 s.e3,ovI s.e2 d.e2 s.e3,255⟩
theorem zhn {d s:qt} (hd:Xy d.e0/\Xy d.e1/\Xy d.e2) (hs:Xy s.e0/\Xy s.e1/\Xy s.e2) (h3:Xy s.e3) {K:qt->Ub} (hK:∀w',Uc w w'->K (ovC d s) w'):yL d s w K:=by
 refine qxj _ _ ?_;refine nwb λG Q H s1=>nwb λR T l s2=>nwb λb U f s3=>nwb λw4 V g s4=>?_;have W:=bT (bT H l) (bT f g);have z1:=H.size;have z2:=l.size;have z3:=f.size;refine xR V rfl λw5 X J s5=>?_;have k1:∀{a},Chg (λk=>k=b.heap.size) w4 a->Blk a w.heap.size qK (qt.rep.cells d)/\Blk a G.heap.size qK (qt.rep.cells s)/\Blk a R.heap.size qK [(.int .u8 0),(.int .u8 0),(.int .u8 0),(.int .u8 0)]:=λm=>⟨(((Q.ext l).ext f).ext g).chg m (by omega),((T.ext f).ext g).chg m (by omega),(U.ext g).chg m (by omega)⟩;obtain ⟨L,n,M⟩:=k1 J;refine ⟨⟨by decide,by decide⟩,lI (x:=s.e3) (n.cells 3 _ rfl) ?_⟩;refine lpR (λ(o:Int×Unit) w6=>∃k:Nat,o.1=(k:Int)/\k<=3/\Blk w6 b.heap.size qK (zmc (ovC d s) k)/\Chg (λk=>k=b.heap.size) w4 w6) (λo=>3-o.1.toNat) ⟨0,rfl,by omega,X,J⟩ ?_;rintro ⟨i,u⟩ w6 ⟨k,N,hk,O,p⟩ I hI;dsimp only at N ⊢;subst N;obtain ⟨L,n,M⟩:=k1 p;refine cO (λe=>?_) λe=>?_
 ·have e:=oTq e;have q:i64.wrap ((k:Int)+1)=((k+1:Nat):Int):=by rw [qM (by omega)];omega
  have t:∀{x y:Int} {a},Xy x->Xy y->(qt.rep.cells s)[k]?=some (.int .u8 x)->(qt.rep.cells d)[k]?=some (.int .u8 y)->zmc (ovC d s) (k+1)=putL (zmc (ovC d s) k) k [.int .u8 (ovI x y s.e3)]->a=w6.drew ->
    ixA (⟨G.heap.size,0,none⟩:Addr) 4 (k:Int) 1 λv=>ldI .u8 v a λz=>ixA (⟨w.heap.size,0,none⟩:Addr) 4 (k:Int) 1 λA=>ldI .u8 A a λB=>(255:Int)≠0/\ixA (⟨b.heap.size,0,none⟩:Addr) 4 (k:Int) 1 λC=>
    stK C [(.int .u8 (u8.wrap (i64.wrap ((i64.wrap ((i64.wrap ((i64.wrap ((i64.wrap z)*(i64.wrap s.e3)))+(i64.wrap ((i64.wrap B)*(i64.wrap ((255:Int)-(i64.wrap s.e3)))))))+(127:Int))).tdiv (255:Int)))))] a λj=>
    I ((i64.wrap ((k:Int)+(1:Int))),()) j:=by
   rintro x y a Y Z D E c rfl;refine ⟨⟨by omega,by omega⟩,lI (x:=x) (by rw [toNat_natCast,mul_one];exact n.drew.cells k _ D) ⟨⟨by omega,by omega⟩,lI (x:=y) (by rw [toNat_natCast,mul_one];exact L.drew.cells k _ E) ⟨by decide,⟨by omega,by omega⟩,?_⟩⟩⟩;rw [(zgm Y Z h3).1,toNat_natCast,mul_one,qC];refine qD O.drew (by rw [zia,List.length_singleton];omega) λj P g7 s7=>?_;rw [Nat.zero_add,<-c] at P;rw [q];exact hI _ _ ⟨k+1,rfl,by omega,P,(p.trans (Chg.of_ext (S:=λk=>k=b.heap.size) (bdw w6)) λ_ _ h=>h).trans (Go.Vc.Chg.gg g7) λ_ _ h=>h⟩ (by show 3-((k+1:Nat):Int).toNat<3-((k:Nat):Int).toNat;omega)
  have F:k=0\/k=1\/k=2:=by omega
  rcases F with rfl | rfl | rfl
  ·exact t hs.1 hd.1 rfl rfl rfl rfl
  ·exact t hs.2.1 hd.2.1 rfl rfl rfl rfl
  ·exact t hs.2.2 hd.2.2 rfl rfl rfl rfl
 ·have e:=oFq e;obtain rfl:k=3:=by omega
  refine qz (r:=qt.rep) (x:=ovC d s) O.cells ?_;refine zN (r:=qt.rep) (x:=ovC d s) M rfl rfl λj c7 s7=>hK j ?_;have B6:Uc w w6:=b1o W p (by omega);exact b1o B6 c7 (by omega)
theorem zot {q:Slc} {c:List UInt8} {cw ch:Nat} (hq:Rd qo w q c) (hql:∀a,q.a=some a->a.block<w.heap.size) (hc:c.length=4*cw*ch) (h1:1<=cw/\cw<=1000) (h2:1<=ch/\ch<=1000) {K:qf->Ub} (hK:∀q' w',Go.Vc.Own qo w' w.heap.size q' c->Uc w w'->K ⟨cw,ch,q'⟩ w'):qmg ⟨cw,ch,q⟩ 0 0 cw ch w K:=by
 refine qz7 _ _ _ _ _ ?_;refine nwb λw1 b1 X s1=>nwb λw2 b2 B s2=>?_;have BB:=bT X B;have z1:=X.size;have z2:=B.size;have f:=b1.ext B;refine lI (x:=cw) (f.cells 0 _ rfl) (qyg (by decide) (by omega) (by omega) (by omega) ?_);refine lI (x:=ch) (f.cells 1 _ rfl) (qyg (by decide) (by omega) (by omega) (by omega) ?_);refine jpO λJ1 C=>cF (dFq (by omega)) (cF (dFq (by omega)) ?_);refine qz (r:=qf.rep) (x:=⟨cw,ch,q⟩) f.cells ?_;refine qkf (m:=⟨cw,ch,q⟩) (P:=c) (W:=cw) (H:=ch) hq.n rfl rfl hc h1 h2 λw4 Y=>cF rfl (C _ _ ?_);have z4:=Y.size;have e1:i64.wrap ((0:Int)+cw-0)=cw:=by rw [qM (by omega)];omega
 have D:i64.wrap ((0:Int)+ch-0)=ch:=by rw [qM (by omega)];omega
 rw [e1,D];refine jS rfl λw7 b7 Z s7=>?_;have o:=bT Y Z;have E:=bT BB o;have F:=f.ext o;have G:=b2.ext o;have z7:=Z.size;have aa:4*cw*ch<=4*1000*1000:=mul_le_mul (Nat.mul_le_mul_left 4 h1.2) h2.2;refine lpR (λ(J:Int×Unit) w8=>∃(k:Nat) (q':Slc),J.1=(k:Int)/\k<=ch/\Go.Vc.Own qo w8 w.heap.size q' (c.take (4*(k*cw)))/\Blk w8 w4.heap.size qx [(Ua cw),(Ua ch),(.slice q'.a q'.n q'.c)]/\Blk w8 w.heap.size qx (qf.rep.cells ⟨cw,ch,q⟩)/\Blk w8 w1.heap.size qx [(Ua 0),(Ua 0),(.slice none 0 0)]/\Uc w w8) (λJ=>ch-J.1.toNat)
  ⟨0,⟨none,0,0⟩,rfl,by omega,(by rw [Nat.zero_mul];exact Go.Vc.Own.nil _ _ _),b7,F,G,E⟩ ?_
 rintro ⟨i,u⟩ w8 ⟨k,q',L,hk,b,g,d,h,M⟩ I hI;dsimp only at L ⊢;subst L;refine cO (λe=>?_) λe=>?_
 ·have e:=oTq e;have e:k<ch:=by omega
  have p:=bT M (bdw w8);refine lSl (x:=q') (g.drew.cells 2 _ rfl) (lSl (x:=q) (d.drew.cells 2 _ rfl) (lI (x:=cw) (d.drew.cells 0 _ rfl) (lI (x:=cw) (d.drew.cells 0 _ rfl) ?_)));have ab:k*cw+cw<=cw*ch:=by
   have:(k+1)*cw<=ch*cw:=Nat.mul_le_mul_right cw e;rw [add_mul,Nat.one_mul,Nat.mul_comm ch] at this;exact this
  have h4:4*cw*ch=4*(cw*ch):=mul_assoc _ _ _;have ek:(k:Int)*(cw:Int)=((k*cw:Nat):Int):=by simp
  have e2:i64.wrap ((4:Int)*(i64.wrap ((i64.wrap ((k:Int)*cw))+0)))=((4*(k*cw):Nat):Int):=by
   rw [ek];generalize k*cw=z at *;rw [qM (x:=((z:Nat):Int)) (by omega),Int.add_zero,qM (x:=((z:Nat):Int)) (by omega),qM (by omega)];omega
  have e3:i64.wrap ((4:Int)*(i64.wrap ((i64.wrap ((k:Int)*cw))+(0+cw))))=((4*(k*cw+cw):Nat):Int):=by
   rw [ek];generalize k*cw=z at *;rw [qM (x:=((z:Nat):Int)) (by omega),Int.zero_add,qM (x:=((z:Nat):Int)+cw) (by omega),qM (by omega)];omega
  rw [e2,e3];refine (hq.ext p).slK (l:=4*(k*cw)) (m:=4*(k*cw+cw)) rfl (.inr rfl) (.inr rfl) (by omega) (by omega) λN=>?_;have s:((c.take (4*(k*cw+cw))).drop (4*(k*cw))).length=4*cw:=by rw [List.length_drop,length_take];omega
  have t:(c.take (4*(k*cw))).length=4*(k*cw):=by rw [length_take];omega
  refine jW qN b.drew N (by show w.heap.size<=w8.heap.size;exact M.size) (by rw [jV,t,s];omega) (by rw [t,s];unfold maxLen;omega) λr A v O ac=>?_;have c9:Chg (λk=>q'.blk=some k) w8.drew A:=Chg.of_grown (S:=λk=>q'.blk=some k) O λk hk=>hk;have y:=g.drew.chg c9 ((λe=>qI b g (by decide) _ e rfl));have Q:=d.drew.chg c9 ((λe=>qI b d (by decide) _ e rfl));have R:=h.drew.chg c9 ((λe=>qI b h (by decide) _ e rfl));have B9:Uc w A:=p.trans (c9.below p.size λi L hs=>by have:=(b.lt i hs).1;omega);rw [qC];refine qD y (by simp) λad T U ae=>?_;have j:=Go.Vc.Chg.gg U;have V:i64.wrap ((k:Int)+1)=((k+1:Nat):Int):=by rw [qM (by omega)];omega
  rw [V];refine hI _ _ ⟨k+1,r,rfl,e,?_,T,Q.chg j (by omega),R.chg j (by omega),b1o B9 j (by omega)⟩ (by show ch-((k+1:Nat):Int).toNat<ch-((k:Nat):Int).toNat;omega);have:c.take (4*((k+1)*cw))=c.take (4*(k*cw))++(c.take (4*(k*cw+cw))).drop (4*(k*cw)):=by
   have e4:(k+1)*cw=k*cw+cw:=by rw [add_mul,Nat.one_mul]
   rw [e4];have:=List.take_append_drop (4*(k*cw)) (c.take (4*(k*cw+cw)));rw [List.take_take,Nat.min_eq_left (by omega)] at this;exact this.symm
  rw [this];exact v.chg j (qI v y (by decide))
 ·have e:=oFq e;obtain rfl:k=ch:=by omega
  rw [List.take_of_length_le (by rw [hc,mul_assoc,Nat.mul_comm cw];omega)] at b;refine qz (r:=qf.rep) (x:=⟨cw,k,q'⟩) g.cells ?_;refine zN (r:=qf.rep) (x:=⟨cw,k,q'⟩) h rfl rfl λA c9 s9=>hK q' A (b.chg c9 (qI b h (by decide))) (b1o M c9 z1)
end
def ovB (s d a:UInt8):UInt8:=UInt8.ofNat ((s.toNat*a.toNat+d.toNat*(255-a.toNat)+127)/255)
def zl5 (P:List UInt8) (o:Nat) (c:List UInt8) (k:Nat):List UInt8:=[ovB (c.getD k 0) (P.getD o 0) (c.getD (k+3) 0),ovB (c.getD (k+1) 0) (P.getD (o+1) 0) (c.getD (k+3) 0),ovB (c.getD (k+2) 0) (P.getD (o+2) 0) (c.getD (k+3) 0),255]
def qnb (c P:List UInt8) (o k:Nat):Nat->List UInt8
 | 0=>P
 | n+1=>qlv (qnb c P o k n) (o+4*n) (zl5 (qnb c P o k n) (o+4*n) c (k+4*n))
def ovP (c P:List UInt8) (W x y cw:Nat):Nat->List UInt8
 | 0=>P
 | n+1=>qnb c (ovP c P W x y cw n) (4*((y+n)*W+x)) (4*(n*cw)) cw
theorem qtr {c P:List UInt8} {o k:Nat}:∀{n:Nat},o+4*n<=P.length->(qnb c P o k n).length=P.length
 | 0,_=>rfl
 | n+1,h=>by
  have:=qtr (c:=c) (P:=P) (o:=o) (k:=k) (n:=n) (by omega);unfold qnb;rw [Ye (by omega) rfl,this]
theorem qyn {c P:List UInt8} {W x y cw H:Nat} (hP:P.length=4*W*H) (hx:x+cw<=W):∀{n:Nat},y+n<=H->(ovP c P W x y cw n).length=P.length
 | 0,_=>rfl
 | n+1,h=>by
  have:=qyn (c:=c) (P:=P) (W:=W) (x:=x) (y:=y) (cw:=cw) hP hx (n:=n) (by omega);unfold ovP;have a:(y+n+1)*W<=H*W:=Nat.mul_le_mul_right W h;rw [add_mul,Nat.one_mul] at a;have b:4*W*H=4*(H*W):=by rw [mul_assoc,Nat.mul_comm W]
  rw [qtr (by omega),this]
theorem zlc (s d a:UInt8):((ovB s d a).toNat:Int)=ovI s.toNat d.toNat a.toNat:=by
 have b:=s.toNat_lt;have c:=d.toNat_lt;have f:=a.toNat_lt;unfold ovB ovI;have g:s.toNat*a.toNat<=255*a.toNat:=Nat.mul_le_mul_right _ (by omega);have h:d.toNat*(255-a.toNat)<=255*(255-a.toNat):=Nat.mul_le_mul_right _ (by omega);rw [UInt8.toNat_ofNat',Nat.mod_eq_of_lt (by omega)];have e:(255:Int)-(a.toNat:Int)=((255-a.toNat:Nat):Int):=by omega
 rw [e]
 push_cast
 rfl
theorem zbo (P:List UInt8) (o:Nat) (c:List UInt8) (k:Nat):qt.rep.cells (ovC (KO P o) (KO c k))=jT (zl5 P o c k):=by
 show [_,_,_,_]=[_,_,_,_];unfold ovC KO;simp only [zlc];rfl
section
variable {w w':World} {base W H:Nat} {m:qf} {P:List UInt8}
theorem zol (h:MatM w base m W H P) (hW:W<=1000) (hH:H<=1000) {q:Slc} {c:List UInt8} (hq:Rd qo w q c) (hqs:∀a,q.a=some a->a.spot=none) (hqn:∀a,q.a=some a->m.P.blk≠some a.block) {cw ch:Nat} (hc:c.length=4*cw*ch) (h1:1<=cw) (h2:1<=ch) {x y:Nat} (hx:x+cw<=W) (hy:y+ch<=H) {K:Ub}
  (hK:∀w',MatM w' base m W H (ovP c P W x y cw ch)->Chg (λk=>m.P.blk=some k) w w'->K w'):qoj m ⟨cw,ch,q⟩ (x:Int) (y:Int) cw ch w K:=by
 refine qyq _ _ _ _ _ _ ?_;obtain ⟨A,ha,aa⟩:=h.some_;have V:=h.lim;have gl:=(h.own.lt A aa).2;refine nwb λw1 bb B1 s1=>nwb λw2 bc B2 s2=>?_;have BB:=bT B1 B2;have z1:=B1.size;have z2:=B2.size;have al:=bb.ext B2;have b8:4*W*H<=4*1000*1000:=mul_le_mul (Nat.mul_le_mul_left 4 hW) hH;have b9:4*cw*ch<=4*1000*1000:=mul_le_mul (Nat.mul_le_mul_left 4 (by omega)) (by omega);refine jpO λJ1 bd=>qz (r:=qf.rep) (x:=m) al.cells ?_;refine qkf (P:=P) h.own.rd.n h.hw h.hh h.len ⟨V.1,hW⟩ ⟨V.2.2.1,hH⟩ λw3 B3=>cF rfl ?_;have am:=bc.ext B3;have be:=al.ext B3;refine qz (r:=qf.rep) (x:=⟨cw,ch,q⟩) am.cells ?_;refine qkf (m:=⟨cw,ch,q⟩) (P:=c) (W:=cw) (H:=ch) hq.n rfl rfl hc ⟨h1,by omega⟩ ⟨h2,by omega⟩ λw4 B4=>cF rfl (bd _ _ ?_);have z3:=B3.size;have z4:=B4.size;have bf:=am.ext B4;have ab:=be.ext B4;have N:=bT (bT BB B3) B4;refine lI (x:=(W:Int)) (by rw [<-h.hw];exact ab.cells 0 _ rfl) (qyg (by omega) (by omega) (by omega) (by omega) ?_);refine lI (x:=(H:Int)) (by rw [<-h.hh];exact ab.cells 1 _ rfl) (qyg (by omega) (by omega) (by omega) (by omega) ?_);have bg:=h.ext N;have kp:∀{d},Chg (λk=>k=A) w4 d->Blk d w.heap.size qx (qf.rep.cells m)/\Blk d w1.heap.size qx (qf.rep.cells ⟨cw,ch,q⟩):=λhc=>⟨ab.chg hc (by omega),bf.chg hc (by omega)⟩;have bh:∀{d Q},Q=ovP c P W x y cw ch->MatM d base m W H Q->Chg (λk=>k=A) w4 d->K d:=λhQ hM bi=>by
  rw [hQ] at hM;exact hK _ hM ((Chg.of_ext N).trans (bi.mono λk hk e=>by show m.P.blk=some k;rw [e];exact aa) λ_ _ h=>h)
 refine lpR (λ(st:Int×Unit) w5=>∃k:Nat,st.1=(y:Int)+k/\k<=ch/\MatM w5 base m W H (ovP c P W x y cw k)/\Chg (λk=>k=A) w4 w5) (λst=>ch-(st.1-(y:Int)).toNat) ⟨0,by omega,by omega,bg,Chg.refl _ _⟩ ?_;rintro ⟨i,u⟩ w5 ⟨k,hi,hk,ac,c5⟩ I hI;dsimp only at hi ⊢;subst hi;refine cO (λe=>?_) λe=>?_
 ·have e:=oTq e;have e:k<ch:=by omega
  obtain ⟨Q,hQ⟩:∃Q,Q=ovP c P W x y cw k:=⟨_,rfl⟩;rw [<-hQ] at ac;obtain ⟨X,an⟩:∃o,o=4*((y+k)*W+x):=⟨_,rfl⟩;have ca:Q.length=4*W*H:=by rw [hQ,qyn h.len hx (by omega),h.len]
  refine lpR (λ(st:Int×Unit) w6=>∃j:Nat,st.1=(x:Int)+j/\j<=cw/\MatM w6 base m W H (qnb c Q X (4*(k*cw)) j)/\Chg (λk=>k=A) w4 w6) (λst=>cw-(st.1-(x:Int)).toNat) ⟨0,by omega,by omega,ac,c5⟩ ?_;rintro ⟨i2,u2⟩ w6 ⟨j,ao,hj,p,c6⟩ I2 hI2;dsimp only at ao ⊢;subst ao;refine cO (λB=>?_) λB=>?_
  ·have B:=oTq B;have B:j<cw:=by omega
   obtain ⟨R,hR⟩:∃R,R=qnb c Q X (4*(k*cw)) j:=⟨_,rfl⟩;rw [<-hR] at p;have ad:R.length=4*W*H:=p.len;have hp:=qrc (W:=W) (H:=H) (x:=x+j) (y:=y+k) (by omega) (by omega);obtain ⟨o,ho⟩:∃o,o=4*((y+k)*W+(x+j)):=⟨_,rfl⟩;have bj:o=X+4*j:=by rw [ho,an];omega
   have ae:4*((y+k)*W+(x+j))+4<=R.length:=by rw [ad];exact hp
   have bk:=qrc (W:=cw) (H:=ch) (x:=j) (y:=k) B e;obtain ⟨kc,ap⟩:∃kc,kc=4*(k*cw+j):=⟨_,rfl⟩;have bl:kc=4*(k*cw)+4*j:=by rw [ap];omega
   obtain ⟨q1,Y⟩:=kp c6;have q1:=q1.drew;have Y:=Y.drew;have aq:MatM w6.drew base m W H R:=⟨p.hw,p.hh,p.own.drew,p.len,p.lim⟩;have bm:Rd qo w6.drew q c:=((hq.ext N).chg c6 λa bn e=>hqn a bn (by rw [e];exact aa)).drew;have ey:((y:Int)+(k:Int))=((y+k:Nat):Int):=by omega
   have ex:((x:Int)+(j:Int))=((x+j:Nat):Int):=by omega
   rw [ey,ex];have tt:∀{a b n:Nat},b<n->n<=1000->(i64.wrap ((i64.wrap ((i64.wrap (((a+b:Nat):Int)-(a:Int)))*(n:Int))).tdiv (n:Int)))=(b:Int):=λ{a b n} hb hn=>by
    have e1:((a+b:Nat):Int)-(a:Int)=(b:Int):=by omega
    have cb:b*n<=1000*1000:=mul_le_mul (by omega) hn;have B:(b:Int)*(n:Int)=((b*n:Nat):Int):=by simp
    have e3:((b*n:Nat):Int).tdiv (n:Int)=(b:Int):=by rw [<-B];exact Int.mul_tdiv_cancel _ (by omega)
    rw [e1,qM (x:=(b:Int)) (by omega),B,qM (x:=((b*n:Nat):Int)) (by omega),e3,qM (by omega)]
   refine qz (r:=qf.rep) (x:=m) q1.cells (qz (r:=qf.rep) (x:=⟨cw,ch,q⟩) Y.cells (lI (x:=cw) (Y.cells 0 _ rfl) ⟨by omega,lI (x:=ch) (Y.cells 1 _ rfl) ⟨by omega,?_⟩⟩));rw [tt B (by omega),tt e (by omega)];have f2:∀{d},Below w6.drew.heap.size w6.drew d->d.cell? ((⟨w1.heap.size,0,none⟩:Addr).add 1)=some (Ua ch)/\d.cell? ((⟨w1.heap.size,0,none⟩:Addr).add 0)=some (Ua cw)/\qG d ⟨w1.heap.size,0,none⟩ (qf.rep.cells ⟨cw,ch,q⟩):=λC=>⟨(Y.ext C).cells 1 _ rfl,(Y.ext C).cells 0 _ rfl,(Y.ext C).cells⟩;have f1:∀{d},Below w6.drew.heap.size w6.drew d->qG d ⟨w.heap.size,0,none⟩ (qf.rep.cells m):=λC=>(q1.ext C).cells;have a1:∀{d} {K2:qt->Ub},Below w6.drew.heap.size w6.drew d->(∀w',Uc d w'->K2 (KO R o) w')->yJ m ((x+j:Nat):Int) ((y+k:Nat):Int) d K2:=λC s=>by
    rw [ho] at s;exact q3b (aq.own.rd.ext C) (λa hh=>by rw [ha] at hh;cases hh;rfl) h.hw ae (by rw [ad];omega) s
   have a2:∀{d} {K2:qt->Ub},Below w6.drew.heap.size w6.drew d->(∀w',Uc d w'->K2 (KO c kc) w')->yJ ⟨cw,ch,q⟩ (j:Int) (k:Int) d K2:=λC s=>by
    rw [ap] at s;exact q3b (m:=⟨cw,ch,q⟩) (W:=cw) (x:=j) (y:=k) (bm.ext C) hqs rfl (by rw [hc];exact bk) (by rw [hc];omega) s
   have a3:∀{d} {K2:qt->Ub},(∀w',Uc d w'->K2 (ovC (KO R o) (KO c kc)) w')->yL (KO R o) (KO c kc) d K2:=λs=>
    zhn (q0o _ _) (q0o _ _) (by show Xy (((c.getD (kc+3) 0).toNat:Nat):Int);exact ⟨by omega,by have:=(c.getD (kc+3) 0).toNat_lt;omega⟩) s
   obtain ⟨O,af⟩:∃O,O=zl5 R o c kc:=⟨_,rfl⟩;have f:O.length=4:=by rw [af];rfl
   have put:∀{d:World} {b:Nat},Below w6.drew.heap.size w6.drew d->w6.drew.heap.size<=b->Blk d b qK [(.int .u8 0),(.int .u8 0),(.int .u8 0),(.int .u8 0)] ->
     stK ⟨b,0,none⟩ (qt.rep.cells (ovC (KO R o) (KO c kc))) d λg=>
     zW ((⟨w.heap.size,0,none⟩:Addr).add 2) g.drew λbo=>
     ldI .i64 ((⟨w.heap.size,0,none⟩:Addr).add 0) g.drew λbp=>
     slK bo (some (i64.wrap ((4:Int)*(i64.wrap ((i64.wrap (((y+k:Nat):Int)*bp))+((x+j:Nat):Int)))))) none 1 λah=>
     slA ⟨b,0,none⟩ 4 none none 1 λai=>
     zO PG (copy_ #[qj,qj] zJ #[(.slice ah.a ah.n ah.c),(.slice ai.a ai.n ai.c)]) (Kind.int .i64) g.drew λ(cc:Int) T =>
     I2 ((i64.wrap (((x+j:Nat):Int)+(1:Int))),()) T:=by
    intro d b C hb bq;rw [zbo,<-af];refine xR bq (by rw [Qm,f];rfl) λg br bs cd=>?_;have ce:A<w6.drew.heap.size:=by have:=c6.size;show A<w6.heap.size;have:=N.size;omega
    have aj:=b1o C bs hb;have ar:=(q1.ext aj).drew;refine lSl (x:=m.P) (ar.cells 2 _ rfl) (lI (x:=(W:Int)) (by rw [<-h.hw];exact ar.cells 0 _ rfl) ?_);have au:i64.wrap ((4:Int)*i64.wrap (i64.wrap (((y+k:Nat):Int)*(W:Int))+((x+j:Nat):Int)))=((4*((y+k)*W+(x+j)):Nat):Int):=by
     have e1:((y+k:Nat):Int)*(W:Int)=(((y+k)*W:Nat):Int):=by simp
     rw [e1];generalize (y+k)*W=qq at hp ⊢;rw [qM (x:=((qq:Nat):Int)) (by omega),qM (x:=((qq:Nat):Int)+((x+j:Nat):Int)) (by omega),qM (by omega)];omega
    rw [au,<-ho];rw [<-ho] at hp ae;have ak:Go.Vc.Own qo g.drew base m.P R:=(aq.own.ext aj).drew;refine ak.rd.slK (l:=o) (m:=R.length) rfl (.inr rfl) (.inl ⟨rfl,rfl⟩) (by omega) (le_refl _) λ_=>?_;obtain ⟨cur,Z,cf,cg,ci,b5,b6,b7⟩:=qki (c:=0) ak ha;have av:cut m.P.a o m.P.c qo.k=some ⟨A,o,none⟩:=by
     unfold cut;rw [if_neg (by omega),ha];show some ((⟨A,0,none⟩:Addr).add (o*1))=_;rw [qC,mul_one,Nat.zero_add]
    rw [av];have bt:Rd qo g.drew ⟨some ⟨b,0,none⟩,4,4⟩ O:=by
     refine ⟨f.symm,le_refl _,by simp [maxLen],λ_=>rfl,λi z hz=>?_⟩;have aw:=br.drew.cells i (.int .u8 (z.toNat:Int)) (by unfold jT;rw [List.getElem?_map,hz];rfl);intro jj v D
     match jj,D with
     | 0,D =>
      cases D;show g.drew.cell? (((⟨b,0,none⟩:Addr).add (i*1)).add 0)=_;rw [add_zero,mul_one];exact aw
     | jj+1,D=>simp [qo] at D
    show zO PG (copy_ #[qj,qj] zJ #[(.slice (some ⟨A,o,none⟩) (R.length-o) (m.P.c-o)),(.slice (some ((⟨b,0,none⟩:Addr).add (0*1))) 4 4)]) (Kind.int .i64) g.drew _;rw [Nat.zero_mul,add_zero];refine q3v (x:=⟨some ⟨b,0,none⟩,4,4⟩) (ys:=O) (n:=4) Z bt (by rw [f];omega) (by omega) λT ax bu cj=>?_;rw [List.take_of_length_le (by rw [f];omega)] at ax;have bv:=qpa (ys:=O) (k:=o) ak ha Z (by rw [f];omega) ax;rw [qM (x:=((x+j:Nat):Int)+1) (by omega)];have bw:Chg (λk=>k=A) w4 T:=by
     refine ((c6.trans ((Chg.of_ext (S:=λk=>k=A) (bT (bdw w6) aj)).trans (Chg.of_ext (S:=λk=>k=A) (bdw g)) λ_ _ h=>h) λ_ _ h=>h)).trans bu λ_ _ h=>h
    have ay:qnb c Q X (4*(k*cw)) (j+1)=qlv R o O:=by
     show qlv (qnb c Q X (4*(k*cw)) j) (X+4*j) (zl5 (qnb c Q X (4*(k*cw)) j) (X+4*j) c (4*(k*cw)+4*j))=_;rw [<-hR,<-bj,<-bl,<-af]
    refine hI2 _ _ ⟨j+1,by omega,B,?_,bw⟩ (by dsimp only;omega);rw [ay];refine ⟨h.hw,h.hh,?_,?_,h.lim⟩
    ·show Go.Vc.Own qo T base m.P (qlv R o O);unfold qlv;rw [<-f];exact bv
    ·show (qlv R o O).length=4*W*H;rw [Ye ae f,ad]
   have B0:=Below.refl w6.drew.heap.size w6.drew;refine ⟨a1 B0 λw8 B8=>?_,nwb λck bx U cl=>?_⟩
   ·obtain ⟨E,F,G⟩:=f2 B8;have z8:=B8.size;refine ⟨E,F,G,a2 B8 λw9 B9=>?_,nwb λcm bz b0 cn=>?_⟩
    ·have az:=bT B8 B9;have z9:=B9.size;refine ⟨a3 λco a4=>nwb λcp b1 b2 cq=>?_,nwb λcr b3 b4 cs=>?_⟩
     ·have J:=bT (bT az a4) b2;have ct:=a4.size;obtain ⟨E,F,G⟩:=f2 J;exact ⟨E,F,G,f1 J,put J (by omega) b1⟩
     ·have L:=bT az b4;obtain ⟨E,F,G⟩:=f2 L;refine ⟨E,F,G,f1 L,a3 λcu a5=>put (bT L a5) (by omega) (b3.ext a5)⟩
    ·have t:=bT B8 b0;obtain ⟨E,F,G⟩:=f2 t;refine ⟨E,F,G,f1 t,a2 t λcv a6=>a3 λcx a7=>put (bT (bT t a6) a7) (by omega) ((bz.ext a6).ext a7)⟩
   ·obtain ⟨E,F,G⟩:=f2 U;refine ⟨E,F,G,f1 U,a1 U λcy a8=>?_⟩;have M:=bT U a8;obtain ⟨E,F,G⟩:=f2 M;refine ⟨E,F,G,a2 M λcz a9=>a3 λc0 ba=>put (bT (bT M a9) ba) (le_refl _) (((bx.ext a8).ext a9).ext ba)⟩
  ·have B:=oFq B;obtain rfl:j=cw:=by omega
   rw [qM (x:=(y:Int)+(k:Int)+1) (by omega)];refine hI _ _ ⟨k+1,by omega,e,?_,c6⟩ (by dsimp only;omega);show MatM w6 base m W H (qnb c (ovP c P W x y j k) (4*((y+k)*W+x)) (4*(k*j)) j);rw [<-hQ,<-an];exact p
 ·have e:=oFq e;obtain rfl:k=ch:=by omega
  exact bh rfl ac c5
end
structure PlD where
 p:qm
 cw:Nat
 ch:Nat
 c:List UInt8
 x:Nat
 y:Nat
structure PlOk (w:World) (s:qy) (I:List (Int×qf)) (W H:Nat) (d:PlD):Prop where
 img:∃q,zy I d.p.Image=some ⟨d.cw,d.ch,q⟩/\Rd qo w q d.c
 len:d.c.length=4*d.cw*d.ch
 cw1:1<=d.cw
 ch1:1<=d.ch
 part:d.p.X=0/\d.p.Y=0/\d.p.W=d.cw/\d.p.H=d.ch
 cel:zaa d.cw d.ch d.p.DX d.p.DY s.CellW s.CellH=(d.p.Rows,d.p.Cols)
 rx:0<=d.p.Col*s.CellW/\0<=d.p.DX/\d.p.Col*s.CellW+d.p.DX=d.x
 ln:0<=d.p.Line-s.Top/\d.p.Line-s.Top<=1000000
 ry:0<=(d.p.Line-s.Top)*s.CellH/\0<=d.p.DY/\(d.p.Line-s.Top)*s.CellH+d.p.DY=d.y
 inx:d.x+d.cw<=W
 iny:d.y+d.ch<=H
def q5f (W:Nat) (ab:Bool) (P:List UInt8) (d:PlD):List UInt8:=if decide (d.p.Z>=0)=ab then ovP d.c P W d.x d.y d.cw d.ch else P
def qmm (W:Nat) (ab:Bool) (D:List PlD) (P:List UInt8):List UInt8:=D.foldl (q5f W ab) P
section
variable {w w':World} {base W H r:Nat} {m:qf} {P:List UInt8} {s:qy} {I:List (Int×qf)}
theorem zik {d:PlD} (h:PlOk w s I W H d) (hW:W<=1000) (hH:H<=1000) {w0:World} {K:Int->Int->Int->Int->Ub} (hK:∀w',Uc w0 w'->K d.x d.y d.cw d.ch w'):qb6 s d.p w0 K:=by
 obtain ⟨A,B,i,j⟩:=h.part;have U:=h.inx;have V:=h.iny;have C:=h.cw1;have D:=h.ch1;obtain ⟨E,F,k⟩:=h.rx;obtain ⟨G,J,l⟩:=h.ry;obtain ⟨X,Y⟩:=h.ln;refine qsn _ _ ?_;refine nwb λZ L M s1=>nwb λN O u s2=>?_;have f:=(L.ext u).drew;have a:=O.drew;have P:=bT (bT M u) (bdw N);refine lI (x:=d.cw) (by rw [<-i];exact a.cells 9 _ rfl) (lI (x:=d.ch) (by rw [<-j];exact a.cells 10 _ rfl) (jpO λJ1 m=>?_));refine lI (x:=d.cw) (by rw [<-i];exact a.cells 9 _ rfl) (lI (x:=d.ch) (by rw [<-j];exact a.cells 10 _ rfl) (lI (x:=d.p.DX) (a.cells 11 _ rfl) (lI (x:=d.p.DY) (a.cells 12 _ rfl) ?_)));refine lI (x:=s.CellW) (f.cells 2 _ rfl) (lI (x:=s.CellH) (f.cells 3 _ rfl) ?_);refine qz0 λQ n=>?_;rw [h.cel];have o:=f.ext n;have g:=a.ext n;refine jpO λJ4 q=>?_;refine lI (x:=d.p.Rows) (g.cells 5 _ rfl) (cF (bne_self_eq_false _) (lI (x:=d.p.Cols) (g.cells 6 _ rfl) ?_));dsimp only;rw [bne_self_eq_false];refine q _ _ (cF rfl (m _ _ (jpO λJ2 r=>jpO λJ3 t=>?_)));have z:∀{v:Nat},1<=v->v<=1000->(!decide ((1:Int)<=(v:Int)/\(v:Int)<=16384))=false:=λh1 h2=>by
  rw [dTq ⟨by omega,by omega⟩];rfl
 refine kf (cF (z C (by omega)) (kf (cF (z D (by omega)) ?_)));have R:decide (i64.wrap ((d.cw:Int)*d.ch)>67108864)=false:=by
  have hb:d.cw*d.ch<=1000*1000:=mul_le_mul (by omega) (by omega);have e:(d.cw:Int)*(d.ch:Int)=((d.cw*d.ch:Nat):Int):=by simp
  rw [e,qM (by omega)];exact dFq (by omega)
 rw [R];refine t _ _ (cF rfl (r _ _ ?_));have c:=o.drew;have b:=g.drew;refine lI (x:=d.p.Col) (b.cells 4 _ rfl) (lI (x:=s.CellW) (c.cells 2 _ rfl) (lI (x:=d.p.DX) (b.cells 11 _ rfl) (lI (x:=d.p.Line) (b.cells 3 _ rfl) ?_)));refine lI (x:=s.Top) (c.cells 7 _ rfl) (lI (x:=s.CellH) (c.cells 3 _ rfl) (lI (x:=d.p.DY) (b.cells 12 _ rfl) ?_));have S:i64.wrap ((i64.wrap (d.p.Col*s.CellW))+d.p.DX)=d.x:=by
  rw [qM (x:=d.p.Col*s.CellW) (by omega),k,qM (by omega)]
 have T:i64.wrap ((i64.wrap ((i64.wrap (d.p.Line-s.Top))*s.CellH))+d.p.DY)=d.y:=by
  rw [qM (x:=d.p.Line-s.Top) (by omega),qM (x:=(d.p.Line-s.Top)*s.CellH) (by omega),l,qM (by omega)]
 rw [S,T];exact hK _ (bT (bT P n) (bdw Q))
theorem zi9 {D:List PlD} {above:Bool} (hp:Rd qR w s.Places (D.map PlD.p)) (hpn:∀a,s.Places.a=some a->m.P.blk≠some a.block) (hi:s.Images=some r) (hm:jf q0c w r I) (hrn:m.P.blk≠some r)
  (hD:∀d∈D,PlOk w s I W H d) (hqn:∀d∈D,∀q,zy I d.p.Image=some ⟨d.cw,d.ch,q⟩->∀a,q.a=some a->m.P.blk≠some a.block) (hM:MatM w base m W H P) (hW:W<=1000) (hH:H<=1000) {K:qf->Ub}
  (hK:∀w',MatM w' base m W H (qmm W above D P)->Chg (λk=>m.P.blk=some k) w w'->K m w'):vJ ⟨s,above⟩ m w K:=by
 refine qhl _ _ ?_;obtain ⟨gm,ha,A⟩:=hM.some_;have gl:=(hM.own.lt gm A).2;refine nwb λw1 b1 B1 s1=>nwb λw2 b2 B2 s2=>nwb λw3 b3 B3 s3=>?_;have T:=bT (bT B1 B2) B3;have z1:=B1.size;have z2:=B2.size;have z3:=B3.size;have U:=(b1.ext B2).ext B3;have ap:=b2.ext B3;refine lSl (x:=s.Places) (by rw [jU];exact U.cells 5 _ rfl) ?_;have y:=hp.n;have a6:=hp.nc;have V:=hp.cm;rw [length_map] at y;have aq:Chg (λk=>m.P.blk=some k) w w3:=Chg.of_ext T;refine lpR (λ(st:Int×Unit) w4=>∃k:Nat,st.1=(k:Int)/\k<=D.length/\MatM w4 base m W H (qmm W above (D.take k) P)/\Blk w4 w.heap.size xJ (jb.rep.cells ⟨s,above⟩)/\Blk w4 w1.heap.size qx (qf.rep.cells m)/\Blk w4 w2.heap.size qx [(Ua 0),(Ua 0),(.slice none 0 0)]/\Chg (λk=>m.P.blk=some k) w w4) (λst=>D.length-st.1.toNat)
  ⟨0,rfl,by omega,hM.ext T,U,ap,b3,aq⟩ ?_
 rintro ⟨i,u⟩ w4 ⟨k,X,hk,l,M,Y,aa,c4⟩ I' hI;dsimp only at X ⊢;subst X;refine cO (λe=>?_) λe=>?_
 ·have e:=oTq e;rw [y] at e;have e:k<D.length:=by omega
  obtain ⟨d,hd⟩:∃d,D[k]?=some d:=⟨_,List.getElem?_eq_getElem e⟩;have ab:d∈D:=List.mem_of_getElem? hd;have F:=hD d ab;obtain ⟨q,z,hq⟩:=F.img;have ac:=hqn d ab q z;obtain ⟨ar,au,av,aw⟩:=F.part;have ix:=F.inx;have iy:=F.iny;have k1:=F.cw1;have k2:=F.ch1;have v:=F.len;have ax:D.take (k+1)=D.take k++[d]:=by rw [List.take_add_one,hd];rfl
  have ep:qmm W above (D.take (k+1)) P=q5f W above (qmm W above (D.take k) P) d:=by
   unfold qmm;rw [ax,List.foldl_append];rfl
  have ad:=hp.chg c4 hpn;have ay:D[k]=d:=Option.some.inj ((List.getElem?_eq_getElem e).symm.trans hd);refine ad.ix (E:=qR) (i:=(k:Int)) (k:=14) rfl (by omega) (by rw [length_map];omega) λae=>?_;simp only [toNat_natCast,List.getElem_map,ay] at ae;refine qz (r:=qm.rep) (x:=d.p) ae ?_;refine jS rfl λw6 b6 B6 s6=>?_;have z4:=c4.size;refine km (x:=some r) (by rw [jU,<-hi];exact (M.ext B6).cells 6 _ rfl) (lI (x:=d.p.Image) (b6.cells 0 _ rfl) ?_);have az:jf q0c w6 r I:=(hm.chg c4 hrn).ext B6;refine zlr az d.p.Image ?_;rw [z];show nw qx [(Ua 0),(Ua 0),(.slice none 0 0)] w6 λa1 w8=>stK a1 (qf.rep.cells ⟨d.cw,d.ch,q⟩) w8 _;refine jS rfl λw9 b9 B9 s9=>?_;have z6:=B6.size;have z9:=B9.size;have af:=bT B6 B9;have ah:=b6.ext B9;refine qz (r:=qy.rep) (x:=s) ?_ (qz (r:=qm.rep) (x:=d.p) ah.cells ?_)
  ·have:=(M.ext af).sub 0 (qy.rep.cells s) rfl;exact this
  refine zik F hW hH λN B=>?_;have f:=bT af B;have a7:=B.size;have O:=M.ext f;have Q:=Y.ext f;have ai:=aa.ext f;have j:=ah.ext B;have aj:=b9.ext B;have G:=l.ext f;have R:Chg (λk=>m.P.blk=some k) w N:=c4.trans (Chg.of_ext f) λ_ _ h=>h;refine jpO λJ2 a2=>?_;have e0:i64.wrap ((k:Int)+1)=((k+1:Nat):Int):=by rw [qM (by unfold maxLen at V;omega)];omega
  rw [e0];refine cF rfl (cF (beq_eq_false_iff_ne.2 (by omega)) (lI (x:=d.p.Z) (j.cells 13 _ rfl) (jw (x:=above) (O.cells 11 _ rfl) ?_)));refine cO (λec=>?_) λec=>?_
  ·have S:¬decide (d.p.Z>=0)=above:=by simpa using ec
   refine hI _ _ ⟨k+1,rfl,e,?_,O,Q,ai,R⟩ (by show D.length-((k+1:Nat):Int).toNat<D.length-((k:Nat):Int).toNat;omega);rw [ep];unfold q5f;rw [if_neg S];exact G
  ·have S:decide (d.p.Z>=0)=above:=by simpa using ec
   refine a2 _ _ (qz (r:=qf.rep) (x:=⟨d.cw,d.ch,q⟩) aj.cells (lI (x:=0) (by rw [<-ar];exact j.cells 7 _ rfl) (lI (x:=0) (by rw [<-au];exact j.cells 8 _ rfl) (lI (x:=d.cw) (by rw [<-av];exact j.cells 9 _ rfl) (lI (x:=d.ch) (by rw [<-aw];exact j.cells 10 _ rfl) ?_)))));have J:Rd qo N q d.c:=hq.chg R ac;have a5:0<4*d.cw*d.ch:=Nat.mul_pos (Nat.mul_pos (by decide) (by omega)) (by omega);refine zot J (q82 J (by omega)) v ⟨k1,by omega⟩ ⟨k2,by omega⟩ λq' a8 a3 ak=>?_;refine jS rfl λa9 L al ba=>?_;have b:=bT ak al;have bb:=ak.size;refine lI (x:=d.cw) (L.cells 0 _ rfl) (cT (dTq (by omega)) (qz (r:=qf.rep) (x:=m) (Q.ext b).cells (qz (r:=qf.rep) (x:=⟨d.cw,d.ch,q'⟩) L.cells ?_)));have o:=a3.ext al;have a4:=o.form;have am:∀a,q'.a=some a->a.spot=none/\N.heap.size<=a.block:=by
    intro a t;refine ⟨?_,(o.lt a.block (slk.2 ⟨a,t,rfl⟩)).1⟩;rcases a4 with ⟨_,e⟩ | ⟨g',cur,e,_⟩
    ·rw [e] at v;simp at v;omega
    ·rw [e] at t;cases t;rfl
   have an:=G.ext b;refine zol an hW hH o.rd (λa t=>(am a t).1) (λa t e=>?_) v k1 k2 ix iy λbc ao C=>?_
   ·have:=(am a t).2;rw [A] at e;cases e;omega
   ·have nb:∀{g:Nat},w.heap.size<=g->¬(m.P.blk=some g):=λhg e=>by rw [A] at e;cases e;omega
    refine hI _ _ ⟨k+1,e0,e,?_,(O.ext b).chg C (nb (le_refl _)),(Q.ext b).chg C (nb z1),(ai.ext b).chg C (nb (by omega)),(R.trans (Chg.of_ext b) λ_ _ h=>h).trans C λ_ _ h=>h⟩ (by dsimp only;rw [e0];omega);rw [ep];unfold q5f;rw [if_pos S];exact ao
 ·have e:=oFq e;rw [y] at e;obtain rfl:k=D.length:=by omega
  rw [take_length] at l;refine qz (r:=qf.rep) (x:=m) Y.cells ?_;refine zN (r:=qf.rep) (x:=m) aa rfl rfl λw5 c5 s5=>hK w5 ?_ ?_
  ·exact ⟨l.hw,l.hh,l.own.chg c5 (λk hk e=>by rw [A] at hk;cases hk;omega),l.len,l.lim⟩
  ·exact c4.trans c5 λi hi e=>by omega
theorem PlOk.ext {d:PlD} (h:PlOk w s I W H d) (hB:Uc w w'):PlOk w' s I W H d:=by
 obtain ⟨q,e,a⟩:=h.img;exact ⟨⟨q,e,a.ext hB⟩,h.len,h.cw1,h.ch1,h.part,h.cel,h.rx,h.ln,h.ry,h.inx,h.iny⟩
theorem img_g {D:List PlD} (hp:Rd qR w s.Places (D.map PlD.p)) (hpn:∀a,s.Places.a=some a->a.block<w.heap.size) (hi:s.Images=some r) (hm:jf q0c w r I)
  (hD:∀d∈D,PlOk w s I W H d) (hW:W<=1000) (hH:H<=1000):znu w s W H λab P=>qmm W ab D P:=λab y m z k K c f o t=>
 zi9 (hp.ext f) (λa g e=>by have:=hpn a g;have:=c _ e;omega) hi (hm.ext f) (λe=>by have:=hm.lt;have:=c _ e;omega) (λd h=>(hD d h).ext f) (λd h q u a g e=>by
  have b:=hD d h;obtain ⟨A,l,v⟩:=b.img;rw [u] at l;cases l;have n:0<4*d.cw*d.ch:=Nat.mul_pos (Nat.mul_pos (by decide) b.cw1) b.ch1;have:=q82 v (by have:=b.len;omega) a g;have:=c _ e;omega) o hW hH λx i j=>t x j i
end
section
variable {w w':World}
theorem zkm {w:World} {a b:qm} {K:Int->Ub} (hK:∀w',Uc w w'->K (i64.wrap (a.Z-b.Z)) w'):Qp a b w K:=by
 refine qfl _ _ ?_;refine nwb λh d e i=>nwb λf g c j=>lI (x:=a.Z) ((d.ext c).cells 13 _ rfl) (lI (x:=b.Z) (g.cells 13 _ rfl) (hK f (bT e c)))
def zkc (L:List qm):Prop:=L.Pairwise (λa b=>a.Z<=b.Z)/\∀p∈L,-1073741824<=p.Z/\p.Z<=1073741824
theorem zmh {data:Slc} {L:List qm} (hp:Rd qR w data L) (hs:zkc L) (hn:L.length<=20) {K:Ub} (hK:∀w',Uc w w'->K w'):zT data 0 (L.length:Int) (.func (.func yU) #[] #[]) w K:=by
 refine yz _ _ _ _ ?_;refine lpR (λ(a:Int×Unit) w2=>∃k:Nat,a.1=(k:Int)/\1<=k/\k<=L.length+1/\Uc w w2) (λa=>L.length-a.1.toNat) ⟨1,by show i64.wrap (0+1)=_;decide,by decide,by omega,Below.refl _ _⟩ ?_;rintro ⟨i,u⟩ w2 ⟨k,b,h,j,g⟩ I hI;dsimp only at b ⊢;subst b;refine cO (λe=>?_) λe=>hK w2 g;have e:=oTq e;have e:k<L.length:=by omega
 have l:i64.wrap ((k:Int)+1)=((k+1:Nat):Int):=by rw [qM (by omega)];omega
 have m:i64.wrap ((k:Int)-1)=((k-1:Nat):Int):=by rw [qM (by omega)];omega
 refine lpR (λ(a:Int×Unit) w3=>a.1=(k:Int)/\w3=w2) (λ_=>0) ⟨rfl,rfl⟩ ?_;rintro ⟨i,u⟩ w3 ⟨b,rfl⟩ I2 hI2;dsimp only at b ⊢;subst b;refine jpO λp n=>?_;refine cT (dTq (by omega)) ?_;have c:=(hp.ext g).drew;refine c.ix (E:=qR) (i:=(k:Int)) (k:=14) rfl (by omega) (by omega) λd=>qz (r:=qm.rep) (x:=L[k]) (by simp only [toNat_natCast] at d;exact d) ?_;rw [m];refine c.ix (E:=qR) (i:=((k-1:Nat):Int)) (k:=14) rfl (by omega) (by omega) λf=>qz (r:=qm.rep) (x:=L[k-1]) (by simp only [toNat_natCast] at f;exact f) ?_;refine yG (by kernel_rfl) (show Qp L[k] L[k-1] w3.drew _ from zkm λw4 o=>?_);have q:=hs.2 L[k] (List.getElem_mem _);have s:=hs.2 L[k-1] (List.getElem_mem _);have t:L[k-1].Z<=L[k].Z:=List.pairwise_iff_getElem.1 hs.1 (k-1) k (by omega) e (by omega);refine cF (dFq (by rw [qM (by omega)];omega)) ?_;rw [l];exact hI _ _ ⟨k+1,rfl,by omega,by omega,bT (bT g (bdw w3)) o⟩ (by show L.length-((k+1:Nat):Int).toNat<L.length-((k:Nat):Int).toNat;omega)
theorem zal {data:Slc} {L:List qm} (hp:Rd qR w data L) (hs:zkc L) (hn:L.length<20) {K:Ub} (hK:∀w',Uc w w'->K w'):jc data (.func (.func yU) #[] #[]) w K:=by
 refine vb _ _ ?_;refine Z4 _ _ _ ?_;rw [hp.n];refine lpR (λ(a:Int×Int×Unit) b=>a=(0,20,())/\b=w) (λ_=>0) ⟨rfl,rfl⟩ ?_;rintro _ b ⟨rfl,rfl⟩ I hI;refine cF (dFq (by dsimp only;omega)) (zmh hp hs (by omega) λd e=>?_);refine lpR (λ(a:Int×Unit) w3=>a.1=20/\w3=d) (λ_=>0) ⟨rfl,rfl⟩ ?_;rintro ⟨i,u⟩ w3 ⟨c,rfl⟩ I3 hI3;dsimp only at c;subst c;exact cF (dFq (by dsimp only;omega)) (hK w3 e)
def ZN (v:zE) (p:qm):Bool:=(p.Alt==v.Alt) && za1 p v.Top v.Rows 0 1073741824
variable {base:Nat} {F F':TmF} {T T':TS}
theorem zkf (h:TermM w base F T) {v:zE} (hz:zkc (T.E.T.filter (ZN v))) (hnT:T.E.T.length<20) {K:Slc->Ub} (hK:∀r w',Go.Vc.Own qR w' w.heap.size r (T.E.T.filter (ZN v))->Uc w w'->K r w'):zq (some ⟨F.eg,0,none⟩) v w K:=by
 refine qhs _ _ ?_;refine nwb λL U d V=>?_;simp only [onPtr_some];have M:=(h.ext d).drew;refine qS (x:=some ⟨F.KF.tg,0,none⟩) (M.en.blk.cells 2 _ rfl) (qz (r:=zE.rep) (x:=v) U.drew.cells ?_);refine qjv _ _ ?_;refine nwb λN W m X=>?_;simp only [onPtr_some];have O:=M.ext m;have P:=bT (bT d (bdw L)) m;have Y:=P.size;have z1:=(bT d (bdw L)).size;refine lSl (x:=F.KF.q) (O.en.tb.blk.cells 0 _ rfl) ?_;have Q:=O.en.tb.own.rd;have R:=Q.n;refine lpR (λ(z:Slc×Int×Unit) w3=>∃k:Nat,z.2.1=(k:Int)/\k<=T.E.T.length/\Go.Vc.Own qR w3 N.heap.size z.1 ((T.E.T.take k).filter (ZN v))/\Uc N w3) (λz=>T.E.T.length-z.2.1.toNat)
  ⟨0,rfl,by omega,Go.Vc.Own.nil _ _ _,Below.refl _ _⟩ ?_
 rintro ⟨Z,i,u⟩ w3 ⟨k,o,hk,a,f⟩ I hI;dsimp only at o a ⊢;subst o;refine cO (λe=>?_) λe=>?_
 ·have e:=oTq e;rw [R] at e;have e:k<T.E.T.length:=by omega
  obtain ⟨p,S⟩:∃p,p=T.E.T[k]:=⟨_,rfl⟩;have A:=Q.ext f;refine A.ix (E:=qR) (i:=(k:Int)) (k:=14) rfl (by omega) (by omega) λg=>?_;simp only [toNat_natCast] at g;rw [<-S] at g;refine qz (r:=qm.rep) (x:=p) g ?_;refine jS rfl λw4 B l s4=>?_;have C:=bT f l;have j:=W.ext C;have z3:=f.size;have z4:=l.size;have ek:i64.wrap ((k:Int)+1)=((k+1:Nat):Int):=by rw [qM (by omega)];omega
  have s:T.E.T.take (k+1)=T.E.T.take k++[p]:=by rw [List.take_add_one,List.getElem?_eq_getElem e,<-S];rfl
  refine jpO λJ2 t=>?_;rw [ek] at t;have go:∀{wx:World} {b:Bool},Uc w4 wx->b=ZN v p->J2 (b,()) wx:=λ{wx b} hB hb=>by
   have c:=bT l hB;have z5:=hB.size;refine t _ _ ?_;cases b
   ·refine cF rfl (hI _ _ ⟨k+1,rfl,e,?_,bT f c⟩ (by show T.E.T.length-((k+1:Nat):Int).toNat<T.E.T.length-((k:Nat):Int).toNat;omega));have D:[p].filter (ZN v)=[]:=by simp [<-hb]
    rw [s,List.filter_append,D,List.append_nil];exact a.ext c
   ·refine cT rfl (qz (r:=qm.rep) (x:=p) (B.ext hB).cells ?_);have G:((T.E.T.take k).filter (ZN v)).length<=20:=le_trans (List.length_filter_le _ _) (by rw [length_take];omega);refine qgq (E:=qR) jY (a.ext c) (y:=p) rfl (by omega) (by rw [Q4];omega) (by unfold maxLen;omega) λr w7 H c7 aa=>?_;refine hI _ _ ⟨k+1,rfl,e,?_,(bT f c).trans (c7.below (by omega) λi hi hs=>by have:=(a.lt i hs).1;omega)⟩ (by show T.E.T.length-((k+1:Nat):Int).toNat<T.E.T.length-((k:Nat):Int).toNat;omega);have D:[p].filter (ZN v)=[p]:=by simp [<-hb]
    rw [s,List.filter_append,D];exact H
  refine jw (x:=p.Alt) (B.cells 2 _ rfl) (jw (x:=v.Alt) (j.cells 0 _ rfl) (cO (λJ=>?_) λJ=>?_))
  ·refine qz (r:=qm.rep) (x:=p) B.cells ?_;refine lI (x:=v.Top) (j.cells 1 _ rfl) (lI (x:=v.Rows) (j.cells 2 _ rfl) ?_);refine zbz λw5 B5=>go B5 ?_;unfold ZN;rw [J,Bool.true_and]
  ·refine go (Below.refl _ _) ?_;unfold ZN;rw [J,Bool.false_and]
 ·have e:=oFq e;rw [R] at e;obtain rfl:k=T.E.T.length:=by omega
  rw [take_length] at a;have G:(T.E.T.filter (ZN v)).length<=T.E.T.length:=List.length_filter_le _ _;have z3:=f.size;refine zal a.rd hz (by omega) λw4 l=>hK Z w4 ((a.ext l).base Y) (bT (bT P f) l)
theorem qwl (h:TermM w base F T) (hn:T.n<=900) {D:List PlD} (hz:zkc (T.E.T.filter (ZN (jI T).View))) (hnT:T.E.T.length<20) (hD:T.E.T.filter (ZN (jI T).View)=D.map PlD.p) {cw ch:Nat} (ecw:T.c.CellW=cw) (ech:T.c.CellH=ch) (lim:1<=cw/\cw<=64/\1<=ch/\ch<=64) (hbr:zg5 T.S.g.L) (hch:zdn T.S.g.L)
  (hW2:T.S.g.cols*cw<=1000) (hH2:T.S.g.rows*ch<=1000) (br:-1000000<=T.S.c.Row/\T.S.c.Row<=1000000) (bc:-1000000<=T.S.c.Col/\T.S.c.Col<=1000000)
  (hI:∀d∈D,∀(s:qy) w',Uc w w'->s.CellW=cw->s.CellH=ch->s.Top=T.S.g.top->PlOk w' s (T.E.S.L.map imM) (T.S.g.cols*cw) (T.S.g.rows*ch) d) {K:qf->Int->Ub}
  (hK:∀m w',MatM w' (w.heap.size+1) m (T.S.g.cols*cw) (T.S.g.rows*ch) (zle (λab P=>qmm (T.S.g.cols*cw) ab D P) T.S.g.L T.S.g.cols T.S.g.rows cw ch (T.S.modeP 25 true).1 T.S.c.Row T.S.c.Col)->Uc w w'->K m 0 w'):zF (some ⟨F.tg,0,none⟩) w K :=
 q62 h hn (ps:=D.map PlD.p) (λa _ _ b hK=>zkf ((h.ext a).ext b) hz hnT λr w' i e=>hK r w' (hD ▸ i) e) ecw ech lim hbr hch (by omega) (by omega) (le_trans (mul_le_mul hW2 hH2) (by decide)) br bc
  (λs w' mp a j k l o f q t=>img_g o f q t (λd u=>hI d u s w' a j k l) hW2 hH2) hK
end
end Go.Proofs.YtjhgepnpnapnoaaGreatDoor
