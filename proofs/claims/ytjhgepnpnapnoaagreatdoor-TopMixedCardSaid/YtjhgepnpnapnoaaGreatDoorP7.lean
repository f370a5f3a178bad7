import Derived.Test.YtjhgepnpnapnoaaGreatDoorP6
import Derived.Test.YtjhgepnpnapnoaaGreatDoorP5
import Derived.Test.YtjhgepnpnapnoaaGreatDoorP3
import Derived.Test.YtjhgepnpnapnoaaGreatDoorP2
set_option linter.unusedVariables false
open Go.IntKind (i64 u8)
namespace Go.Proofs.YtjhgepnpnapnoaaGreatDoor
open Go.Vc Go.RowKit
set_option maxRecDepth 400000
open Builtin (append_)
open IntKind (u64)
open _root_.List (length_append length_cons length_map length_nil map_cons mem_cons take_append_drop)
open _root_.Nat (le_refl le_trans mul_one zero_le)
def zbk (c:Cel):List Int:=[c.R,c.Kind,c.A.Fg,c.A.Bg,c.A.Flags]
def b2i (b:Bool):Int:=if b then 1 else 0
def obs (S:Sc):List (List Int)×List (List (List Int)) :=
 ([[S.c.Row,S.c.Col,b2i S.c.Wrap,S.c.A.Fg,S.c.A.Bg,S.c.A.Flags,b2i S.c.Origin,S.c.Sets.e0,S.c.Sets.e1,S.c.Shift,S.g.cols,S.g.rows,S.g.top,S.g.old.length,b2i S.alt],qf7.map λn=>b2i (S.modeP n true).1,qf7.map λn=>b2i (S.modeP n false).1],S.g.L.map λl=>l.map zbk)
def zli (i:Nat):List (List Int)×List (List (List Int)) :=
 ([[(((1+i%8+1)/2:Nat):Int),0,0,0,0,0,0,66,66,0,9,9,0,0,0],[0,0,0,1,0,0,0,0,0,0,0],[0,0,0,0,0,0,0,0,0,0,0]],List.replicate 9 (List.replicate 9 (zbk Xn)))
noncomputable def mvP (T:TS) (v:EvP) (P:Slc):List Int :=
 if v.k=11 then [b2i (doK T.E T.cmd.tail P (jI T)).2.moves]
 else if v.k=8 then (match T.d with
  | none=>[]
  | some D=>if (v.b==1)=true/\(xk D).2.1=0 then [b2i (qgc (jo T).E (((xk D).1.w:Nat):Int) (((xk D).1.h:Nat):Int) (xk D).2.2 P (jI T)).moves,(qgc (jo T).E (((xk D).1.w:Nat):Int) (((xk D).1.h:Nat):Int) (xk D).2.2 P (jI T)).rows] else [])
 else []
noncomputable def mvL:(Nat->Slc)->TS->List EvP->List (List Int)
 | _,_,[]=>[]
 | f,T,v::vs=>mvP T v (f 0)::mvL (λn=>f (n+1)) (kR T v (f 0)) vs
theorem znn:∀f,(List.range 64).all (λi=>mvL f (yj c9) (q40 (1+i/8) (1+i%8))==[[],[],[],[0],[],[],[1,(((1+i%8+1)/2:Nat):Int)],[],[],[0]])=true:=λf=>by kernel_rfl
noncomputable def zj4 (S:Sc) (v:EvP) (m:List Int):Sc:=if v.k=9\/v.k=10\/v.k=6\/v.k=7\/v.k=11 then S else if v.k=8 then (S.doX zlz).moveP (m.getD 1 0) 0 else S.doM (q1s v)
noncomputable def zms:Sc->List EvP->List (List Int)->Sc
 | S,v::vs,m::ms=>zms (zj4 S v m) vs ms
 | S,_,_=>S
theorem qi3 {a b:Bool} (h:b2i a=b2i b):a=b:=by cases a<;>cases b<;>first | rfl | (exact absurd h (by decide))
theorem zir {a b:Cel} (h:zbk a=zbk b):a=b:=by
 obtain ⟨a1,a2,a3,a4,a5⟩:=a;obtain ⟨b1,b2,b3,b4,b5⟩:=b;simp only [zbk,List.cons.injEq,and_true] at h;obtain ⟨rfl,rfl,rfl,rfl,rfl⟩:=h;rfl
theorem qoz {α β:Type} {f:α->β} (hf:∀{a b},f a=f b->a=b):∀{x y:List α},x.map f=y.map f->x=y
 | [],[],_=>rfl
 | [],_::_,h=>by cases h
 | _::_,[],h=>by cases h
 | a::x,b::y,h=>by
  simp only [map_cons,List.cons.injEq] at h;rw [hf h.1,qoz hf h.2]
theorem zn5 {T:TS} {v:EvP} {P:Slc} (h:if v.k=11 then mvP T v P=[0] else if v.k=8 then (mvP T v P)[0]?=some 1 else True):(kR T v P).S=zj4 T.S v (mvP T v P):=by
 show (QR T v P).S=_;unfold QR zj4;by_cases e9:v.k=9
 ·rw [if_pos e9,if_pos (.inl e9)]
 rw [if_neg e9];by_cases e10:v.k=10
 ·rw [if_pos e10,if_pos (.inr (.inl e10))]
 rw [if_neg e10];by_cases e11:v.k=11
 ·rw [if_pos e11,if_pos (by omega)];rw [if_pos e11] at h;unfold mvP at h;rw [if_pos e11] at h;simp only [List.cons.injEq,and_true] at h;unfold qt1 q41;dsimp only;rw [qi3 (b:=false) h];rfl
 rw [if_neg e11];rw [if_neg e11] at h;by_cases e6:v.k=6
 ·rw [if_pos e6,if_pos (by omega)]
 rw [if_neg e6];by_cases e7:v.k=7
 ·rw [if_pos e7,if_pos (by omega)];exact (qx7 v.d T).1
 rw [if_neg e7];by_cases e8:v.k=8
 ·rw [if_pos e8,if_neg (by omega),if_pos e8];rw [if_pos e8] at h;unfold mvP at h ⊢;rw [if_neg e11,if_pos e8] at h ⊢;unfold VA;cases hd:T.d with
  | none=>rw [hd] at h;cases h
  | some D =>
   rw [hd] at h;dsimp only at h ⊢;split at h
   ·rename_i hc;rw [if_pos hc,if_pos hc];have h:=Option.some.inj h;unfold q9i;dsimp only;rw [qi3 (b:=true) h];rfl
   ·cases h
 ·rw [if_neg e8,if_neg (by omega),if_neg e8]
theorem zmm:∀(es:List EvP) (f:Nat->Slc) (T:TS) (ms:List (List Int)),mvL f T es=ms->(∀(k:Nat) v m,es[k]?=some v->ms[k]?=some m->if v.k=11 then m=[0] else if v.k=8 then m[0]?=some 1 else True)->(q4u f T es).S=zms T.S es ms
 | [],f,T,ms,h,_=>by cases h;rfl
 | v::es,f,T,ms,h,hg=>by
  cases h;show (q4u _ (kR T v (f 0)) es).S=_;rw [zmm es _ _ _ rfl λk v m h1 h2=>hg (k+1) v m h1 h2,zn5 (hg 0 v _ rfl rfl)];rfl
theorem zml:∀(es:List EvP) (f:Nat->Slc) (T:TS),(q4u f T es).n<=T.n+2*es.length
 | [],f,T=>le_refl _
 | v::es,f,T=>by
  have h1:=zml es (λn=>f (n+1)) (kR T v (f 0));have h2:(kR T v (f 0)).n<=T.n+2:=by
   show (QR T v (f 0)).n<=_;unfold QR
   repeat' split
   ·exact Nat.le_add_right _ _
   ·exact Nat.le_add_right _ _
   ·exact le_refl _
   ·exact Nat.le_add_right _ _
   ·rw [q5l];exact Nat.le_add_right _ _
   ·exact q6w T _ _
   ·exact Nat.le_add_right _ _
  show (q4u _ (kR T v (f 0)) es).n<=_;rw [length_cons];omega
noncomputable def zno (r:Int):Sc:=(((zis 9 9 4).doM ⟨4,0,108,63,[],[25]⟩).doX zlz).moveP r 0
def zoi (r:Nat):List (List Int)×List (List (List Int)):=([[(r:Int),0,0,0,0,0,0,66,66,0,9,9,0,0,0],[0,0,0,1,0,0,0,0,0,0,0],[0,0,0,0,0,0,0,0,0,0,0]],List.replicate 9 (List.replicate 9 (zbk Xn)))
theorem zjz:(List.range 5).map (λr=>obs (zno (r:Nat)))=(List.range 5).map zoi:=by kernel_rfl
theorem zlj {r:Nat} (hr:r<5):obs (zno (r:Nat))=zoi r:=by
 have h:=congrArg (λl=>l[r]?) zjz;simpa [hr] using h
theorem zop {f:Nat->Slc} {i:Nat} (hi:i<64):(qze f i).S=zno ((1+i%8+1)/2:Nat):=by
 have h:=eq_of_beq (List.all_eq_true.1 (znn f) i (List.mem_range.2 hi));have:=zmm _ f (yj c9) _ h ?_
 ·exact this
 ·intro k v m h1 h2;unfold q40 at h1
  match k,h1,h2 with
  | 0,h1,h2=>cases h1;trivial
  | 1,h1,h2=>cases h1;trivial
  | 2,h1,h2=>cases h1;trivial
  | 3,h1,h2=>cases h1;cases h2;rfl
  | 4,h1,h2=>cases h1;trivial
  | 5,h1,h2=>cases h1;trivial
  | 6,h1,h2=>cases h1;cases h2;rfl
  | 7,h1,h2=>cases h1;trivial
  | 8,h1,h2=>cases h1;trivial
  | 9,h1,h2=>cases h1;cases h2;rfl
structure MixE (T:TS) (i:Nat):Prop where
 L:T.S.g.L=List.replicate 9 (List.replicate 9 Xn)
 old:T.S.g.old=[]
 c:T.S.c=⟨((1+i%8+1)/2:Nat),0,false,at0,false,⟨66,66⟩,0⟩
 g:T.S.g.cols=9/\T.S.g.rows=9/\T.S.g.top=0/\T.S.alt=false
 m:qf7.map (λn=>b2i (T.S.modeP n true).1)=[0,0,0,1,0,0,0,0,0,0,0]/\qf7.map (λn=>b2i (T.S.modeP n false).1)=[0,0,0,0,0,0,0,0,0,0,0]
 n:T.n<=900
 pl:T.E.T=[ze7 (1+i/8) (1+i%8),ze0 (1+i%8)]
 im:T.E.S.L.map imI=[[5,2,1,2,1,2,3,255,4,5,6,255],zks (1+i/8) (1+i%8)]
 cw:T.c=c9
 rep:T.rep=[27,95,71,105,61,53,59,79,75,27,92]
theorem znk (T:TS) (v:EvP) (P:Slc):(kR T v P).c=T.c:=by
 have hd:∀(d:List UInt8) (T:TS),(xP T d).c=T.c:=λd=>by
  induction d with
  | nil=>intro T;rfl
  | cons x d ih =>
   intro T;show (xP (yk T x) d).c=_;rw [ih];unfold yk qmx jo
   repeat' split
   all_goals rfl
 have hw:(VA T (v.b==1) P).c=T.c:=by
  unfold VA jo;cases T.d with
  | none=>rfl
  | some D=>dsimp only;split<;>rfl
 show (QR T v P).c=_;unfold QR
 repeat' split
 all_goals first | rfl | exact hd _ _ | exact hw
theorem zlt {f:Nat->Slc} {i:Nat} (hi:i<64):MixE (qze f i) i:=by
 have h1:obs (qze f i).S=zli i:=by rw [zop hi];exact zlj (by omega)
 have h2:(qze f i).n<=900:=le_trans (zml _ f (yj c9)) (by show 0+2*10<=900;decide);have e1:_=(zli i).1:=congrArg Prod.fst h1;have e2:_=(zli i).2:=congrArg Prod.snd h1;simp only [obs,zli,List.cons.injEq,and_true] at e1 e2;obtain ⟨⟨a1,a2,a3,a4,a5,a6,a7,a8,a9,b1,b2,b3,b4,b5,b6⟩,m1,m2⟩:=e1;have hr:(qze f i).rep=[27,95,71,105,61,53,59,79,75,27,92]:=by
  have:=congrArg (λl=>l[i]?) (zlu f);simpa [hi] using this
 refine ⟨qoz (f:=λl:List Cel=>l.map zbk) (λh=>qoz zir h) (by rw [e2];simp),List.eq_nil_of_length_eq_zero (by omega),?_,⟨by omega,by omega,b4,qi3 (b:=false) b6⟩,⟨m1,m2⟩,h2,zoh hi,zoo hi,?_,hr⟩
 ·generalize (qze f i).S.c=c at *;obtain ⟨c1,c2,c3,⟨c4,c5,c6⟩,c7,⟨c8,c9⟩,d1⟩:=c;dsimp only at *;have a3:=qi3 (b:=false) a3;have a7:=qi3 (b:=false) a7;subst a1 a2 a3 a4 a5 a6 a7 a8 a9 b1;rfl
 ·have:∀es f T,(q4u f T es).c=T.c:=λes=>by
   induction es with
   | nil=>intro f T;rfl
   | cons v es ih =>
    intro f T;show (q4u _ (kR T v (f 0)) es).c=_;rw [ih,znk]
  exact this _ _ _
theorem MixE.two {T:TS} {i:Nat} (h:MixE T i):∃a b:Im,T.E.S.L=[(5,a),(1099511627776,b)]/\a.v.m.W=2/\a.v.m.H=1/\a.bs=[1,2,3,255,4,5,6,255]/\b.v.m.W=(1+i/8:Nat)/\b.v.m.H=(1+i%8:Nat)/\b.bs.map (λb=>(b.toNat:Int))=(List.replicate ((1+i/8)*(1+i%8)) px4).flatten/\a.v.stamp=2/\b.v.stamp=1:=by
 have hm:=h.im;have hl:=congrArg List.length hm;rw [length_map] at hl
 match hL:T.E.S.L,hl with
 | [(k1,a),(k2,b)],_ =>
  rw [hL] at hm;simp only [map_cons,List.map_nil,List.cons.injEq,and_true,imI,zks,List.cons_append,List.nil_append] at hm;obtain ⟨⟨rfl,w1,h1,s1,b1⟩,rfl,w2,h2,s2,b2⟩:=hm;refine ⟨a,b,rfl,w1,h1,?_,w2,h2,b2,s1,s2⟩;have:a.bs.map (λb=>(b.toNat:Int))=([1,2,3,255,4,5,6,255]:List UInt8).map λb=>(b.toNat:Int):=b1;exact qoz (λh=>UInt8.toNat_inj.1 (Int.ofNat.inj h)) this
theorem zg1 {a b:UInt8} (h:(a.toNat:Int)=(b.toNat:Int)):a=b:=UInt8.toNat_inj.1 (Int.ofNat.inj h)
theorem MixE.twin {T U:TS} {i:Nat} (h:MixE T i) (h':MixE U i):Twin T U:=by
 refine ⟨h'.L.trans h.L.symm,h'.old.trans h.old.symm,h'.c.trans h.c.symm,λn hn p=>?_,?_,h'.pl.trans h.pl.symm⟩
 ·have key:∀(f g:Int->Bool) (l:List Int),l.map (λn=>b2i (f n))=l.map (λn=>b2i (g n))->∀n∈l,f n=g n:=by
   intro f g l
   induction l with
   | nil=>intro _ n hn;cases hn
   | cons x l ih =>
    intro e n hn;simp only [map_cons,List.cons.injEq] at e;rcases mem_cons.1 hn with rfl | hn
    ·exact qi3 e.1
    ·exact ih e.2 n hn
  cases p with
  | true=>exact key _ _ _ (h'.m.1.trans h.m.1.symm) n hn
  | false=>exact key _ _ _ (h'.m.2.trans h.m.2.symm) n hn
 ·obtain ⟨a,b,e,a1,a2,a3,b1,b2,b3,s1,s2⟩:=h.two;obtain ⟨a',b',e',a1',a2',a3',b1',b2',b3',s1',s2'⟩:=h'.two;rw [e,e'];have eb:b'.bs=b.bs:=qoz zg1 (b3'.trans b3.symm);simp only [map_cons,List.map_nil,imT,a1,a2,a3,b1,b2,a1',a2',a3',b1',b2',eb,s1,s2,s1',s2']
def zgy (i:Nat) (c:List UInt8):List PlD:=[⟨ze7 (1+i/8) (1+i%8),1+i/8,1+i%8,c,0,0⟩,⟨ze0 (1+i%8),2,1,[1,2,3,255,4,5,6,255],0,2*((1+i%8+1)/2)⟩]
theorem zjn:∀i,i<64->ZN ⟨false,0,9,9,((1+i%8+1)/2:Nat),0⟩ (ze7 (1+i/8) (1+i%8))=true/\ZN ⟨false,0,9,9,((1+i%8+1)/2:Nat),0⟩ (ze0 (1+i%8))=true:=by decide +kernel
theorem zl7:∀i,i<64->zaa ((1+i/8:Nat):Int) ((1+i%8:Nat):Int) 0 0 2 2=(((((1+i%8)+1)/2:Nat):Int),((((1+i/8)+1)/2:Nat):Int)):=by decide +kernel
theorem zbb {R C0:Nat} (r c:Nat):kn (List.replicate R (List.replicate C0 Xn)) r c=Xn:=by
 unfold kn;rw [List.getD_eq_getElem?_getD,List.getD_eq_getElem?_getD,List.getElem?_replicate];split
 ·rw [Option.getD_some,List.getElem?_replicate];split<;>rfl
 ·rfl
section
variable {w w':World} {base:Nat} {F:TmF} {T:TS} {i:Nat}
def za8 (i:Nat):List UInt8:=(List.replicate ((1+i/8)*(1+i%8)) [26,255,0,255]).flatten
theorem q6g (i:Nat):(za8 i).map (λb=>(b.toNat:Int))=(List.replicate ((1+i/8)*(1+i%8)) px4).flatten:=by
 unfold za8;rw [List.map_flatten,List.map_replicate];rfl
def zo6 (i:Nat):List UInt8:=zle (λab P=>qmm (9*2) ab (zgy i (za8 i)) P) (List.replicate 9 (List.replicate 9 Xn)) 9 9 2 2 false ((1+i%8+1)/2:Nat) 0
theorem zc6 (hi:i<64) (h:TermM w base F T) (e:MixE T i) {K:qf->Int->Ub} (hK:∀m w',MatM w' (w.heap.size+1) m 18 18 (zo6 i)->Uc w w'->K m 0 w'):zF (some ⟨F.tg,0,none⟩) w K:=by
 obtain ⟨a,b,el,a1,a2,a3,b1,b2,b3,_,_⟩:=e.two;have eb:b.bs=za8 i:=qoz zg1 (b3.trans (q6g i).symm);obtain ⟨g1,g2,g3,g4⟩:=e.g;obtain ⟨v1,v2⟩:=zjn i hi;have ec:=e.c;have ew:=e.cw;have ev:(jI T).View=⟨false,0,9,9,((1+i%8+1)/2:Nat),0⟩:=by
  unfold jI;dsimp only;rw [g1,g2,g3,g4,ec];rfl
 have ef:T.E.T.filter (ZN (jI T).View)=(zgy i (za8 i)).map PlD.p:=by
  rw [e.pl,ev,List.filter_cons_of_pos v1,List.filter_cons_of_pos v2];rfl
 have h25:(T.S.modeP 25 true).1=false:=by
  have:=congrArg (λl=>l[5]?) e.m.1;exact qi3 (Option.some.inj this)
 have hcell:∀r k,kn T.S.g.L r k=Xn:=λr k=>by rw [e.L];exact zbb r k
 have ia:=h.en.st.img (5,a) (by rw [el];simp);have ib:=h.en.st.img (1099511627776,b) (by rw [el];simp);refine qwl h e.n (D:=zgy i (za8 i)) ?_ (by rw [e.pl];show 2<20;decide) ef (cw:=2) (ch:=2) (by rw [ew];rfl) (by rw [ew];rfl) (by decide) (λr k=>by rw [hcell];rfl) (λr k=>by rw [hcell];decide) (by rw [g1];decide) (by rw [g2];decide) (by rw [ec];dsimp only;omega) (by rw [ec];dsimp only;omega) (λd hd s w1 hB s1 s2 s3=>?_) λm w1 hM hB=>?_
 ·rw [ef];unfold zgy;refine ⟨?_,?_⟩
  ·simp [ze7,ze0]
  ·intro p hp;simp only [map_cons,List.map_nil,mem_cons,List.not_mem_nil,or_false] at hp;rcases hp with rfl | rfl<;>exact ⟨by show (-1073741824:Int)<=0;decide,by show (0:Int)<=1073741824;decide⟩
 ·have hcel:=zl7 i hi;have hm8:i%8<8:=Nat.mod_lt _ (by decide);have hd8:i/8<8:=by omega
  rw [g1,g2];rw [g3] at s3;unfold zgy at hd;simp only [mem_cons,List.not_mem_nil,or_false] at hd;rcases hd with rfl | rfl
  ·refine ⟨⟨b.v.m.P,?_,eb ▸ ib.rd.ext hB⟩,?_,by dsimp only;omega,by dsimp only;omega,⟨rfl,rfl,rfl,rfl⟩,?_,?_,?_,?_,by dsimp only;omega,by dsimp only;omega⟩
   ·rw [el];show some b.v.m=_;rw [<-b1,<-b2]
   ·show (za8 i).length=4*(1+i/8)*(1+i%8);have:=congrArg List.length (q6g i);rw [length_map] at this;rw [this];simp [px4];rw [Nat.mul_comm,<-Nat.mul_assoc]
   ·rw [s1,s2];exact hcel
   ·rw [s1];show (0:Int)<=0*2/\_;exact ⟨by decide,Int.le_refl _,rfl⟩
   ·rw [s3];exact ⟨by show (0:Int)<=0-0;decide,by show (0:Int)-0<=1000000;decide⟩
   ·rw [s2,s3];show (0:Int)<=(0-0)*2/\_;exact ⟨by decide,Int.le_refl _,rfl⟩
  ·refine ⟨⟨a.v.m.P,?_,a3 ▸ ia.rd.ext hB⟩,rfl,by show 1<=2;decide,by show 1<=1;decide,⟨rfl,rfl,rfl,rfl⟩,?_,?_,?_,?_,by dsimp only;omega,by dsimp only;omega⟩
   ·rw [el];show some a.v.m=_;have:a.v.m=⟨2,1,a.v.m.P⟩:=by rw [<-a1,<-a2]
    exact congrArg some this
   ·rw [s1,s2];show zaa 2 1 0 0 2 2=(1,1);decide +kernel
   ·rw [s1];show (0:Int)<=0*2/\_;exact ⟨by decide,Int.le_refl _,rfl⟩
   ·rw [s3];show (0:Int)<=((1+i%8+1)/2:Nat)-0/\(((1+i%8+1)/2:Nat):Int)-0<=1000000;omega
   ·rw [s2,s3];show (0:Int)<=(((1+i%8+1)/2:Nat)-0)*2/\_/\_=((2*((1+i%8+1)/2):Nat):Int);refine ⟨by omega,Int.le_refl _,?_⟩;show (((1+i%8+1)/2:Nat)-0)*2+(0:Int)=_;omega
 ·rw [g1,g2,e.L,h25,ec] at hM;exact hK m w1 hM hB
end
theorem qj0 (P:Program) (g o:Nat) (t:TypeId) (fz:Nat×Nat):∀(vs:List Value) (i:Nat) (cur:Array Value) (w:World),w.heap[g]?=some (.cells cur t fz)->(fz.2=0\/o+i+vs.length<=fz.1)->o+i+vs.length<=cur.size->(∀v∈vs,v.oneCell'=true) ->
  (storeCells ⟨g,o,none⟩ vs i).run P w=.ok () (w.setRow g (cur.toList.take (o+i)++vs++cur.toList.drop (o+i+vs.length)).toArray)
 | [],i,cur,w,hg,_,_,_=>by
  simp only [storeCells,List.append_nil,length_nil,Nat.add_zero,take_append_drop,Array.toArray_toList];rw [setRow_self w g cur t fz hg];rfl
 | v::rest,i,cur,w,hg,hfz,hl,h1=>by
  have hi:o+i<cur.size:=by simp at hl;omega
  have hcell:w.cell? ⟨g,o+i,none⟩=some cur[o+i]:=by simp [World.cell?,hg,hi]
  have hfro:w.frozen? ⟨g,o+i,none⟩=false:=by
   obtain ⟨lo,up⟩:=fz;simp only [World.frozen?,hg,Bool.and_eq_false_iff,decide_eq_false_iff_not];simp only [length_cons] at hfz;omega
  have hst:(store ((⟨g,o,none⟩:Addr).add i) v).run P w=.ok () (w.setRow g (cur.setIfInBounds (o+i) v)):=by
   rw [qC,Go.run_store P w _ v _ (h1 v (by simp)),hcell];simp [hfro,setCell_eq_setRow w g (o+i) cur t fz v hg]
  have ih:=qj0 P g o t fz rest (i+1) (cur.setIfInBounds (o+i) v) (w.setRow g (cur.setIfInBounds (o+i) v)) (setRow_heap w g cur _ t _ hg) (by simp only [length_cons] at hfz;omega) (by simp at hl ⊢;omega) (λx hx=>h1 x (by simp [hx]));simp only [storeCells,Sem.run_bind,hst,Result.andThen_ok,ih,setRow_setRow];congr 3;have e:=list_seg_step cur.toList (o+i) v rest (by simp at hl ⊢;omega);simpa [Array.toList_setIfInBounds,Nat.add_assoc] using e
def Row (w:World) (base:Nat) (c:Slc) (bs:List UInt8):Prop :=
 (c=⟨none,0,0⟩/\bs=[])\/∃g cur fz,c=⟨some ⟨g,0,none⟩,bs.length,c.c⟩/\base<=g/\w.heap[g]?=some (.cells cur qF fz)/\(fz.2=0\/c.c<=fz.1)/\bs.length<=c.c/\c.c<=maxLen/\cur.size=c.c/\cur.toList.take bs.length=bs.map xY
section
variable {w w':World} {base:Nat} {c x:Slc} {bs ys:List UInt8}
theorem Row.ext (h:Row w base c bs) (hB:Uc w w'):Row w' base c bs:=by
 rcases h with h | ⟨g,cur,fz,e,hg,hh,r⟩
 ·exact .inl h
 ·exact .inr ⟨g,cur,fz,e,hg,(hB.block g (Array.getElem?_eq_some_iff.1 hh).1).trans hh,r⟩
theorem Row.lt (h:Row w base c bs) (k:Nat) (hk:c.blk=some k):base<=k/\k<w.heap.size:=by
 rcases h with ⟨rfl,_⟩ | ⟨g,cur,fz,e,hg,hh,_⟩
 ·cases hk
 ·rw [e] at hk;cases hk;exact ⟨hg,(Array.getElem?_eq_some_iff.1 hh).1⟩
theorem Row.cells {g n k:Nat} (h:Row w base ⟨some ⟨g,0,none⟩,n,k⟩ bs) (j:Nat) (v:Value) (hv:(bs.map xY)[j]?=some v):w.cell? ((⟨g,0,none⟩:Addr).add j)=some v:=by
 rcases h with ⟨e,_⟩ | ⟨g',cur,fz,e,hg,hh,_,_,_,_,ht⟩
 ·cases e
 ·cases e;rw [qC,Nat.zero_add];rw [<-ht,List.getElem?_take] at hv;split at hv
  ·simp [World.cell?,hh];simpa using hv
  ·cases hv
theorem Row.rd (h:Row w base c bs):Rd qo w c bs:=by
 rcases id h with ⟨rfl,rfl⟩ | ⟨g,cur,fz,e,hg,hh,_,h1,h2,_⟩
 ·exact Rd.nil _ _
 ·rw [e] at h ⊢;refine ⟨rfl,h1,h2,λ_=>rfl,λi y hy j v hv=>?_⟩;have hj:j=0:=by
   have:=(List.getElem?_eq_some_iff.1 hv).1;simp [qo] at this;exact this
  subst hj;have ev:v=xY y:=by simpa [qo,xY] using hv.symm
  rw [ev];show w.cell? (((⟨g,0,none⟩:Addr).add (i*qo.k)).add 0)=_;rw [add_zero,show i*qo.k=i from mul_one i];exact h.cells i _ (by rw [List.getElem?_map,hy];rfl)
theorem Row.of_own (h:Go.Vc.Own qo w base c bs):Row w base c bs:=by
 rcases h.form with ⟨rfl,rfl⟩ | ⟨g,cur,e,hg,hb,h1,h2,h3,h4⟩
 ·exact .inl ⟨rfl,rfl⟩
 ·have hk:qo.k=1:=rfl;rw [hk,mul_one] at h3 h4;exact .inr ⟨g,cur.toArray,(0,0),e,hg,hb,.inl rfl,h1,h2,by simpa using h3,by rw [q43] at h4;rw [List.toList_toArray];exact h4⟩
theorem Row.wrote (h:Row w base c bs) {g:Nat} {cur:Array Value} {fz:Nat×Nat} (e:c=⟨some ⟨g,0,none⟩,bs.length,c.c⟩) (hg:base<=g) (hh:w.heap[g]?=some (.cells cur qF fz)) (hf:fz.2=0\/c.c<=fz.1) (hm:c.c<=maxLen) (hz:cur.size=c.c) (ht:cur.toList.take bs.length=bs.map xY) (hr:bs.length+ys.length<=c.c) :
  Row (w.setRow g (cur.toList.take bs.length++ys.map xY++cur.toList.drop (bs.length+(ys.map xY).length)).toArray) base ⟨some ⟨g,0,none⟩,bs.length+ys.length,c.c⟩ (bs++ys)/\Chg (λk=>c.blk=some k) w (w.setRow g (cur.toList.take bs.length++ys.map xY++cur.toList.drop (bs.length+(ys.map xY).length)).toArray):=by
 refine ⟨.inr ⟨g,_,fz,by rw [length_append],hg,setRow_heap w g cur _ _ _ hh,hf,by rw [length_append];exact hr,hm,?_,?_⟩,?_⟩
 ·simp only [List.size_toArray,length_append,List.length_take,List.length_drop,Array.length_toList,length_map];show _=c.c;omega
 ·rw [ht,<-List.map_append];have e1:(bs++ys).length=((bs++ys).map xY).length:=by simp
  rw [e1];exact List.take_left
 ·refine Chg.of_grown (row:=some g) ⟨rfl,rfl,rfl,by simp,λk _ hk=>setRow_other w g k _ (λe=>hk (by simp [e]))⟩ λk hk=>?_;cases hk;rw [e];rfl
theorem Row.apS {K:Slc->Ub} (h:Row w base c bs) (hb:base<=w.heap.size) (hl:bs.length+ys.length<=1000000)
  (hK:∀r w',Row w' base r (bs++ys)->Chg (λk=>c.blk=some k) w w'->K r w'):apS PG #[qj,zk] qj c (qX ys) w K:=by
 rcases id h with ⟨rfl,rfl⟩ | ⟨g,cur,fz,e,hg,hh,hf,h1,hm,hz,ht⟩
 ·exact zk4 (Go.Vc.Own.nil _ _ _) hb hl λr w' ho hgr=>hK r w' (.of_own ho) (Chg.of_grown hgr λk hk=>hk)
 ·have hi1:qN.i.size=1:=qN.hs;have hsz:=qT ys;have es:Lib.strCells (qX ys)=ys.map xY:=by
   unfold Lib.strCells;have:(qX ys).data.toList=ys:=by simp [qX]
   rw [this];rfl
  by_cases hr:bs.length+ys.length<=c.c
  ·obtain ⟨r1,r2⟩:=h.wrote e hg hh hf hm hz ht hr;refine ⟨⟨some ⟨g,0,none⟩,bs.length+ys.length,c.c⟩,_,?_,hK _ _ r1 r2⟩;have hfc:=Lib.run_firstCells_string (P:=PG) w 1 (qX ys);rw [es,hsz] at hfc;have hst:=qj0 PG g bs.length qF fz (ys.map xY) 0 cur w hh (by rw [length_map];omega) (by rw [length_map];omega) (λv hv=>by obtain ⟨b,_,rfl⟩:=List.mem_map.1 hv;rfl);simp only [Nat.add_zero] at hst;rw [e];dsimp only;have hty:PG.underlying zk=some .string:=by kernel_rfl
   simp [append_,run_underlying qN.ht,run_underlying hty,sizeOf,typeInfo,qN.hi,hi1,Builtin.lenOf,hsz,hr,hfc,qC,hst]
  ·rw [e] at h;have hrun:=Lib.run_append_grow_string (P:=PG) w qj zk qj qF qN.i (.int .u8 0) (by kernel_rfl) (by kernel_rfl) qN.hi qN.hz ⟨g,0,none⟩ bs.length c.c (bs.map xY) (by rw [hi1];simp) h.cells (qX ys)
    (by rw [hsz];omega) (by rw [hsz];omega) (growslice_fits (by rw [hsz];omega) (by rw [jV,hsz];omega))
   rw [es,hsz] at hrun;rw [e];exact ⟨⟨_,_,_⟩,_,hrun,hK _ _ (.of_own ((q2m w bs ys c.c hl).base hb)) (Chg.of_ext ((kj w).alloc (le_refl _) _))⟩
theorem Row.apK {K:Slc->Ub} (h:Row w base c bs) (hx:Rd qo w x ys) (hb:base<=w.heap.size) (hl:bs.length+ys.length<=1000000)
  (hK:∀r w',Row w' base r (bs++ys)->Chg (λk=>c.blk=some k) w w'->K r w'):apK PG #[qj,qj] qj c x w K:=by
 rcases id h with ⟨rfl,rfl⟩ | ⟨g,cur,fz,e,hg,hh,hf,h1,hm,hz,ht⟩
 ·exact jW qN (Go.Vc.Own.nil _ _ _) hx hb (by rw [jV];omega) (by unfold maxLen;omega) λr w' ho hgr _=>hK r w' (.of_own ho) (Chg.of_grown hgr λk hk=>hk)
 ·have hi1:qN.i.size=1:=qN.hs;cases ys with
  | nil =>
   have hn:x.n=0:=by simpa using hx.n
   refine ⟨c,w,?_,hK _ w (by simpa using h) (Chg.refl _ _)⟩;rw [hn,e];dsimp only;cases hxa:x.a with
   | none=>simp [append_,run_underlying qN.ht,sizeOf,typeInfo,qN.hi,Builtin.lenOf,Builtin.firstCells,storeCells,h1]
   | some a =>
    have hfc:=run_firstCells_some (P:=PG) w qN.i.size 0 a 0 x.c [] (by simp) (by simp);simp [append_,run_underlying qN.ht,sizeOf,typeInfo,qN.hi,Builtin.lenOf,hfc,storeCells,h1]
  | cons y l =>
   obtain ⟨a,ha⟩:=Option.isSome_iff_exists.1 (hx.some_ (by simp));have hxn:x.n=(y::l).length:=hx.n;have hcells:∀(j:Nat) (u:Value),((y::l).map xY)[j]?=some u->w.cell? (a.add j)=some u:=by
    intro j u hu;rw [List.getElem?_map] at hu;obtain ⟨b,hb,rfl⟩:=Option.map_eq_some_iff.1 hu;have h1:=hx.at_ j b hb 0 (xY b) rfl;have e:(x.at_ qo.k j).add 0=a.add j:=by
     rw [add_zero];unfold Slc.at_;rw [ha,show j*qo.k=j from mul_one j];rfl
    rwa [e] at h1
   generalize hys:y::l=ys at *;by_cases hr:bs.length+ys.length<=c.c
   ·obtain ⟨r1,r2⟩:=h.wrote e hg hh hf hm hz ht hr;refine ⟨⟨some ⟨g,0,none⟩,bs.length+ys.length,c.c⟩,_,?_,hK _ _ r1 r2⟩;have hfc:=run_firstCells_some (P:=PG) w qN.i.size ys.length a ys.length x.c (ys.map xY) (by rw [hi1];simp) hcells;have hst:=qj0 PG g bs.length qF fz (ys.map xY) 0 cur w hh (by rw [length_map];omega) (by rw [length_map];omega) (λv hv=>by obtain ⟨b,_,rfl⟩:=List.mem_map.1 hv;rfl);simp only [Nat.add_zero] at hst;rw [hi1] at hfc;rw [ha,hxn,e];dsimp only;simp [append_,run_underlying qN.ht,sizeOf,typeInfo,qN.hi,hi1,Builtin.lenOf,hr,hfc,qC,hst]
   ·rw [e] at h;have hrun:=run_append_grow (P:=PG) w qj qj qF qN.i (.int .u8 0) qN.ht qN.hi qN.hz ⟨g,0,none⟩ bs.length c.c (bs.map xY) (by rw [hi1];simp) h.cells a ys.length x.c (ys.map xY) (by rw [hi1];simp) hcells
     (by omega) (by omega) (growslice_fits (by omega) (by rw [jV];omega))
    rw [<-hxn,<-ha] at hrun;rw [e];refine ⟨⟨_,_,_⟩,_,hrun,hK _ _ (.of_own ?_) (Chg.of_ext ((kj w).alloc (le_refl _) _))⟩;rw [hxn];exact (q2m w bs ys c.c hl).base hb
theorem q5b {vs:List Value} {m:Nat} {K:Slc->Ub} (hv:vs=bs.map xY) (hn:m=bs.length) (hm:bs.length<=1000000) (hK:∀s w',Row w' w.heap.size s bs->Uc w w'->K s w') :
  nw qF vs w λt w1=>zO PG (convert qj qj (.slice (some t) m m)) Kind.slice w1 K:=by
 subst hn hv;refine ⟨⟨some ⟨w.heap.size,0,none⟩,bs.length,bs.length⟩,_,Lib.run_convert_bytes_const w qj qF _ _ _ (by kernel_rfl) (by kernel_rfl),hK _ _ (.inr ⟨w.heap.size,(bs.map xY).toArray,(bs.length,bs.length+1),rfl,le_refl _,?_,.inr (le_refl _),le_refl _,by show bs.length<=maxLen;unfold maxLen;omega,by simp,by rw [List.toList_toArray];exact List.take_of_length_le (by simp)⟩) ((Below.refl _ w).alloc (le_refl _) _)⟩;show (w.alloc _).heap[w.heap.size]?=_;rw [heap_alloc_new];simp
theorem zkj {K:Slc->Ub} (hm:bs.length<=1000000) (hK:∀s w',Row w' w.heap.size s bs->Uc w w'->K s w'):zO PG (convert zk qj (.string (qX bs))) Kind.slice w K:=by
 have hr:=Lib.run_convert_string_bytes (P:=PG) w zk qj qF (qX bs) (u:=.string) (by kernel_rfl) (by kernel_rfl) (by kernel_rfl);have hsz:=qT bs;have hge:=grownCap_ge w (qX bs).size 0 qF;have hle:=grownCap_le_maxLen w (qX bs).size 0 qF (by rw [hsz];unfold maxLen;omega);have hcs:(Lib.bytesCells w qF (qX bs)).size=grownCap w (qX bs).size 0 qF:=by
  unfold Lib.bytesCells;rw [Array.size_append,Array.size_map,Array.size_replicate];show (qX bs).size+(_-(qX bs).size)=_;omega
 refine ⟨⟨some ⟨w.heap.size,0,none⟩,(qX bs).size,grownCap w (qX bs).size 0 qF⟩,_,hr,hK _ _ (.inr ⟨w.heap.size,_,_,by rw [hsz],le_refl _,Lib.bytesWorld_at_new w qF (qX bs),.inr ?_,by rw [<-hsz];exact hge,hle,?_,?_⟩) ⟨rfl,rfl,rfl,by rw [Lib.bytesWorld_size];omega,λk hk=>Lib.bytesWorld_at_old w _ _ k hk⟩⟩
 ·rw [hcs];exact le_refl _
 ·exact hcs
 ·have e:(qX bs).data.toList=bs:=by simp [qX]
  unfold Lib.bytesCells;rw [Array.toList_append,Array.toList_map,e];exact List.take_left' (by simp)
end
section
variable {w w':World}
theorem q6v (n:Nat):u8.wrap (i64.wrap ((48:Int)+((n:Int).tmod 10)))=((UInt8.ofNat (48+n%10)).toNat:Int):=by
 have h1:(n:Int).tmod 10=((n%10:Nat):Int):=(Int.ofNat_tmod n 10).symm;have h2:(48:Int)+((n%10:Nat):Int)=((48+n%10:Nat):Int):=by omega
 have h3:n%10<10:=Nat.mod_lt _ (by decide);rw [h1,qM (by omega),h2,xN .u8 (by show _<2^8;omega),UInt8.toNat_ofNat'];have:(48+n%10)%2^8=48+n%10:=Nat.mod_eq_of_lt (by omega);rw [this]
theorem qgs:∀f n,(qin f n).length<=f
 | 0,n=>le_refl _
 | f+1,n=>by
  unfold qin;split
  ·show 1<=f+1;omega
  ·rw [length_append];have:=qgs f (n/10);show _+1<=f+1;omega
theorem qbz {n:Nat} (hn:n<1000000) {K:ByteArray->Ub} (hK:∀w',Uc w w'->K (qX (qin 9 n)) w'):zX (n:Int) w K:=by
 refine qf5 _ ?_;refine cF (dFq (by omega)) ⟨by decide,?_⟩;rw [q6v];refine nwb λw1 hb1 hB1 hs1=>?_;refine kw (bs:=[UInt8.ofNat (48+n%10)]) (y9 (E:=qo) hb1 rfl) ?_;refine lpR (λ(st:Int×ByteArray×Unit) w2=>Uc w w2/\∃(m f:Nat) (t:List UInt8),st.1=(m:Int)/\st.2.1=qX t/\m<=n/\m<10^(f+1)/\f<=8/\t.length+f<=9/\(if m<10 then t else qin f (m/10)++t)=qin 9 n) (λst=>st.1.toNat)
  ⟨hB1,n,8,_,rfl,rfl,le_refl _,by show n<1000000000;omega,le_refl _,le_refl _,?_⟩ ?_
 ·conv=>rhs;unfold qin
  split
  ·rw [show n%10=n by omega]
  ·rfl
 rintro ⟨x,s,u⟩ w2 ⟨hB,m,f,t,rfl,rfl,hmn,hm,hf,htl,he⟩ I hI;dsimp only;by_cases h10:10<=m
 ·refine cT (dTq (by omega)) ⟨by decide,by decide,?_⟩;have h1:(m:Int).tdiv 10=((m/10:Nat):Int):=(Int.ofNat_tdiv m 10).symm;have e:i64.wrap ((m:Int).tdiv 10)=((m/10:Nat):Int):=by rw [h1,qM (by omega)]
  rw [e,q6v];refine nwb λw3 hb3 hB3 hs3=>?_;refine kw (bs:=[UInt8.ofNat (48+m/10%10)]) (y9 (E:=qo) hb3 rfl) ?_;rw [jH];cases f with
  | zero=>rw [show 10^(0+1)=10 from rfl] at hm;omega
  | succ f =>
   have hm2:m/10<10^(f+1):=Nat.div_lt_of_lt_mul (by rw [Nat.mul_comm,<-Nat.pow_succ];exact hm);refine ⟨by rw [qT,qT];simp only [length_cons,length_nil];omega,hI _ _ ⟨bT hB hB3,m/10,f,_,rfl,rfl,by omega,hm2,by omega,by simp;omega,?_⟩ (by show ((m/10:Nat):Int).toNat<((m:Nat):Int).toNat;omega)⟩;rw [if_neg (by omega)] at he;rw [<-he]
   conv=>rhs;unfold qin
   split
   ·rw [show m/10%10=m/10 by omega]
   ·rw [List.append_assoc]
 ·refine cF (dFq (by omega)) ?_;rw [if_pos (by omega)] at he;rw [he];exact hK w2 hB
def vP (c k:Nat):Int:=if c=0 then ((2^k-1:Nat):Int) else 0
theorem zl6:∀k,k<6->jN .or .u8 (vP 0 k) (u8.wrap ((1:Int)*2^(min (u64.wrap (k:Int)).toNat u8.bits)))=vP 0 (k+1):=by decide
theorem zpb:∀c,c<4->∀k,k<=6->u8.wrap (63+vP c k)=((UInt8.ofNat (63+if c=0 then 2^k-1 else 0)).toNat:Int):=by decide
theorem zlo:∀h,h<=8->∀y,y=0\/y=6->∀k,k=min 6 (h-y)->((List.range 6).map λk=>if y+k<h then 2^k else 0).sum=2^k-1:=by
 intro h hh y hy k hk;subst hk;have:∀h,h<9->∀b:Bool,((List.range 6).map λk=>if (if b then 0 else 6)+k<h then 2^k else 0).sum=2^(min 6 (h-if b then 0 else 6))-1:=by decide
 rcases hy with rfl | rfl
 ·exact this h (by omega) true
 ·exact this h (by omega) false
def zld (h c y:Nat):UInt8:=UInt8.ofNat (63+if c=0 then 2^(min 6 (h-y))-1 else 0)
theorem zkl {w h c y:Nat} (hh:h<=8) (hy:y=0\/y=6):q96 w h c y=List.replicate w (zld h c y):=by
 unfold q96 zld;rw [zlo h hh y hy _ rfl];simp [List.map_const']
theorem zlv {base wx hx c y:Nat} (hw:1<=wx/\wx<=8) (hh:1<=hx/\hx<=8) (hc4:c<4) (hy:y=0\/y=6) (hyh:y<hx) {colours q:Slc} {xs:List UInt8} (hc:Rd qo w colours (List.replicate (wx*hx) 0)) (hq:Row w base q xs) (hl:xs.length<=1000) (hlt:∀a,colours.a=some a->a.block<base) (hb:base<=w.heap.size) {K:Slc->Ub}
  (hK:∀r w',Row w' base r (xs++q96 wx hx c y++[36])->Below base w w'->K r w') :
  zh (σ:=Slc×Int×Unit) (λI3 s_2 w11=>
       cond (decide (s_2.2.1<(wx:Int)))
        (zh (σ:=Int×Int×Unit) (λI4 s_3 w12=>
          qW (λw13=>
           zf (σ:=Bool×Unit) (λs_5 w14=>
            cond s_5.1
             (
             0<=(u64.wrap s_3.2.1) /\
             I4 ((jN .or .u8 s_3.1 (u8.wrap ((1:Int)*2^(min (u64.wrap s_3.2.1).toNat u8.bits)))),(i64.wrap (s_3.2.1+1)),()) w14)
             (I4 (s_3.1,(i64.wrap (s_3.2.1+1)),()) w14)) λJ6=>
           cond (decide ((i64.wrap ((i64.wrap ((i64.wrap ((y:Int)+s_3.2.1))*(wx:Int)))+s_2.2.1))<(colours.n:Int)))
            (
            ixK colours (i64.wrap ((i64.wrap ((i64.wrap ((y:Int)+s_3.2.1))*(wx:Int)))+s_2.2.1)) 1 λt81=>
            ldI .u8 t81 w13 λt82=>
            (5:Int)≠0 /\
            J6 (((t82.tmod (5:Int))==(u8.wrap (c:Int))),()) w13)
            (J6 (false,()) w13)) λJ5=>
          cond (decide (s_3.2.1<6))
           (cond (decide ((i64.wrap ((y:Int)+s_3.2.1))<(hx:Int)))
            (J5 w12)
            (
             nw qF [(.int .u8 (u8.wrap (63+s_3.1)))] w12 λt96 w15=>
             apK PG #[qj,qj] qj s_2.1 (⟨(some t96),1,1⟩:Slc) w15 λt97 w16=>
             I3 (t97,(i64.wrap (s_2.2.1+1)),()) w16))
           (
           nw qF [(.int .u8 (u8.wrap (63+s_3.1)))] w12 λt96_1 w17=>
           apK PG #[qj,qj] qj s_2.1 (⟨(some t96_1),1,1⟩:Slc) w17 λt97_1 w18=>
           I3 (t97_1,(i64.wrap (s_2.2.1+1)),()) w18)) (0,0,()) w11)
        (
         nw qF [(.int .u8 36)] w11 λt99 w19=>
         apK PG #[qj,qj] qj s_2.1 (⟨(some t99),1,1⟩:Slc) w19 λt100 w20=>
         K t100 w20)) (q,0,()) w:=by
 rw [zkl hh.2 hy] at hK;have bel:∀{w1 w2:World} {s:Slc} {zs:List UInt8},Row w1 base s zs->base<=w1.heap.size->Chg (λk=>s.blk=some k) w1 w2->Below base w1 w2:=λh hb hc=>hc.below hb λi hi e=>by have:=(h.lt i e).1;omega
 refine lpR (λ(st:Slc×Int×Unit) w1=>∃x:Nat,st.2.1=(x:Int)/\x<=wx/\Row w1 base st.1 (xs++List.replicate x (zld hx c y))/\Below base w w1) (λst=>wx-st.2.1.toNat) ⟨0,rfl,zero_le _,by simpa using hq,(Below.refl base w)⟩ ?_;rintro ⟨s,i,u⟩ w1 ⟨x,hi,hx1,hr,hB⟩ I hI;dsimp only at hi hr ⊢;subst hi;have z1:base<=w1.heap.size:=le_trans hb hB.size;by_cases e:x<wx
 ·refine cT (dTq (by omega)) ?_;have hc1:Rd qo w1 colours (List.replicate (wx*hx) 0):=hc.chg (Chg.of_below hB) λa ha h=>by have:=hlt a ha;omega
  have cn:=hc1.n;rw [List.length_replicate] at cn;refine lpR (λ(st:Int×Int×Unit) w2=>∃k:Nat,st.2.1=(k:Int)/\k<=min 6 (hx-y)/\st.1=vP c k/\w2=w1) (λst=>6-st.2.1.toNat) ⟨0,rfl,zero_le _,by unfold vP;split<;>rfl,rfl⟩ ?_;rintro ⟨v,kk,u⟩ w2 ⟨k,hk,hk6,hv,rfl⟩ I4 hI4;dsimp only at hk hv ⊢;subst hk hv;have app:k=min 6 (hx-y)->nw qF [(.int .u8 (u8.wrap (63+vP c k)))] w2 (λt96 w15=>apK PG #[qj,qj] qj s (⟨(some t96),1,1⟩:Slc) w15 λt97 w16=>I (t97,(i64.wrap ((x:Int)+1)),()) w16):=λek=>by
   rw [zpb c hc4 k (by omega),ek];refine nwb λw3 hb3 hB3 hs3=>?_;refine (hr.ext hB3).apK (ys:=[zld hx c y]) (y9 (E:=qo) hb3 rfl) (le_trans z1 hB3.size) (by simp;omega) λr w4 hr4 hc4=>?_;have B3:=hB.trans (hB3.mono z1);refine hI _ _ ⟨x+1,by rw [qM (by omega)];simp,e,by rw [List.append_assoc,<-List.replicate_succ'] at hr4;exact hr4,B3.trans (bel (hr.ext hB3) (le_trans z1 hB3.size) hc4)⟩ (by dsimp only;rw [qM (by omega)];omega)
  refine jpO λJ5 hJ5=>?_;by_cases h6:k<6
  ·refine cT (dTq (by omega)) ?_;have ew:i64.wrap ((y:Int)+(k:Int))=((y+k:Nat):Int):=by rw [qM (by omega)];simp
   rw [ew];by_cases hyk:y+k<hx
   ·refine cT (dTq (by omega)) (hJ5 _ _ (jpO λJ6 hJ6=>?_));have hm:(y+k)*wx+x<wx*hx:=by
     have:(y+k+1)*wx<=hx*wx:=Nat.mul_le_mul_right _ hyk;rw [Nat.add_mul,Nat.one_mul] at this;rw [Nat.mul_comm wx hx];omega
    have hm2:wx*hx<=64:=Nat.mul_le_mul hw.2 hh.2;have e1:i64.wrap (((y+k:Nat):Int)*(wx:Int))=(((y+k)*wx:Nat):Int):=by rw [<-Int.natCast_mul,qM (by omega)]
    have e2:i64.wrap ((((y+k)*wx:Nat):Int)+(x:Int))=(((y+k)*wx+x:Nat):Int):=by rw [<-Int.natCast_add,qM (by omega)]
    rw [ew,e1,e2];refine cT (dTq (by rw [cn];omega)) (hc1.ix (i:=(((y+k)*wx+x:Nat):Int)) rfl (by omega) (by rw [List.length_replicate];omega) λhcell=>?_);rw [List.getElem_replicate] at hcell;refine lI (x:=0) (by simpa using hcell 0 _ rfl) ⟨by decide,hJ6 _ _ ?_⟩;have ec:((0:Int).tmod 5==u8.wrap (c:Int))=decide (c=0):=by
     have:∀c:Nat,c<4->((0:Int).tmod 5==u8.wrap (c:Int))=decide (c=0):=by decide
     exact this c hc4
    dsimp only;rw [ec];have ek:i64.wrap ((k:Int)+1)=((k+1:Nat):Int):=by rw [qM (by omega)];simp
    rw [ek];have go:I4 (vP c (k+1),((k+1:Nat):Int),()) w2:=hI4 _ _ ⟨k+1,rfl,by omega,rfl,rfl⟩ (by dsimp only;omega);by_cases h0:c=0
    ·subst h0;refine cT rfl ⟨by
                have:∀k:Nat,k<6->(0:Int)<=u64.wrap (k:Int):=by decide
                exact this k h6,?_⟩
     rw [zl6 k h6];exact go
    ·refine cF (dFq h0) ?_;have:vP c (k+1)=vP c k:=by unfold vP;rw [if_neg h0,if_neg h0]
     rw [this] at go;exact go
   ·exact cF (dFq (by omega)) (app (by omega))
  ·exact cF (dFq (by omega)) (app (by omega))
 ·obtain rfl:x=wx:=by omega
  refine cF (dFq (by omega)) (nwb λw3 hb3 hB3 hs3=>?_);refine (hr.ext hB3).apK (ys:=[36]) (y9 (E:=qo) hb3 rfl) (le_trans z1 hB3.size) (by simp;omega) λr w4 hr4 hc4=>?_;exact hK r w4 hr4 ((hB.trans (hB3.mono z1)).trans (bel (hr.ext hB3) (le_trans z1 hB3.size) hc4))
theorem zjf (w h c y:Nat):(q96 w h c y).length=w:=by simp [q96]
def YJ (w h j:Nat):List UInt8:=(List.range j).flatMap λi=>zkg w h (6*i)
def q2c (w h y c:Nat):List UInt8:=(List.range c).flatMap (zd7 w h y)
theorem zad (w h j:Nat):YJ w h (j+1)=YJ w h j++(q2c w h (6*j) 4++[45]):=by
 unfold YJ;rw [List.range_succ,List.flatMap_append];simp [q2c,zkg,List.range_succ]
theorem zjh {wx hx:Nat} (hw:1<=wx/\wx<=8) (hh:1<=hx/\hx<=8) {colours:Slc} (hc:Rd qo w colours (List.replicate (wx*hx) 0)) {base:Nat} (hb0:base<=w.heap.size) (hlt:∀a,colours.a=some a->a.block<base) {K:Slc->Ub}
  (hK:∀r w',Row w' base r ([27,80,48,59,49,113]++zcs wx hx++[27,92])->Below base w w'->K r w'):ZT (wx:Int) (hx:Int) colours w K:=by
 refine qio _ _ _ ?_;have e1:(⟨#[27,80,48,59,49,113,34,49,59,49,59]⟩:ByteArray)=qX [27,80,48,59,49,113,34,49,59,49,59]:=rfl;have e2:(⟨#[59]⟩:ByteArray)=qX [59]:=rfl;have e3:(⟨#[35]⟩:ByteArray)=qX [35]:=rfl;have e4:(⟨#[59,50,59]⟩:ByteArray)=qX [59,50,59]:=rfl;have e5:(⟨#[27,92]⟩:ByteArray)=qX [27,92]:=rfl;rw [e1,e2,e3,e4,e5];refine qbz (by omega) λw1 hB1=>?_;have l1:=qgs 9 wx;have l2:=qgs 9 hx;simp only [jH,qT,length_append,length_cons,length_nil];refine ⟨by omega,by omega,qbz (by omega) λw2 hB2=>?_⟩;simp only [jH,qT,length_append,length_cons,length_nil];have B2:=bT hB1 hB2;generalize hde:[27,80,48,59,49,113,34,49,59,49,59]++qin 9 wx++[59]++qin 9 hx=hd;have ld:hd.length<=40:=by
  rw [<-hde];simp only [length_append,length_cons,length_nil];omega
 refine ⟨by omega,zkj (by omega) λt w3 ht hB3=>?_⟩;have B3:=(bT B2 hB3).mono hb0;have z2:=B2.size;have bel:∀{w1 w2:World} {s:Slc} {zs:List UInt8},Row w1 base s zs->base<=w1.heap.size->Chg (λk=>s.blk=some k) w1 w2->Below base w1 w2:=λh hb hc=>hc.below hb λi hi e=>by have:=(h.lt i e).1;omega
 have hcb:∀{w1},Below base w w1->Rd qo w1 colours (List.replicate (wx*hx) 0):=λhB=>hc.chg (Chg.of_below hB) λa ha h=>by have:=hlt a ha;omega
 have ht:Row w3 base t hd:=by
  rcases ht with ⟨rfl,h⟩ | ⟨g,cur,fz,e,hg,r⟩
  ·exact .inl ⟨rfl,h⟩
  ·exact .inr ⟨g,cur,fz,e,by omega,r⟩
 refine lpR (λ(st:Slc×Int×Unit) w1=>∃j:Nat,st.2.1=((6*j:Nat):Int)/\6*j<hx+6/\Row w1 base st.1 (hd++YJ wx hx j)/\(hd++YJ wx hx j).length<=40+300*j/\Below base w w1) (λst=>20-st.2.1.toNat) ⟨0,rfl,by omega,by simpa [YJ] using ht,by simpa [YJ] using ld,B3⟩ ?_;rintro ⟨s,i,u⟩ w4 ⟨j,hi,hj,hr,hl,hB⟩ I1 hI1;dsimp only at hi hr ⊢;subst hi;have z4:base<=w4.heap.size:=by have:=hB.size;omega
 by_cases e:6*j<hx
 ·refine cT (dTq (by omega)) ?_;refine lpR (λ(st:Slc×Int×Unit) w1=>∃c:Nat,st.2.1=(c:Int)/\c<=4/\Row w1 base st.1 (hd++YJ wx hx j++q2c wx hx (6*j) c)/\(hd++YJ wx hx j++q2c wx hx (6*j) c).length<=40+300*j+60*c/\Below base w w1) (λst=>4-st.2.1.toNat) ⟨0,rfl,by omega,by simpa [q2c] using hr,by simpa [q2c] using hl,hB⟩ ?_;rintro ⟨s5,i5,u5⟩ w5 ⟨c,hi5,hc5,hr5,hl5,hB5⟩ I2 hI2;dsimp only at hi5 hr5 ⊢;subst hi5;have z5:base<=w5.heap.size:=by have:=hB5.size;omega
  by_cases e4:c<4
  ·refine cT (dTq (by omega)) (qbz (by omega) λw6 hB6=>?_);have k1:i64.wrap (10+i64.wrap (30*(c:Int)))=((10+30*c:Nat):Int):=by rw [qM (x:=30*(c:Int)) (by omega),qM (by omega)];simp
   have k2:i64.wrap (100-(c:Int))=((100-c:Nat):Int):=by rw [qM (by omega)];omega
   rw [k1,k2];have m1:=qgs 9 c;have m2:=qgs 9 (10+30*c);have m3:=qgs 9 (100-c);simp only [jH,qT,length_append,length_cons,length_nil];refine ⟨by omega,by omega,qbz (by omega) λw7 hB7=>?_⟩;simp only [jH,qT,length_append,length_cons,length_nil];refine ⟨by omega,by omega,qbz (by omega) λw8 hB8=>?_⟩;simp only [jH,qT,length_append,length_cons,length_nil];refine ⟨by omega,by omega,qbz (by omega) λw9 hB9=>?_⟩;simp only [jH,qT,length_append,length_cons,length_nil];have B59:Uc w5 w9:=bT (bT (bT hB6 hB7) hB8) hB9;have z9:=B59.size;refine ⟨by omega,(hr5.ext B59).apS (by omega) (by simp only [length_append,length_cons,length_nil] at hl5 ⊢;omega) λr w10 hr10 hc10=>?_⟩;have B9:=hB5.trans (B59.mono z5);have B10:=B9.trans (bel (hr5.ext B59) (by omega) hc10);have z10:=hc10.size;refine zlv hw hh e4 (by omega) e (hcb B10) hr10 (by simp only [length_append,length_cons,length_nil] at hl5 ⊢;omega) (λa ha=>by have:=hlt a ha;omega) (by omega) λr2 w11 hr11 hB11=>?_;have ec:hd++YJ wx hx j++q2c wx hx (6*j) c++([35]++qin 9 c++[59,50,59]++qin 9 (10+30*c)++[59]++qin 9 (100-c)++[59]++qin 9 c)++q96 wx hx c (6*j)++[36]=hd++YJ wx hx j++q2c wx hx (6*j) (c+1):=by
    unfold q2c;rw [List.range_succ,List.flatMap_append];simp [zd7]
   rw [ec] at hr11;refine hI2 _ _ ⟨c+1,by rw [qM (by omega)];simp,by omega,hr11,?_,B10.trans hB11⟩ (by dsimp only;rw [qM (by omega)];omega);rw [<-ec];simp only [length_append,length_cons,length_nil,zjf] at hl5 ⊢;omega
  ·obtain rfl:c=4:=by omega
   refine cF (dFq (by omega)) (nwb λw6 hb6 hB6 hs6=>?_);have z6:=hB6.size;refine (hr5.ext hB6).apK (ys:=[45]) (y9 (E:=qo) hb6 rfl) (by omega) (by simp only [length_append,length_cons,length_nil] at hl5 ⊢;omega) λr w7 hr7 hc7=>?_;have er:hd++YJ wx hx j++q2c wx hx (6*j) 4++[45]=hd++YJ wx hx (j+1):=by rw [zad];simp
   have hl7:(hd++YJ wx hx (j+1)).length<=40+300*(j+1):=by
    rw [<-er];simp only [length_append,length_cons,length_nil] at hl5 ⊢;omega
   rw [er] at hr7;exact hI1 _ _ ⟨j+1,by dsimp only;rw [qM (by omega)];omega,by omega,hr7,hl7,(hB5.trans (hB6.mono z5)).trans (bel (hr5.ext hB6) (by omega) hc7)⟩ (by dsimp only;rw [qM (by omega)];omega)
 ·refine cF (dFq (by omega)) (hr.apS (ys:=[27,92]) z4 (by simp only [length_append,length_cons,length_nil] at hl ⊢;omega) λr w5 hr5 hc5=>?_);have ed:hd++YJ wx hx j++[27,92]=[27,80,48,59,49,113]++zcs wx hx++[27,92]:=by
   rw [<-hde];unfold zcs;rcases Nat.lt_or_ge 6 hx with h6 | h6
   ·obtain rfl:j=2:=by omega
    rw [if_pos h6];simp [YJ,List.range_succ]
   ·obtain rfl:j=1:=by omega
    rw [if_neg (by omega)];simp [YJ,List.range_succ]
  rw [ed] at hr5;exact hK r w5 hr5 (hB.trans (bel hr z4 hc5))
end
def okG (C:Nat) (G:GS):Prop:=∀xs∈G.L,Plain xs/\xs.length=C
theorem zg3 {P:Cel->Prop} {L:List (List Cel)} (h:∀xs∈L,∀c∈xs,P c) (h0:P Xn):∀r c,P (kn L r c):=by
 intro r c;unfold kn;rw [List.getD_eq_getElem?_getD,List.getD_eq_getElem?_getD];cases hr:L[r]? with
 | none=>exact h0
 | some xs =>
  show P ((xs[c]?).getD Xn);cases hc:xs[c]? with
  | none=>exact h0
  | some y=>exact h xs (List.mem_of_getElem? hr) y (List.mem_of_getElem? hc)
section
variable {w w':World} {base:Nat} {F F':TmF} {T T':TS} {PF:PF} {p:PS}
theorem qr0 {rows cols quota:Int} (hc:okC ⟨rows,cols,2,2,4,quota⟩) (hq:YT quota=0) (hT:Tab w) (h4:4<=w.heap.size) {K:Option Addr->Ub} (hK:∀F PF w',TPM w' w.heap.size F PF ps0 (yj ⟨rows,cols,2,2,4,quota⟩)->Uc w w'->K (some ⟨F.tg,0,none⟩) w'):kC rows cols quota w K:=by
 refine qi0 _ _ _ ?_;exact zch hc hq hT h4 λF PF w' hM hB=>cF rfl (hK F PF w' hM hB)
theorem qow {n m:Int} (hm:0<m/\m<=1000) {K:Int->Ub} (hK:∀k:Nat,(k:Int)<m->K (k:Int) w):kA n m w K:=by
 refine qkx _ _ ?_;have l1:=Int.lt_tmod_of_pos n hm.1;have l2:=Int.tmod_lt_of_pos n hm.1;refine ⟨by omega,cO (λe=>?_) λe=>?_⟩
 ·have e:=oTq e;have:=hK (n.tmod m+m).toNat (by omega)
  rwa [Int.toNat_of_nonneg (by omega),<-qM (x:=n.tmod m+m) (by omega)] at this
 ·have e:=oFq e;have:=hK (n.tmod m).toNat (by omega)
  rwa [Int.toNat_of_nonneg (by omega)] at this
def kc:qY:=⟨2,3,2,2,4,4096⟩
def kbs:List UInt8:=[120,27,91,53,110]
def kev:List EvP:=[q8g 120,⟨4,0,110,0,[],[5],[]⟩]
theorem zi0:(ps0.eachB kbs).2=kev:=by kernel_rfl
theorem zox:(zmt [⟨120,0,at0⟩,Xn,Xn]).toList==(⟨#[120]⟩:ByteArray).toList:=by kernel_rfl
end
theorem qzq {T:TS} {v:EvP} (h:v.k≠11) (h8:v.k≠8) (P:Slc):kR T v P=kR T v ⟨none,0,0⟩:=by
 unfold kR QR;simp only [if_neg h,if_neg h8]
noncomputable def kT1:TS:=kR (yj kc) (q8g 120) ⟨none,0,0⟩
noncomputable def kT2:TS:=kR kT1 ⟨4,0,110,0,[],[5],[]⟩ ⟨none,0,0⟩
theorem k2x:kT2.S.g.L=[[⟨120,0,at0⟩,Xn,Xn],[Xn,Xn,Xn]]:=by kernel_rfl
theorem qyh {l r:List UInt8} {n:Nat} (h:l=r) (hr:r.length<=n):l.length<=n:=by rw [h];exact hr
theorem zo3 (b tg pg:Nat):zQ (TH2 b tg pg) (yj kc) kev:=by
 refine ⟨⟨.inr (.inr (.inr (.inl ⟨.inl rfl,.inl ⟨.inl rfl,rfl⟩⟩))),λP=>⟨by kernel_rfl,.inr (by kernel_rfl)⟩,qyh (r:=[]) (by kernel_rfl) (by decide),λP=>qyh (r:=[]) (by kernel_rfl) (by decide),?_⟩,?_⟩
 ·rw [show (yj kc).n=0 by kernel_rfl];decide
 rintro m ⟨P1,rfl⟩;rw [qzq (show (q8g 120).k≠11 by decide) (by decide)];refine ⟨⟨.inr (.inr (.inr (.inl ⟨.inr rfl,.inl ⟨.inr ⟨rfl,rfl,rfl,.inl rfl⟩,rfl⟩⟩))),λP=>⟨by kernel_rfl,.inr (by kernel_rfl)⟩,qyh (r:=[]) (by kernel_rfl) (by decide),λP=>qyh (r:=[27,91,48,110]) (by kernel_rfl) (by decide),?_⟩,λ_ _=>trivial⟩;show kT1.n<=880;rw [show kT1.n=0 by kernel_rfl];decide
theorem zj6 {b tg pg:Nat} {T':TS} (h:yn (TH2 b tg pg) (yj kc) kev T'):T'=kT2:=by
 obtain ⟨m1,⟨P1,rfl⟩,m2,⟨P2,rfl⟩,rfl⟩:=h;rw [qzq (show (q8g 120).k≠11 by decide) (by decide)];exact qzq (show (4:Int)≠11 by decide) (show (4:Int)≠8 by decide) P2
theorem q67 {P:Cel->Prop} (h0:P Xn) (h1:P ⟨120,0,at0⟩):∀r c,P (kn kT2.S.g.L r c):=by
 refine zg3 (λxs hx c hc=>?_) h0;rw [k2x] at hx;simp only [mem_cons,List.not_mem_nil,or_false] at hx;rcases hx with rfl | rfl
 ·simp only [mem_cons,List.not_mem_nil,or_false] at hc;rcases hc with rfl | rfl | rfl
  ·exact h1
  ·exact h0
  ·exact h0
 ·simp only [mem_cons,List.not_mem_nil,or_false] at hc;rcases hc with rfl | rfl | rfl<;>exact h0
section
variable {w w':World} {base:Nat} {F F':TmF} {T T':TS}
theorem zep {PF:PF} {p:PS} (h:TPI w base F PF p T) {q:Slc} {bs:List UInt8} {w3:World} (hB:Uc w w3) (hq:Cmd w3 w.heap.size q bs):∀a,q.a=some a->¬yl PF a.block/\¬YY F T a.block/\a.block<w3.heap.size:=by
 intro a ha;have hb:w.heap.size<=a.block/\a.block<w3.heap.size:=by
  rcases hq with h | ⟨g,hg,rfl,h⟩
  ·exact h.lt a.block (slk.2 ⟨a,ha,rfl⟩)
  ·cases ha;exact ⟨hg,h.lt⟩
 exact ⟨λhs=>by have:=(h.lt (.inl hs)).2;omega,λhs=>by have:=(h.lt (.inr hs)).2;omega,hb.2⟩
theorem zcd (hT:Tab w) (h4:4<=w.heap.size) {K:Bool->Ub} (hK:∀w',Uc w w'->K true w'):ZO w K:=by
 refine qkk ?_;unfold YO;refine qr0 (by unfold okC;decide) rfl hT h4 λF PF w1 M1 hB1=>cF rfl ?_;refine zgl (bs:=kbs) rfl rfl λq w3 hq hB3=>?_;have M3:=M1.two.ext hB3;refine qwk M3 (hq.rd (by decide)) (by decide) (by decide) (zep M1.two hB3 hq) (by rw [zi0];exact zo3 _ _ _) λF4 PF4 T4 w4 M4 hR e4 e5 hc4 hold=>?_;rw [zi0] at hR;have hT4:=zj6 hR;subst hT4;rw [<-e4];have B1:=bT hB1 hB3;have B4:Uc w w4:=B1.trans (M3.belowB hc4);have m4:=M4.tm;have e3:kT2.S.g.cols=3:=by kernel_rfl
 have e2:kT2.S.g.rows=2:=by kernel_rfl
 have et:kT2.E.T.filter (ZN (jI kT2).View)=[]:=by rw [show kT2.E.T=[] by kernel_rfl];rfl
 refine qwl m4 (D:=[]) (by rw [show kT2.n=0 by kernel_rfl];decide) (by rw [et];exact ⟨.nil,λp hp=>by cases hp⟩) (by rw [show kT2.E.T=[] by kernel_rfl];decide) et (cw:=2) (ch:=2) (by kernel_rfl) (by kernel_rfl) (by decide) (q67 (P:=λc=>c.A=at0) rfl rfl) (q67 (P:=λc=>0<=c.R/\c.R<=1114111) ⟨by decide,by decide⟩ ⟨by decide,by decide⟩) (by rw [e3];decide) (by rw [e2];decide) (by rw [show kT2.S.c.Row=0 by kernel_rfl];decide) (by rw [show kT2.S.c.Col=1 by kernel_rfl];decide) (λd hd=>by cases hd) λm w5 hM hB5=>?_;have hw6:m.W=6:=hM.hw.trans (by rw [e3];rfl);have hh4:m.H=4:=hM.hh.trans (by rw [e2];rfl);refine jS (vs:=qf.rep.cells m) rfl λw7 h7 hB7 hs7=>?_;have B7:=bT hB5 hB7;have m7:=m4.ext B7;refine qbj m7 λql ls w8 hql hls hB8=>cT rfl ?_;rw [k2x] at hls;have h8:=h7.ext hB8;refine lI (x:=6) (by rw [<-hw6];exact h8.cells 0 _ rfl) (cT rfl (lI (x:=4) (by rw [<-hh4];exact h8.cells 1 _ rfl) (cT rfl ?_)));have hlen:ls.length=2:=hls.1;refine cT (by rw [hql.rd.n,hlen];rfl) ?_;obtain ⟨s0,hs0,hss⟩:=qf9 (xs:=ls) (k:=0) (by omega);refine hql.rd.ix (i:=0) (k:=1) rfl (by decide) (by omega) λhc=>?_;have hss':=hss (by show (0:Nat)<ls.length;omega);refine lSl (x:=s0) (by have:=hc 0 _ rfl;rw [show ls[(0:Int).toNat]'(by show (0:Nat)<ls.length;omega)=s0 from hss'] at this;simpa using this) ?_;refine zdx (hls.2 0 s0 _ hs0 rfl).rd (by decide) λw9 hB9=>cT zox ?_;have m9:=(m7.ext hB8).ext hB9;refine qnv m9 λqr F10 w10 hqr t10=>kw hqr ?_;have hr:((qX kT2.rep).toList==(⟨#[27,91,48,110]⟩:ByteArray).toList)=true:=by
  rw [kN,show kT2.rep=[27,91,48,110] by kernel_rfl];kernel_rfl
 rw [hr];refine hK w10 ?_;have B9:=bT (bT (bT B4 B7) hB8) hB9;exact B9.trans ((m9.belowB t10).mono (le_refl _))
end
def zav (hb xs:List UInt8):List UInt8:=[27,95,71]++hb++[59]++xs++[27,92]
theorem qs4 {w:World} {hb:List UInt8} {text:Slc} {xs:List UInt8} (hx:Rd qo w text xs) (hl:hb.length+xs.length<=10000) {K:Slc->Ub} (hK:∀q w',Rd qo w' q (zav hb xs)->Uc w w'->K q w'):vn (qX hb) text w K:=by
 refine qge _ _ ?_;have e1:(⟨#[27,95,71]⟩:ByteArray)=qX [27,95,71]:=rfl;have e2:(⟨#[59]⟩:ByteArray)=qX [59]:=rfl;have e3:(⟨#[27,92]⟩:ByteArray)=qX [27,92]:=rfl;rw [e1,e2,e3,jH,jH,qT,qT,qT,qT];simp only [length_append,length_cons,length_nil];refine ⟨by omega,by omega,kw hx ?_⟩;rw [jH,jH,qT,qT,qT,qT];simp only [length_append,length_cons,length_nil];refine ⟨by omega,by omega,qkb (by simp only [length_append,length_cons,length_nil];omega) λq w' hq hqb hB _=>hK q w' hq hB⟩
def Sd (w:World) (b tg pg:Nat) (p:PS) (T:TS) (X:Nat->Prop):Prop:=∃F PF,TPI w b F PF p T/\F.tg=tg/\F.pg=pg/\X=λk=>yl PF k\/YY F T k
section
variable {w w':World} {b tg pg:Nat} {p:PS} {T:TS} {X:Nat->Prop}
theorem Sd.lt (h:Sd w b tg pg p T X) (k:Nat) (hk:X k):b<=k/\k<w.heap.size:=by
 obtain ⟨F,PF,ht,rfl,rfl,rfl⟩:=h;exact ht.lt hk
theorem Sd.far (h:Sd w b tg pg p T X):far X w:=by
 obtain ⟨F,PF,ht,rfl,rfl,rfl⟩:=h;obtain ⟨fv,hp⟩:=ht.pm;rintro k cs (hk | hk | hk) hb
 ·exact hp.far k cs hk hb
 ·exact ht.tm.far k cs hk hb
 ·obtain ⟨_,vs,hv⟩:=qzn ht.tm.en hk;exact hv.ne_t hb (by decide) rfl
theorem Sd.keep (h:Sd w b tg pg p T X) {Y:Nat->Prop} (hc:Chg Y w w') (hY:∀k,X k->¬Y k) (hf:Go.Proofs.YtjhgepnpnapnoaaGreatDoor.far Y w) (ht:Tab w'):Sd w' b tg pg p T X:=by
 obtain ⟨F,PF,h,rfl,rfl,rfl⟩:=h;obtain ⟨fv,hp⟩:=h.pm;exact ⟨F,PF,⟨h.tm.keep hc (λk hk=>hY k (.inr (.inl hk))) (λk hk=>hY k (.inr (.inr hk))) hf ht,⟨fv,hp.chg hc λk hk=>hY k (.inl hk)⟩,h.e,h.dj⟩,rfl,rfl,rfl⟩
theorem Sd.ext (h:Sd w b tg pg p T X) (hB:Uc w w'):Sd w' b tg pg p T X:=by
 obtain ⟨F,PF,h,rfl,rfl,rfl⟩:=h;exact ⟨F,PF,h.ext hB,rfl,rfl,rfl⟩
theorem Sd.tab (h:Sd w b tg pg p T X):Tab w:=by
 obtain ⟨F,PF,h,rfl,rfl,rfl⟩:=h;exact h.tm.tab
theorem Sd.tm (h:Sd w b tg pg p T X):∃F,TermM w b F T/\F.tg=tg:=by
 obtain ⟨F,PF,h,rfl,rfl,rfl⟩:=h;exact ⟨F,h.tm,rfl⟩
theorem Sd.feed (h:Sd w b tg pg p T X) {q:Slc} {bs:List UInt8} (hq:Rd qo w q bs) (hl:bs.length<=1000000) (hb:∀b∈bs,b.toNat<128) (hqn:∀a,q.a=some a->¬X a.block/\a.block<w.heap.size) (hok:vo (TH2 b tg pg) p T bs) {K:Ub}
  (hK:∀T' X' w',Sd w' b tg pg (Yd p bs) T' X'->Xu (TH2 b tg pg) p T bs T'->Chg X w w'->(∀k,X' k->X k\/w.heap.size<=k)->K w'):jQ (some ⟨tg,0,none⟩) q w K:=by
 obtain ⟨F,PF,h,rfl,rfl,rfl⟩:=h;refine q6m h hq hl hb (λa ha=>⟨λhx=>(hqn a ha).1 (.inl hx),λhx=>(hqn a ha).1 (.inr hx),(hqn a ha).2⟩) hok λF' PF' T' w' ht hs e1 e2 hc ho=>?_;exact hK T' _ w' ⟨F',PF',ht,e1,e2,rfl⟩ hs hc ho
end
structure MX (w:World) (b tg pg:Nat) (p:PS) (T:TS) (X:Nat->Prop) (b' tg' pg':Nat) (p':PS) (U:TS) (Y:Nat->Prop) (q:Slc) (bs:List UInt8):Prop where
 t:Sd w b tg pg p T X
 u:Sd w b' tg' pg' p' U Y
 d:∀k,X k->¬Y k
 r:Rd qo w q bs
 n:∀a,q.a=some a->¬X a.block/\¬Y a.block/\a.block<w.heap.size
section
variable {w w':World} {b tg pg b' tg' pg':Nat} {p p':PS} {T U:TS} {X Y:Nat->Prop} {q:Slc} {bs:List UInt8}
theorem MX.symm (h:MX w b tg pg p T X b' tg' pg' p' U Y q bs):MX w b' tg' pg' p' U Y b tg pg p T X q bs:=⟨h.u,h.t,λk hy hx=>h.d k hx hy,h.r,λa ha=>⟨(h.n a ha).2.1,(h.n a ha).1,(h.n a ha).2.2⟩⟩
theorem MX.feed (h:MX w b tg pg p T X b' tg' pg' p' U Y q bs) {l m:Nat} (hlm:l<=m) (hm:m<=bs.length) (hl:bs.length<=1000) (hb:∀b∈bs,b.toNat<128) (hok:vo (TH2 b tg pg) p T ((bs.take m).drop l)) {lo hi:Option Int} (hlo:lo=none/\l=0\/lo=some (l:Int)) (hhi:hi=none/\m=bs.length\/hi=some (m:Int)) {K:Ub}
  (hK:∀T' X' w',MX w' b tg pg (Yd p ((bs.take m).drop l)) T' X' b' tg' pg' p' U Y q bs->Xu (TH2 b tg pg) p T ((bs.take m).drop l) T'->Below b w w'->K w'):slK q lo hi 1 λt=>jQ (some ⟨tg,0,none⟩) t w K:=by
 refine h.r.slK (l:=l) (m:=m) rfl hlo hhi hlm hm λhx=>?_;have bl:∀a,cut q.a l q.c qo.k=some a->¬X a.block/\¬Y a.block/\a.block<w.heap.size:=λa ha=>by
  obtain ⟨c,hc,e⟩:=cut_block ha;rw [e];exact h.n c hc
 refine h.t.feed hx (by rw [List.length_drop,List.length_take];omega) (λc hc=>hb c (List.mem_of_mem_take (List.mem_of_mem_drop hc))) (λa ha=>⟨(bl a ha).1,(bl a ha).2.2⟩) hok λT' X' w' ht hs hc ho=>hK T' X' w' ⟨ht,h.u.keep hc (λk hy hx=>h.d k hx hy) h.t.far ht.tab,λk hx hy=>?_,h.r.chg hc λa ha=>(h.n a ha).1,λa ha=>⟨λhx=>?_,(h.n a ha).2.1,by have:=(h.n a ha).2.2;have:=hc.size;omega⟩⟩ hs ?_
 ·rcases ho k hx with h1 | h1
  ·exact h.d k h1 hy
  ·have:=(h.u.lt k hy).2;omega
 ·rcases ho _ hx with h1 | h1
  ·exact (h.n a ha).1 h1
  ·have:=(h.n a ha).2.2;omega
 ·have hb0:b<=w.heap.size:=by obtain ⟨F,hm,_⟩:=h.t.tm;exact hm.base_le
  exact hc.below hb0 λk hk hx=>by have:=(h.t.lt k hx).1;omega
end
theorem zbx:(List.range 64).all (λi=>decide ((qrw (1+i/8) (1+i%8)).length<=1000) && (qrw (1+i/8) (1+i%8)).all λb=>decide (b.toNat<128))=true:=by kernel_rfl
theorem zev {i:Nat} (hi:i<64):(qrw (1+i/8) (1+i%8)).length<=1000/\∀b∈qrw (1+i/8) (1+i%8),b.toNat<128:=by
 have h:=List.all_eq_true.1 zbx i (List.mem_range.2 hi);simp only [Bool.and_eq_true,decide_eq_true_eq,List.all_eq_true] at h;exact h
theorem zdo {i:Nat} (hi:i<64):(ps0.eachB (qrw (1+i/8) (1+i%8))).2=q40 (1+i/8) (1+i%8):=by
 have h:=congrArg (λl=>l[i]?) znc;simpa [hi] using h
theorem zfa {b tg pg i:Nat} (hi:i<64):vo (TH2 b tg pg) ps0 (yj c9) (qrw (1+i/8) (1+i%8)):=by
 refine ((qdh (qr9 b tg pg) _ (le_refl _)).2.1 _).1 ?_;rw [zdo hi];exact zk3 hi
theorem zhs {b tg pg i:Nat} (hi:i<64) {T:TS} (h:Xu (TH2 b tg pg) ps0 (yj c9) (qrw (1+i/8) (1+i%8)) T):MixE T i:=by
 have h:=((qdh (qr9 b tg pg) _ (le_refl _)).1 _ _).2 h;rw [zdo hi] at h;obtain ⟨f,rfl⟩:=zhg h;exact zlt hi
theorem zf3 {w:World} {wx hx cut:Int} (hT:Tab w) {K:Bool->Ub} (hK:∀w',Uc w w'->K true w'):Qc wx hx cut w K:=by
 have h4:4<=w.heap.size:=zj0 (g:=3) (by kernel_rfl) hT;refine qdv _ _ _ ?_;refine zcd hT h4 λw1 hB1=>cF rfl ?_;refine qow (by decide) λa ha=>qow (by decide) λc hc=>?_;have hT1:Tab w1:=hT.ext hB1;have z1:=hB1.size;refine qr0 (by unfold okC;decide) rfl hT1 (by omega) λF PF w2 M2 hB2=>?_;have z2:=hB2.size;refine qr0 (by unfold okC;decide) rfl (hT1.ext hB2) (by omega) λG PG' w3 M3 hB3=>?_;refine jpO λJ1 hJ1=>cF rfl (cF rfl (hJ1 _ _ ?_));have S2:Sd w3 w1.heap.size F.tg F.pg ps0 (yj c9) (λk=>yl PF k\/YY F (yj c9) k):=⟨F,PF,M2.two.ext hB3,rfl,rfl,rfl⟩;have S3:Sd w3 w2.heap.size G.tg G.pg ps0 (yj c9) (λk=>yl PG' k\/YY G (yj c9) k):=⟨G,PG',M3.two,rfl,rfl,rfl⟩;have D:∀k,(yl PF k\/YY F (yj c9) k)->¬(yl PG' k\/YY G (yj c9) k):=λk h1 h2=>by
  have:=(M2.two.lt h1).2;have:=(M3.two.lt h2).1;omega
 have B3:=bT (bT hB1 hB2) hB3;obtain ⟨i,hi,ea,ec⟩:∃i,i<64/\a=i/8/\c=i%8:=⟨8*a+c,by omega,by omega,by omega⟩;subst ea ec;have ew:i64.wrap (1+((i/8:Nat):Int))=((1+i/8:Nat):Int):=by rw [qM (by omega)];simp
 have eh:i64.wrap (1+((i%8:Nat):Int))=((1+i%8:Nat):Int):=by rw [qM (by omega)];simp
 rw [ew,eh];have hm2:(1+i/8)*(1+i%8)<=8*8:=Nat.mul_le_mul (by omega) (by omega);have em:i64.wrap (((1+i/8:Nat):Int)*((1+i%8:Nat):Int))=(((1+i/8)*(1+i%8):Nat):Int):=by rw [<-Int.natCast_mul,qM (by omega)]
 rw [em];refine q5b (bs:=[27,91,63,50,53,108]) rfl rfl (by decide) λq4 w4 r4 hB4=>?_;refine q5b (bs:=[65,81,73,68]) rfl rfl (by decide) λq5 w5 r5 hB5=>?_;refine qs4 (hb:=[97,61,84,44,102,61,50,52,44,115,61,50,44,118,61,49,44,105,61,53,44,109,61,49,44,67,61,49]) r5.rd (by decide) λq6 w6 r6 hB6=>?_;have B46:=bT hB5 hB6;have z4:=hB4.size;have z46:=B46.size;have bel:∀{w1 w2:World} {s:Slc} {zs:List UInt8},Row w1 w3.heap.size s zs->w3.heap.size<=w1.heap.size->Chg (λk=>s.blk=some k) w1 w2->Below w3.heap.size w1 w2:=λh hb hc=>hc.below hb λi hi e=>by have:=(h.lt i e).1;omega
 refine (r4.ext B46).apK r6 (by omega) (by decide) λq7 w7 r7 c7=>?_;have B7:Uc w3 w7:=(hB4.trans (B46.mono z4)).trans (bel (r4.ext B46) (by omega) c7);have z7:=B7.size;refine qyc (E:=qo) qN (x0:=(0:UInt8)) rfl (n:=(1+i/8)*(1+i%8)) rfl rfl (by rw [jV];omega) (by unfold maxLen;omega) λw8 o8 hB8=>?_;have z8:=hB8.size;refine zjh (by omega) (by omega) o8.rd (le_refl _) (λa ha=>by have:=(o8.lt a.block (slk.2 ⟨a,ha,rfl⟩)).2;exact this) λq9 w9 r9 hB9=>?_;have B79:=bT hB8 hB9;have z9:=hB9.size;have hpl:=zev hi;have hlen:(qrw (1+i/8) (1+i%8)).length=([27,91,63,50,53,108]++zav [97,61,84,44,102,61,50,52,44,115,61,50,44,118,61,49,44,105,61,53,44,109,61,49,44,67,61,49] [65,81,73,68]).length+([27,80,48,59,49,113]++zcs (1+i/8) (1+i%8)++[27,92]).length+(zav [109,61,48] [66,65,85,71]).length:=by
  simp [qrw,zav,cm1,cm2];omega
 refine (r7.ext B79).apK r9.rd (by omega) (by omega) λqa wa ra ca=>?_;have Ba:Uc w3 wa:=(B7.trans (B79.mono z7)).trans (bel (r7.ext B79) (by omega) ca);have za:=Ba.size;refine q5b (bs:=[66,65,85,71]) rfl rfl (by decide) λqb wb rb hBb=>?_;refine qs4 (hb:=[109,61,48]) rb.rd (by decide) λqc wc rc hBc=>?_;have Bac:=bT hBb hBc;have zc:=Bac.size;refine (ra.ext Bac).apK rc (by omega) (by rw [length_append];omega) λq wd rd cd=>?_;have Bd:Uc w3 wd:=(Ba.trans (Bac.mono za)).trans (bel (ra.ext Bac) (by omega) cd);have zd:=Bd.size;have eb:([27,91,63,50,53,108]++zav [97,61,84,44,102,61,50,52,44,115,61,50,44,118,61,49,44,105,61,53,44,109,61,49,44,67,61,49] [65,81,73,68])++([27,80,48,59,49,113]++zcs (1+i/8) (1+i%8)++[27,92])++zav [109,61,48] [66,65,85,71]=qrw (1+i/8) (1+i%8):=by
  simp [qrw,zav,cm1,cm2]
 rw [eb] at rd;clear hlen eb rc ra r9 o8 r7 r6 r5 r4 rb;have qn:=rd.rd.n;have hpos:0<(qrw (1+i/8) (1+i%8)).length:=by simp [qrw]
 have hst:=λ(b tg pg:Nat)=>zfa (b:=b) (tg:=tg) (pg:=pg) hi;have hdn:=λ(b tg pg:Nat) (T:TS)=>zhs (b:=b) (tg:=tg) (pg:=pg) (T:=T) hi;generalize hbs:qrw (1+i/8) (1+i%8)=bs at *;have M:MX wd w1.heap.size F.tg F.pg ps0 (yj c9) (λk=>yl PF k\/YY F (yj c9) k) w2.heap.size G.tg G.pg ps0 (yj c9) (λk=>yl PG' k\/YY G (yj c9) k) q bs:=by
  refine ⟨S2.ext Bd,S3.ext Bd,D,rd.rd,λx hx=>?_⟩;have hlx:=rd.lt x.block (slk.2 ⟨x,hx,rfl⟩);exact ⟨λh=>by have:=(S2.lt _ h).2;omega,λh=>by have:=(S3.lt _ h).2;omega,hlx.2⟩
 generalize hX:(λk=>yl PF k\/YY F (yj c9) k)=X at *;generalize hY:(λk=>yl PG' k\/YY G (yj c9) k)=Y at *;have Bw:Uc w wd:=bT B3 Bd;refine qow (by rw [qn];omega) λk hk=>?_;have hkl:k<bs.length:=by omega
 have okW:=hst w1.heap.size F.tg F.pg;rw [<-take_append_drop k bs] at okW;obtain ⟨ok1,ok2⟩:=okW.append;refine M.feed (l:=0) (m:=k) (zero_le _) (by omega) hpl.1 hpl.2 (by rw [List.drop_zero];exact ok1) (.inl ⟨rfl,rfl⟩) (.inr rfl) λT1 X1 we M1 s1 hBe=>?_;rw [List.drop_zero] at M1 s1;have et:(bs.take bs.length).drop k=bs.drop k:=by rw [List.take_length]
 refine M1.feed (l:=k) (m:=bs.length) (by omega) (le_refl _) hpl.1 hpl.2 (by rw [et];exact ok2 _ s1) (.inr rfl) (.inl ⟨rfl,rfl⟩) λT2 X2 wf M2 s2 hBf=>?_;rw [et] at M2 s2;have sT:=s1.append s2;rw [take_append_drop] at sT;have eT:=hdn _ _ _ _ sT;rw [<-qby,take_append_drop] at M2;have Bf:Uc w wf:=(Bw.trans (hBe.mono (by omega))).trans (hBf.mono (by omega));clear s1 s2 sT ok1 ok2 okW M M1 et;refine lpR (λ(st:Int×Unit) wg=>∃(j:Nat) (U:TS) (Z:Nat->Prop),st.1=(j:Int)/\j<=bs.length/\MX wg w1.heap.size F.tg F.pg (Yd ps0 bs) T2 X2 w2.heap.size G.tg G.pg (Yd ps0 (bs.take j)) U Z q bs/\Xu (TH2 w2.heap.size G.tg G.pg) ps0 (yj c9) (bs.take j) U/\Uc w wg) (λst=>bs.length-st.1.toNat) ⟨0,_,_,rfl,zero_le _,M2,rfl,Bf⟩ ?_;rintro ⟨j0,u⟩ wg ⟨j,U,Z,hj,hjl,Mg,sU,Bg⟩ I hI;dsimp only at hj ⊢;subst hj;by_cases e:j<bs.length
 ·refine cT (dTq (by rw [qn];omega)) ?_;have ej:i64.wrap ((j:Int)+1)=((j+1:Nat):Int):=by rw [qM (by omega)];simp
  rw [ej];have okW:=hst w2.heap.size G.tg G.pg;rw [<-take_append_drop (j+1) bs] at okW;have okW:=okW.append.1;have ep:bs.take j++(bs.take (j+1)).drop j=bs.take (j+1):=by
   have:=take_append_drop j (bs.take (j+1));rw [List.take_take,Nat.min_eq_left (by omega)] at this;exact this
  rw [<-ep] at okW;refine Mg.symm.feed (l:=j) (m:=j+1) (by omega) (by omega) hpl.1 hpl.2 (okW.append.2 _ sU) (.inr rfl) (.inr rfl) λU' Z' wh Mh sU' hBh=>?_;rw [<-qby,ep] at Mh;have sU2:=sU.append sU';rw [ep] at sU2;exact hI _ _ ⟨j+1,U',Z',rfl,e,Mh.symm,sU2,Bg.trans (hBh.mono (by omega))⟩ (by dsimp only;omega)
 refine cF (dFq (by rw [qn];omega)) ?_;obtain rfl:j=bs.length:=by omega
 rw [List.take_length] at sU Mg;have eU:=hdn _ _ _ _ sU;clear hI I M2 Bf;obtain ⟨F',mt,e1⟩:=Mg.t.tm;obtain ⟨G',mu,e2⟩:=Mg.u.tm;rw [<-e1,<-e2];obtain ⟨ia,ib,el,a1,a2,a3,b1,b2,b3,_,_⟩:=eT.two;refine Jp mt λg r wh hs hBh=>q0w hs mt.en.ok 5 λP wi hP hBi=>jS rfl λwj hj hBj hsj=>?_;have Bj:=bT (bT hBh hBi) hBj;have hlk:zy T2.E.S.L 5=some ia:=by rw [el];rfl
 rw [hlk];have hbo:q06 T2.E.S.L 5=[1,2,3,255,4,5,6,255]:=by unfold q06;rw [hlk];exact a3
 rw [hbo] at hP;refine cT rfl (lSl (x:=P) (hj.cells 2 _ rfl) (kw (hP.ext hBj).rd (cT (by rw [kN];kernel_rfl) ?_)));refine Jp (mt.ext Bj) λg2 r2 wk hs2 hBk=>qto hs2 mt.en.ok (by have:=eT.n;omega) λp wl hp hBl=>cT (by rw [hp.rd.n,el];rfl) ?_;have Bl:=bT (bT Bj hBk) hBl;refine znp (mt.ext Bl) (mu.ext Bl) eT.n eU.n (by rw [eT.old];exact zero_le _) (by rw [eT.pl];show 2<=100000;decide) (eT.twin eU) (λwx Kx hB=>zc6 hi ((mt.ext Bl).ext hB) eT) (λwx Kx hB=>zc6 hi ((mu.ext Bl).ext hB) eU) λwm hBm=>cT rfl ?_;have Bm:=bT Bl hBm;refine qnv (mt.ext Bm) λqr Fn wn hqr tn=>kw hqr ?_;have hr:((qX T2.rep).toList==(⟨#[27,95,71,105,61,53,59,79,75,27,92]⟩:ByteArray).toList)=true:=by
  rw [kN,eT.rep];kernel_rfl
 rw [hr];exact hK wn ((Bg.trans (Bm.mono (by have:=Bg.size;omega))).trans (((mt.ext Bm).belowB tn).mono (by omega)))
end Go.Proofs.YtjhgepnpnapnoaaGreatDoor
