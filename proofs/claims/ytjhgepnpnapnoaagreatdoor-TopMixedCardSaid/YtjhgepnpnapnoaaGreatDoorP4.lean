import Derived.Test.YtjhgepnpnapnoaaGreatDoorP3
import Derived.Test.YtjhgepnpnapnoaaGreatDoorP1
import Derived.Lib.SlBytesConst
set_option linter.unusedVariables false
open Go.IntKind (i64)
namespace Go.Proofs.YtjhgepnpnapnoaaGreatDoor
open Go.Vc Go.RowKit
set_option maxRecDepth 400000
open Builtin (copy_)
open _root_.Int (toNat_natCast)
open IntKind (u32)
open Lib (indexByte)
open _root_.List (append_assoc length_append length_cons length_drop length_nil length_singleton length_take take_add_one take_length)
open _root_.Nat (le_of_lt le_refl le_trans mul_assoc mul_le_mul mul_one zero_le)
open _root_.Option (getD_some)
def q58:List UInt8:=[65,66,67,68,69,70,71,72,73,74,75,76,77,78,79,80,81,82,83,84,85,86,87,88,89,90,97,98,99,100,101,102,103,104,105,106,107,108,109,110,111,112,113,114,115,116,117,118,119,120,121,122,48,49,50,51,52,53,54,55,56,57,43,47]
def zga (c:UInt8):Option Nat :=
 if 65<=c.toNat/\c.toNat<=90 then some (c.toNat-65) else if 97<=c.toNat/\c.toNat<=122 then some (c.toNat-97+26) else if 48<=c.toNat/\c.toNat<=57 then some (c.toNat-48+52) else if c.toNat=43 then some 62 else if c.toNat=47 then some 63 else none
theorem zds {c:UInt8} {v:Nat} (h:zga c=some v):v<64:=by
 unfold zga at h
 repeat' split at h
 all_goals (first | (cases h;omega) | cases h)
def zf7 (c:UInt8):Int:=match zga c with | some v=>(v:Int) | none=>-1
theorem zem {P:UInt8->Prop} (h:∀n,n<256->P (UInt8.ofNat n)) (c:UInt8):P c:=by
 have:=h c.toNat c.toNat_lt
 rwa [UInt8.ofNat_toNat] at this
theorem zh7 (c:UInt8):indexByte q58 c=zf7 c:=by
 have h:∀n,n<256->indexByte q58 (UInt8.ofNat n)=zf7 (UInt8.ofNat n):=by decide +kernel
 exact zem (P:=λc=>indexByte q58 c=zf7 c) h c
structure B64 where
 w:List Nat
 f:Nat
 last:Bool
 bad:Bool
def zd5:B64:=⟨[],0,false,false⟩
def zbe:B64:=⟨[],0,false,true⟩
def qfk (w:List Nat):Nat:=w.foldl (λa x=>64*a+x) 0
def be3 (v:Nat):List UInt8:=[UInt8.ofNat (v/2^16),UInt8.ofNat (v/2^8),UInt8.ofNat v]
def q1u (w:List Nat):List UInt8:=(be3 (qfk w*2^(6*(4-w.length)))).take (w.length*6/8)
def qms (w:List Nat):Bool:=decide (qfk w%2^(w.length*6%8)=0)
def Zk (s:B64):List UInt8×B64:=if s.w.length+s.f<4 then ([],s) else (q1u s.w,⟨[],0,decide (0<s.f),false⟩)
def qb7 (s:B64) (c:UInt8):Option (List UInt8×B64) :=
 if s.last then none
 else if c.toNat=61 then (if s.w.length+s.f<2\/qms s.w=false then none else some (Zk { s with f:=s.f+1 }))
 else match zga c with
  | none=>none
  | some v=>if 0<s.f then none else some (Zk { s with w:=s.w++[v] })
def yQ (s:B64) (c:UInt8):Nat×List UInt8×B64 :=
 if s.bad then (3,[],zbe) else match qb7 s c with
  | none=>(3,[],zbe)
  | some (o,s')=>(0,o,s')
def qdj (s:B64):Nat×List UInt8×B64 :=
 if s.bad\/s.w.length+s.f=1\/0<s.f\/qms s.w=false then (3,[],zbe) else (0,q1u s.w,zd5)
structure B64Ok (s:B64):Prop where
 n:s.w.length+s.f<4
 v:∀x∈s.w,x<64
 two:0<s.f->2<=s.w.length
theorem zer (w:List Nat) (x:Nat):qfk (w++[x])=64*qfk w+x:=by simp [qfk]
theorem zcx:∀(w:List Nat) (a n:Nat),a<64^n->(∀x∈w,x<64)->w.foldl (λa x=>64*a+x) a<64^(n+w.length)
 | [],a,n,h,_=>by simpa using h
 | x::w,a,n,h,hw=>by
  have c:=hw x (by simp);have:=zcx w (64*a+x) (n+1) (by rw [Nat.pow_succ];omega) λy b=>hw y (by simp [b]);rw [length_cons,show n+(w.length+1)=n+1+w.length by omega];exact this
theorem qx6 (w:List Nat) (h:∀x∈w,x<64):qfk w<64^w.length:=by
 have:=zcx w 0 0 (by decide) h
 rwa [Nat.zero_add] at this
theorem q5c:B64Ok zbe:=⟨by decide,by simp [zbe],by simp [zbe]⟩
theorem zdi:B64Ok zd5:=⟨by decide,by simp [zd5],by simp [zd5]⟩
theorem q2z {s:B64} (h1:s.w.length+s.f<=4) (h2:∀x∈s.w,x<64) (h3:0<s.f->2<=s.w.length):B64Ok (Zk s).2:=by
 unfold Zk;split
 ·exact ⟨by assumption,h2,h3⟩
 ·exact ⟨by simp,by simp,by simp⟩
theorem zgg {s:B64} (h:B64Ok s) (c:UInt8):B64Ok (yQ s c).2.2:=by
 unfold yQ;split
 ·exact q5c
 ·cases hp:qb7 s c with
  | none=>exact q5c
  | some r =>
   obtain ⟨o,b⟩:=r;unfold qb7 at hp;split at hp
   ·cases hp
   ·split at hp
    ·split at hp
     ·cases hp
     ·have:=Option.some.inj hp;have e:b=(Zk { s with f:=s.f+1 }).2:=by rw [this]
      rw [e];refine q2z (by have:=h.n;show s.w.length+(s.f+1)<=4;omega) h.v λ_=>?_;show 2<=s.w.length;by_cases d:0<s.f
      ·exact h.two d
      ·omega
    ·cases hv:zga c with
     | none=>rw [hv] at hp;cases hp
     | some v =>
      rw [hv] at hp;dsimp only at hp;split at hp
      ·cases hp
      ·rename_i d;have:=Option.some.inj hp;have e:b=(Zk { s with w:=s.w++[v] }).2:=by rw [this]
       rw [e];refine q2z (by have:=h.n;show (s.w++[v]).length+s.f<=4;rw [length_append,length_singleton];omega) (λx a=>?_) λg=>absurd g d;rcases List.mem_append.1 a with a | a
       ·exact h.v x a
       ·rw [List.mem_singleton] at a;subst a;exact zds hv
theorem zg9 (w:List Nat) (h:w.length<=4):(q1u w).length=w.length*6/8:=by
 unfold q1u;rw [length_take];show min _ 3=_;omega
def zb9 (s:B64):List Value:=[.int .u32 (qfk s.w:Int),.int .i64 ((s.w.length+s.f:Nat):Int),.int .i64 (s.f:Int),.bool s.last,.bool s.bad]
def Xx (w:World) (g:Nat) (s:B64):Prop:=Blk w g Q6 (zb9 s)
section
variable {w:World} {g:Nat} {s:B64}
theorem qyv {bs:List UInt8} {c:UInt8} {i:Int} (hi:i=c.toNat) {K:Int->Ub} (hK:K (indexByte bs c) w):k6 (qX bs) i w K:=by
 subst hi;refine Calls.mono (Tryz.strings_IndexByte (qX bs) c.toNat w) ?_;rintro e a ⟨rfl,rfl⟩;refine ⟨_,rfl,?_⟩;rw [show ((c.toNat:Int)).toNat.toUInt8=c by simp];exact hK
theorem q7m {n:Nat} (h:n<=4):64^n<=16777216:=le_trans (Nat.pow_le_pow_right (by decide) h) (by decide)
theorem qw6 (h:Xx w g s) (hn:s.w.length+s.f<=4) (hv:∀x∈s.w,x<64) {K:Slc->Ub} (hK:∀t w',Rd qo w' t (q1u s.w)->(∀k,t.blk=some k->w.heap.size<=k)->Xx w' g s->Uc w w'->K t w'):kH (some ⟨g,0,none⟩) w K:=by
 refine qd1 _ ?_;have i:Xx w.drew g s:=h.ext (bdw w);have d:=i.ext (bdw _);refine lI (i.cells 0 _ rfl) (lI (i.cells 1 _ rfl) (lI (i.cells 2 _ rfl) ?_));have z:i64.wrap ((6:Int)*(i64.wrap ((i64.wrap ((4:Int)-((s.w.length+s.f:Nat):Int)))+(s.f:Int))))=((6*(4-s.w.length):Nat):Int):=by
  rw [qM (x:=(4:Int)-((s.w.length+s.f:Nat):Int)) (by omega),qM (x:=(4:Int)-((s.w.length+s.f:Nat):Int)+(s.f:Int)) (by omega),qM (by omega)];omega
 rw [z];refine ⟨by omega,by decide,by decide,?_⟩;refine lI (d.cells 1 _ rfl) (lI (d.cells 2 _ rfl) ⟨by decide,?_⟩);have A:qfk s.w*2^(6*(4-s.w.length))<2^24:=by
  have j:=qx6 s.w hv;have e:(64:Nat)^s.w.length=2^(6*s.w.length):=by rw [Nat.pow_mul]
  rw [e] at j;have r:qfk s.w*2^(6*(4-s.w.length))<2^(6*s.w.length)*2^(6*(4-s.w.length)):=Nat.mul_lt_mul_of_pos_right j (Nat.pow_pos (by decide));rw [<-Nat.pow_add,show 6*s.w.length+6*(4-s.w.length)=24 by omega] at r;exact r
 have ev:u32.wrap ((qfk s.w:Int)*2^(min ((6*(4-s.w.length):Nat):Int).toNat u32.bits))=((qfk s.w*2^(6*(4-s.w.length)):Nat):Int):=by
  rw [toNat_natCast,show min (6*(4-s.w.length)) u32.bits=6*(4-s.w.length) by show min _ 32=_;omega,qop];exact xN .u32 (show _<2^32 by omega)
 rw [ev];obtain ⟨V,u⟩:∃V,V=qfk s.w*2^(6*(4-s.w.length)):=⟨_,rfl⟩;rw [<-u,q6b,q6b,q0g,q0g,q0g];refine nwb λo j p B=>?_;have b:=bT (bT (bdw w) (bdw _)) p;have c:Xx o g s:=h.ext b;refine ⟨c.cells 2 _ rfl,c.cells 1 _ rfl,?_⟩;have C:i64.wrap ((i64.wrap ((i64.wrap (((s.w.length+s.f:Nat):Int)-(s.f:Int)))*(6:Int))).tdiv (8:Int))=((s.w.length*6/8:Nat):Int):=by
  rw [qM (x:=((s.w.length+s.f:Nat):Int)-(s.f:Int)) (by omega),show ((s.w.length+s.f:Nat):Int)-(s.f:Int)=(s.w.length:Int) by omega,qM (x:=(s.w.length:Int)*6) (by omega),show (s.w.length:Int)*6=((s.w.length*6:Nat):Int) by simp,show (8:Int)=((8:Nat):Int) from rfl,<-Int.ofNat_tdiv,qM (by omega)]
 rw [C];have D:=Go.Vc.rd_lits (E:=qo) (ys:=be3 V) j (by show 3<=maxLen;simp [maxLen]) rfl;refine D.slK (l:=0) rfl (.inl ⟨rfl,rfl⟩) (.inr rfl) (by omega) (by show _<=3;omega) λv=>?_;rw [u] at v;refine hK _ o v (λk F=>?_) c b;obtain ⟨a,G,rfl⟩:=slk.1 F;obtain ⟨H,q,e⟩:=Go.Vc.cut_block (show cut (some ⟨w.drew.drew.heap.size,0,none⟩) 0 3 1=some a from G);cases q;rw [e];exact le_refl _
theorem qwv (h:Xx w g s) (hn:s.w.length+s.f<=4) (hv:∀x∈s.w,x<64) {K:Bool->Ub} (hK:K (qms s.w) w.drew):kJ (some ⟨g,0,none⟩) w K:=by
 refine qdx _ ?_;have c:=Nat.lt_of_lt_of_le (qx6 s.w hv) (q7m (by omega));have a:=h.ext (bdw w);refine lI (a.cells 0 _ rfl) (lI (a.cells 1 _ rfl) (lI (a.cells 2 _ rfl) ⟨by decide,?_⟩));have d:((i64.wrap ((i64.wrap (((s.w.length+s.f:Nat):Int)-(s.f:Int)))*(6:Int))).tmod (8:Int))=((s.w.length*6%8:Nat):Int):=by
  rw [qM (x:=((s.w.length+s.f:Nat):Int)-(s.f:Int)) (by omega),show ((s.w.length+s.f:Nat):Int)-(s.f:Int)=(s.w.length:Int) by omega,qM (by omega),show (s.w.length:Int)*6=((s.w.length*6:Nat):Int) by simp,show (8:Int)=((8:Nat):Int) from rfl,<-Int.ofNat_tmod]
 rw [d];refine ⟨by omega,?_⟩;have e:2^(s.w.length*6%8)<=2^8:=Nat.pow_le_pow_right (by decide) (by omega);have b:0<2^(s.w.length*6%8):=Nat.pow_pos (by decide);have i:u32.wrap ((u32.wrap ((1:Int)*2^(min ((s.w.length*6%8:Nat):Int).toNat u32.bits)))-(1:Int))=((2^(s.w.length*6%8)-1:Nat):Int):=by
  rw [toNat_natCast,show min (s.w.length*6%8) u32.bits=s.w.length*6%8 by show min _ 32=_;omega,show (1:Int)=((1:Nat):Int) from rfl,qop,Nat.one_mul];generalize 2^(s.w.length*6%8)=q at e b ⊢;rw [xN .u32 (show q<2^32 by omega),show (q:Int)-((1:Nat):Int)=((q-1:Nat):Int) by omega];exact xN .u32 (show q-1<2^32 by omega)
 rw [i,zix .u32 (show _<2^32 by omega) (show _<2^32 by omega),Nat.and_two_pow_sub_one_eq_mod];have:((((qfk s.w%2^(s.w.length*6%8):Nat):Int))==(0:Int))=qms s.w:=by
  unfold qms;generalize qfk s.w%2^(s.w.length*6%8)=q;rw [Bool.eq_iff_iff];simp
 rw [this];exact hK
theorem zfu {c:UInt8} (h:Xx w g s) (hs:B64Ok s) (hb:s.bad=false) {K:Slc->Bool->Ub} (hN:qb7 s c=none->∀w',Uc w w'->K ⟨none,0,0⟩ false w')
  (hY:∀o s' t w',qb7 s c=some (o,s')->Rd qo w' t o->(∀k,t.blk=some k->w.heap.size<=k)->Xx w' g s'->Chg (λk=>k=g) w w'->K t true w'):QE (some ⟨g,0,none⟩) (c.toNat:Int) w K:=by
 refine qhp _ _ ?_;simp only [onPtr_some];have hn:=hs.n;have X:=h.lt;refine qyv (bs:=q58) rfl ?_;rw [zh7];refine jpO λY N=>?_;have d:∀b B,b.w.length+b.f=s.w.length+s.f+1->b.last=false->b.bad=false->(∀x∈b.w,x<64)->Blk B g Q6 [.int .u32 (qfk b.w:Int),.int .i64 ((s.w.length+s.f:Nat):Int),.int .i64 (b.f:Int),.bool b.last,.bool b.bad]->Chg (λk=>k=g) w B->qb7 s c=some (Zk b)->Y () B:=by
  intro b B hl Z aa z C O U;refine N _ _ ?_;refine lI (C.cells 1 _ rfl) ?_;rw [qC,qM (by omega),show ((s.w.length+s.f:Nat):Int)+1=((b.w.length+b.f:Nat):Int) by omega];refine qD C (by simp) λq j l D=>?_;have m:Chg (λk=>k=g) B q:=Go.Vc.Chg.gg l;have r:Xx q g b:=j;refine lI (r.cells 1 _ rfl) ?_;have p:=O.trans m λi _ u=>u;refine cO (λe=>?_) λe=>?_
  ·have e:=oTq e;refine hY [] b ⟨none,0,0⟩ q ?_ (Rd.nil _ _) (λk P=>by cases P) r p;rw [U];unfold Zk;rw [if_pos (by omega)]
  ·have e:=oFq e;refine qw6 r (by omega) z λt w4 ht E F Q=>?_;refine lI (x:=(b.f:Int)) (F.cells 2 _ rfl) ?_;refine xR F rfl λw5 G H ab=>?_;have V:=p.size;refine hY (q1u b.w) ⟨[],0,decide (0<b.f),false⟩ t w5 ?_ (ht.chg H λa ha e=>?_) (λk P=>by have:=E k P;omega) ?_ ?_
   ·rw [U];unfold Zk;rw [if_neg (by omega)]
   ·have:=E a.block (slk.2 ⟨a,ha,rfl⟩);omega
   ·have:decide ((b.f:Int)>0)=decide (0<b.f):=by rw [decide_eq_decide];omega
    rw [this] at G;exact G
   ·exact (p.trans (Chg.of_ext (S:=λk=>k=g) Q) λi _ u=>u).trans H λi _ u=>u
 unfold qb7 at hN hY d;refine jw (x:=s.last) (h.cells 3 _ rfl) (cO (λe=>?_) λI=>?_)
 ·have e:s.last=true:=e;rw [if_pos e] at hN;exact hN rfl w (Below.refl _ _)
 have I:s.last=false:=I;rw [if_neg (by rw [I];decide)] at hN hY d;refine cO (λe=>?_) λM=>?_
 ·have e:c.toNat=61:=by have:=eq_of_beq e;omega
  rw [if_pos e] at hN hY d;refine jpO λJ2 R=>?_;refine lI (h.cells 1 _ rfl) (cO (λJ=>?_) λJ=>?_)
  ·have J:=oTq J;rw [if_pos (.inl (by omega))] at hN;exact hN rfl w (Below.refl _ _)
  have J:=oFq J;refine qwv h (by omega) hs.v (cO (λy=>?_) λy=>?_)
  ·have y:qms s.w=false:=by simpa using y
   rw [if_pos (.inr y)] at hN;exact hN rfl _ (bdw w)
  have y:qms s.w=true:=by simpa using y
  rw [if_neg (by rw [y];simp;omega)] at d;refine R _ _ ?_;have W:Xx w.drew g s:=h.ext (bdw w);refine lI (x:=(s.f:Int)) (W.cells 2 _ rfl) ?_;rw [qC,qM (by omega)];refine qD W (by simp [zb9]) λq j l D=>?_;have m:Chg (λk=>k=g) w.drew q:=Go.Vc.Chg.gg l;refine d { s with f:=s.f+1 } q (by dsimp only;omega) I hb hs.v j ((Chg.of_ext (S:=λk=>k=g) (bdw w)).trans m λi _ u=>u) rfl
 ·have M:c.toNat≠61:=λh=>by rw [h] at M;cases M
  rw [if_neg M] at hN hY d;refine jpO λJ3 L=>?_;unfold zf7;cases z:zga c with
  | none =>
   rw [z] at hN;refine cT (by decide) (L _ _ (cT rfl ?_));exact hN rfl w (Below.refl _ _)
  | some v =>
   rw [z] at hN hY d;dsimp only at hN hY d ⊢;have T:=zds z;refine cF (dFq (by omega)) (lI (x:=(s.f:Int)) (h.cells 2 _ rfl) (L _ _ ?_));refine cO (λe=>?_) λe=>?_
   ·have e:=oTq e;rw [if_pos (by omega)] at hN;exact hN rfl w (Below.refl _ _)
   ·have e:=oFq e;rw [if_neg (by omega)] at d;have ac:=Nat.lt_of_lt_of_le (qx6 s.w hs.v) (le_trans (Nat.pow_le_pow_right (show 0<64 by decide) (show s.w.length<=3 by omega)) (show (64:Nat)^3<=262144 by decide));refine lI (x:=(qfk s.w:Int)) (h.cells 0 _ rfl) ⟨by decide,?_⟩;have ev:jN .or .u32 (u32.wrap ((qfk s.w:Int)*2^(min (6:Int).toNat u32.bits))) (u32.wrap (v:Int))=((qfk (s.w++[v]):Nat):Int):=by
     rw [show min ((6:Int)).toNat u32.bits=6 by decide,qop,xN .u32 (x:=qfk s.w*2^6) (by show _<2^32;omega),xN .u32 (x:=v) (by show _<2^32;omega),zc5 .u32 (by show _<2^32;omega) (by show _<2^32;omega),zer];congr 1;rw [Nat.or_comm,Nat.mul_comm,zn4 (by omega)];omega
    rw [show zf7 c=(v:Int) by unfold zf7;rw [z],ev,qC];refine qD h (by simp [zb9]) λq j l D=>?_;have m:Chg (λk=>k=g) w q:=Go.Vc.Chg.gg l;refine d { s with w:=s.w++[v] } q (by dsimp only;rw [length_append,length_singleton];omega) I hb (λx A=>?_) j m rfl;rcases List.mem_append.1 A with A | A
    ·exact hs.v x A
    ·rw [List.mem_singleton] at A;subst A;exact T
theorem zfn {c:UInt8} (h:Xx w g s) (hs:B64Ok s) {K:Slc->Int->Ub}
  (hK:∀t w',Rd qo w' t (yQ s c).2.1->(∀k,t.blk=some k->w.heap.size<=k)->Xx w' g (yQ s c).2.2->Chg (λk=>k=g) w w'->K t ((yQ s c).1:Nat) w'):QU (some ⟨g,0,none⟩) (c.toNat:Int) w K:=by
 refine qie _ _ ?_;refine jpO λp j=>?_;unfold yQ at hK;have d:(yQ s c=(3,[],zbe))->∀a,Xx a g s->Chg (λk=>k=g) w a->p () a:=by
  intro b a q l;unfold yQ at b;rw [b] at hK;refine j _ _ (xR q rfl λr u m v=>?_);exact hK ⟨none,0,0⟩ r (Rd.nil _ _) (λk y=>by cases y) u (l.trans m λi _ z=>z)
 refine jw (h.cells 4 _ rfl) (cO (λe=>?_) λe=>?_)
 ·have e:s.bad=false:=by simpa using e
  rw [if_neg (by rw [e];decide)] at hK;refine zfu h hs e (λb a f=>cF rfl (d ?_ a (h.ext f) (Chg.of_ext f))) (λo D t a b A n B C=>cT rfl ?_)
  ·unfold yQ;rw [if_neg (by rw [e];decide),b]
  ·rw [b] at hK;exact hK t a A n B C
 ·have e:s.bad=true:=by simpa using e
  refine d ?_ w h (Chg.refl _ _);unfold yQ;rw [if_pos e]
theorem zes (h:Xx w g s) (hs:B64Ok s) {K:Slc->Int->Ub}
  (hK:∀t w',Rd qo w' t (qdj s).2.1->(∀k,t.blk=some k->w.heap.size<=k)->Xx w' g (qdj s).2.2->Chg (λk=>k=g) w w'->K t ((qdj s).1:Nat) w'):Ze (some ⟨g,0,none⟩) w K:=by
 refine qic _ ?_;have Q:=hs.n;have H:=h.lt;refine jpO λR r=>jpO λI u=>?_;unfold qdj at hK;have b:∀(y:Bool) p,(y=true↔s.bad=true\/s.w.length+s.f=1\/0<s.f\/qms s.w=false)->Xx p g s->Uc w p->I (y,()) p:=by
  intro y p j E c;refine u _ _ (cO (λe=>?_) λe=>?_)
  ·rw [if_pos (j.1 e)] at hK;refine xR E rfl λF z A J=>?_;exact hK ⟨none,0,0⟩ F (Rd.nil _ _) (λk B=>by cases B) z ((Chg.of_ext c).trans A λi _ l=>l)
  ·rw [if_neg λh=>by rw [j.2 h] at e;cases e] at hK;refine r _ _ (qw6 E (by omega) hs.v λt F L m z C=>?_);refine qd5 _ ?_;refine xR z rfl λw4 M o N=>?_;have O:=c.size;refine hK t w4 (L.chg o λa P e=>?_) (λk B=>by have:=m k B;omega) M (((Chg.of_ext c).trans (Chg.of_ext C) λi _ l=>l).trans o λi _ l=>l);have:=m a.block (slk.2 ⟨a,P,rfl⟩);omega
 have d:=Below.refl w.heap.size w;refine jw (h.cells 4 _ rfl) (cO (λe=>b _ w ?_ h d) λD=>?_)
 ·simp [e]
 refine lI (h.cells 1 _ rfl) (cO (λe=>b _ w ?_ h d) λq=>?_)
 ·have e:s.w.length+s.f=1:=by have:=eq_of_beq e;omega
  simp [e]
 have q:s.w.length+s.f≠1:=λh=>by rw [h] at q;cases q
 refine lI (h.cells 2 _ rfl) (cO (λe=>b _ w ?_ h d) λG=>?_)
 ·have e:=oTq e;exact iff_of_true rfl (.inr (.inr (.inl (by omega))))
 have G:=oFq G;refine qwv h (by omega) hs.v (b _ _ ?_ (h.ext (bdw w)) (bdw w));rw [D];constructor
 ·intro h;exact .inr (.inr (.inr (by simpa using h)))
 ·rintro (h | h | h | h)
  ·cases h
  ·exact absurd h q
  ·omega
  ·rw [h];rfl
end
def jT (l:List UInt8):List Value:=l.map λb=>Value.int .u8 (b.toNat:Int)
theorem qod (l:List UInt8):Qg qo l=jT l:=by
 unfold Qg jT
 induction l with
 | nil=>rfl
 | cons x r a=>rw [List.flatMap_cons,a];rfl
theorem Qm (l:List UInt8):(jT l).length=l.length:=by simp [jT]
theorem q8d (l:List UInt8):∀v∈jT l,q5o v=true:=by
 intro v a;obtain ⟨b,_,rfl⟩:=List.mem_map.1 a;rfl
theorem q9u {w:World} {a:Addr} {l:List UInt8} (h:∀(i:Nat) x,l[i]?=some x->w.cell? (a.add i)=some (.int .u8 (x.toNat:Int))):(loadCells a l.length).run PG w=.ok (jT l).toArray w:=by
 have:=run_loadCells_list (P:=PG) w a (jT l) (λj v c=>by
  unfold jT at c;rw [List.getElem?_map] at c;cases hb:l[j]? with
  | none=>rw [hb] at c;cases c
  | some b =>
   rw [hb] at c;cases c;exact h j b hb)
 rwa [Qm] at this
theorem q3v {w:World} {g o dn dc n:Nat} {t:TypeId} {cur:List Value} {x:Slc} {ys:List UInt8} {K:Int->Ub} (hb:Blk w g t cur) (hx:Rd qo w x ys) (hn:n=min ys.length dn) (hf:o+n<=cur.length)
  (hK:∀w',Blk w' g t (putL cur o (jT (ys.take n)))->Chg (λk=>k=g) w w'->w'.heap.size=w.heap.size->K (n:Int) w') :
  zO PG (copy_ #[qj,qj] zJ #[.slice (some ⟨g,o,none⟩) dn dc,.slice x.a x.n x.c]) (Kind.int .i64) w K:=by
 have d:(ys.take n).length=n:=by rw [length_take];omega
 have p:(storeCells ⟨g,o,none⟩ (jT (ys.take n)) 0).run PG w=.ok () (wr w ⟨g,o,none⟩ (jT (ys.take n))) :=
  qeq (jT (ys.take n)) 0 w (q8d _) (λj u=>by
   rw [Qm,d] at u;rw [Nat.zero_add,qC];refine ⟨⟨cur[o+j]'(by omega),hb.cell (o+j) (List.getElem?_eq_getElem (by omega))⟩,hb.frozen _⟩)
 refine ⟨(n:Int),wr w ⟨g,o,none⟩ (jT (ys.take n)),?_,hK _ (zjw hb) (Go.Vc.Chg.gg (q6c w ⟨g,o,none⟩ _)) (size_wr _ _ _)⟩;have s:PG.underlying qj=some (.slice qF):=by kernel_rfl
 have v:=qN.hi;have z:qN.i.size=1:=qN.hs;have e:PG.info? qF=some qN.i:=v;have f:=hx.n;have h:=hn.symm;cases ha:x.a with
 | none =>
  have m:=hx.none_nil ha;subst m;have q:n=0:=by rw [hn];simp
  subst q;simp [copy_,Builtin.lenOf,Builtin.firstCells,e,f,storeCells,wr,yd,jT,Kind.enc,goInt]
 | some a =>
  have b:=q9u (a:=a) (λi y m=>by
   have r:i<n:=by rw [<-d];exact (List.getElem?_eq_some_iff.1 m).1
   rw [List.getElem?_take_of_lt r] at m;have:=zac hx m;simp only [Slc.at_,ha,mul_one] at this;exact this)
  rw [d] at b;simp [copy_,Builtin.lenOf,Builtin.firstCells,typeInfo,e,z,f,h,b,p,Kind.enc,goInt]
theorem qki {w:World} {b g c:Nat} {xs:List UInt8} {s:Slc} (h:Go.Vc.Own qo w b s xs) (hs:s.a=some ⟨g,0,none⟩):∃cur,Blk w g qF cur/\cur.length=s.c/\cur.take xs.length=jT xs/\xs.length<=s.c/\s.c<=maxLen/\b<=g/\s.n=xs.length:=by
 rcases h.form with ⟨rfl,rfl⟩ | ⟨f,cur,e,i,j,k,l,m,o⟩
 ·cases hs
 ·rw [e] at hs;have d:=congrArg Addr.block (Option.some.inj hs);subst d;refine ⟨cur,j,by rw [m];exact mul_one _,?_,k,l,i,by rw [e]⟩;rw [<-qod,<-o];show _=cur.take (xs.length*1);rw [mul_one]
theorem qpa {w w':World} {b g:Nat} {xs ys:List UInt8} {s:Slc} {cur:List Value} {k:Nat} (h:Go.Vc.Own qo w b s xs) (hs:s.a=some ⟨g,0,none⟩) (hc:Blk w g qF cur) (hk:k+ys.length<=xs.length) (hw:Blk w' g qF (putL cur k (jT ys))) :
  Go.Vc.Own qo w' b s (xs.take k++ys++xs.drop (k+ys.length)):=by
 obtain ⟨d,o,p,t,u,q,v,r⟩:=qki (c:=0) h hs;have e:d=cur:=by
  unfold Blk at o hc;rw [o] at hc;injection hc with hc
  injection hc with hc _ _
  simpa using hc
 subst e;have f:(xs.take k++ys++xs.drop (k+ys.length)).length=xs.length:=by simp;omega
 obtain ⟨a,n,c⟩:=s;dsimp only at hs p u q r;subst hs r;have:=Go.Vc.Own.of_blk (E:=qo) (xs:=xs.take k++ys++xs.drop (k+ys.length)) v hw (by omega) q (by rw [vL,p];exact (mul_one _).symm) (by
  rw [qod,f];show (putL d k (jT ys)).take (xs.length*1)=_;rw [mul_one];refine List.ext_getElem? λm=>?_;by_cases hm:m<xs.length
  ·rw [List.getElem?_take_of_lt hm,Yp _ _ _ _ (by rw [Qm];omega),Qm];have j:d[m]?=(jT xs)[m]?:=by rw [<-t,List.getElem?_take_of_lt hm]
   have i:∀l:List UInt8,(jT l)[m]?=(l[m]?).map λb=>Value.int .u8 (b.toNat:Int):=λl=>by unfold jT;rw [List.getElem?_map]
   by_cases hin:k<=m/\m<k+ys.length
   ·rw [if_pos hin,i,append_assoc,List.getElem?_append_right (by rw [length_take];omega),length_take,Nat.min_eq_left (by omega),List.getElem?_append_left (by omega)];unfold jT;rw [List.getElem?_map]
   ·rw [if_neg hin,j,i,i];congr 1;by_cases hmk:m<k
    ·rw [append_assoc,List.getElem?_append_left (by rw [length_take];omega),List.getElem?_take_of_lt hmk]
    ·rw [append_assoc,List.getElem?_append_right (by rw [length_take];omega),length_take,List.getElem?_append_right (by omega),List.getElem?_drop];congr 1;omega
  ·rw [List.getElem?_eq_none (by rw [length_take];omega),List.getElem?_eq_none (by rw [Qm];omega)])
 rw [f] at this;exact this
structure LdK where
 k:qh
 most:Nat
 need:Nat
structure LdS where
 d:B64
 b:List UInt8
 err:Nat
 over:Bool
def zh9 (C:LdK) (n:Nat):Nat:=if n>C.most then 6 else if C.k.Zip=0/\C.k.Format≠100/\n>C.need then 5 else 0
def qv4 (s:LdS) (e:Nat):LdS:=if s.err=0/\e≠0 then { s with b:=[],err:=e } else s
def qx4 (C:LdK) (s:LdS) (r:Nat×List UInt8×B64):LdS :=
 if r.1≠0 then qv4 { s with d:=r.2.2 } r.1 else qv4 { s with d:=r.2.2,b:=s.b++r.2.1 } (zh9 C (s.b++r.2.1).length)
def qy3 (C:LdK) (s:LdS) (c:UInt8):LdS:=if s.err≠0 then s else qx4 C s (yQ s.d c)
def JJ (C:LdK) (s:LdS) (text:List UInt8):LdS:=text.foldl (qy3 C) s
def qr5 (C:LdK) (s:LdS):LdS:=if s.err≠0 then s else qx4 C s (qdj s.d)
theorem qw7 (C:LdK) (s:LdS) (a b:List UInt8):JJ C s (a++b)=JJ C (JJ C s a) b:=List.foldl_append
theorem zef (C:LdK) (s:LdS) (c:UInt8):(qy3 C s c).over=s.over:=by
 unfold qy3 qx4 qv4
 repeat' split
 all_goals rfl
theorem zae (s:B64) (hs:B64Ok s) (c:UInt8):(yQ s c).2.1.length<=3:=by
 unfold yQ;split
 ·simp
 ·cases hp:qb7 s c with
  | none=>simp
  | some r =>
   obtain ⟨o,d⟩:=r;have a:∀b:B64,some (Zk b)=some (o,d)->o.length<=3:=by
    intro b h;have:o=(Zk b).1:=by rw [Option.some.inj h]
    rw [this];unfold Zk;split
    ·simp
    ·unfold q1u;rw [length_take];exact Nat.min_le_right _ 3
   unfold qb7 at hp;split at hp
   ·cases hp
   ·split at hp
    ·split at hp
     ·cases hp
     ·exact a _ hp
    ·split at hp
     ·cases hp
     ·split at hp
      ·cases hp
      ·exact a _ hp
theorem zha (C:LdK) (s:LdS) (r:Nat×List UInt8×B64):(qx4 C s r).b.length<=s.b.length+r.2.1.length:=by
 unfold qx4 qv4
 repeat' split
 all_goals simp
theorem zjb {C:LdK} {s:LdS} (h:s.err≠0) (c:UInt8):qy3 C s c=s:=by unfold qy3;rw [if_pos h]
theorem ziy {C:LdK} {s:LdS} (h:s.err≠0) (l:List UInt8):JJ C s l=s:=by
 induction l with
 | nil=>rfl
 | cons c l a=>show JJ C (qy3 C s c) l=s;rw [zjb h];exact a
def yP (gd:Nat) (C:LdK) (p:Slc) (held err:Nat) (over:Bool):List Value:=.pointer (some ⟨gd,0,none⟩)::(qh.rep.cells C.k++[.int .i64 (C.most:Int),.int .i64 (C.need:Int),.slice p.a p.n p.c,.int .i64 (held:Int),.int .i64 (err:Int),.bool over])
def PcS (w:World) (B:Nat) (S:Nat->Prop) (p:Slc) (bs:List UInt8):Prop :=
 (bs=[]/\p=⟨none,0,0⟩)\/∃x,Go.Vc.Own yS w B p [x]/\Go.Vc.Own qo w B x bs/\bs≠[]/\(∀k,p.blk=some k->S k)/\(∀k,x.blk=some k->S k)
structure LdA (w:World) (B g gd:Nat) (C:LdK) (s:LdS) (S:Nat->Prop):Prop where
 ex:∃p:Slc,Blk w g xc (yP gd C p s.b.length s.err s.over)/\PcS w B S p s.b
 d:Xx w gd s.d
 ok:B64Ok s.d
 sg:S g
 sd:S gd
 lt:∀k,S k->B<=k/\k<w.heap.size
section
variable {w:World} {B g gd:Nat} {C:LdK} {s:LdS} {S:Nat->Prop}
theorem PcS.chg {w':World} {p:Slc} {bs:List UInt8} {T:Nat->Prop} (h:PcS w B S p bs) (hc:Chg T w w') (hT:∀k,S k->¬T k):PcS w' B S p bs:=by
 rcases h with h | ⟨x,d,e,f,b,c⟩
 ·exact .inl h
 ·exact .inr ⟨x,d.chg hc λk a=>hT k (b k a),e.chg hc λk a=>hT k (c k a),f,b,c⟩
theorem LdA.chg {w':World} {T:Nat->Prop} (h:LdA w B g gd C s S) (hc:Chg T w w') (hT:∀k,S k->¬T k):LdA w' B g gd C s S:=by
 obtain ⟨⟨p,b,c⟩,h3,h4,h5,h6,h7⟩:=h;exact ⟨⟨p,b.chg hc (hT g h5),c.chg hc hT⟩,Blk.chg h3 hc (hT gd h6),h4,h5,h6,λk a=>⟨(h7 k a).1,Nat.lt_of_lt_of_le (h7 k a).2 hc.size⟩⟩
theorem LdA.ext {w':World} (h:LdA w B g gd C s S) (hB:Uc w w'):LdA w' B g gd C s S:=h.chg (Chg.of_ext hB) λk _ a=>a
end
section
variable {w:World}
theorem zge {W H:Nat} {K:Bool->Ub} (hW1:1<=W) (hW2:W<=16384) (hH1:1<=H) (hH2:H<=16384) (hA:W*H<=67108864) (hK:K true w):XH (W:Int) (H:Int) w K:=by
 refine YX _ _ ?_;refine cF (zhh (by omega)) (cT (dTq (by omega)) (cT (dTq (by omega)) (cT (dTq (by omega)) (cT (dTq (by omega)) ?_))));rw [qM (by omega),dTq (by omega)];exact hK
theorem q2s {W H:Nat} {K:qf->Int->Ub} (hW1:1<=W) (hW2:W<=16384) (hH1:1<=H) (hH2:H<=16384) (hA:W*H<=67108864)
  (hK:∀(t:Slc) (gm:Nat) w',Go.Vc.Own qo w' w.heap.size t (List.replicate (4*W*H) 0)->t.a=some ⟨gm,0,none⟩->w.heap.size<=gm->Uc w w'->K ⟨W,H,t⟩ 0 w'):qe3 (W:Int) (H:Int) w K:=by
 refine qyj _ _ ?_;refine nwb λf h d i=>zge hW1 hW2 hH1 hH2 hA (cF rfl ?_);have e:i64.wrap ((i64.wrap ((4:Int)*(W:Int)))*(H:Int))=((4*W*H:Nat):Int):=by
  have j:4*W*H=4*(W*H):=mul_assoc _ _ _;rw [qM (x:=(4:Int)*(W:Int)) (by omega),show (4:Int)*(W:Int)*(H:Int)=((4*W*H:Nat):Int) by simp,qM (by omega)]
 rw [e];have j:4*W*H=4*(W*H):=mul_assoc _ _ _;refine qyc qN (x0:=(0:UInt8)) rfl rfl rfl (by rw [jV];omega) (by unfold maxLen;omega) λw4 g b=>?_;refine zN (r:=qf.rep) (x:=⟨W,H,⟨some ⟨f.heap.size,0,none⟩,4*W*H,4*W*H⟩⟩) (h.ext b) rfl rfl λl c m=>?_;refine hK _ f.heap.size l ((g.chg c λk o e=>?_).base (by omega)) rfl (by omega) (b1o (bT d b) c (le_refl _));have:=(g.lt k o).1;omega
end
theorem qvw (n:Nat):jT (List.replicate n 0)=List.replicate n (.int .u8 0):=by
 unfold jT;rw [List.map_replicate];rfl
theorem mkB {n m:Nat} {l c:Int} (hl:l=n) (hc:c=m) (hnm:n<=m) (hm:m<=100000000000) {w:World} {K:Slc->Ub}
  (hK:∀w',Go.Vc.Own qo w' w.heap.size ⟨some ⟨w.heap.size,0,none⟩,n,m⟩ (List.replicate n 0)->Uc w w'->K ⟨some ⟨w.heap.size,0,none⟩,n,m⟩ w'):za5 PG qj (Ua l) (Ua c) w K:=by
 subst hl hc;have b:=run_make w qj qo.t qN.i qN.z qN.ht qN.hi qN.hz .i64 .i64 (n:Int) (m:Int) (by omega) (by omega) (by rw [jV];omega) (by omega);refine ⟨⟨some ⟨w.heap.size,0,none⟩,n,m⟩,_,by simpa using b,hK _ ?_ ((Below.refl _ w).alloc (le_refl _) _)⟩;have a:(madeCells qN.z.cells ((m:Int).toNat*qN.i.size)).toList=List.replicate m (.int .u8 0):=by
  have d:qN.i.size=1:=qN.hs;rw [d,mul_one];refine List.ext_getElem? λj=>?_;have e:qN.z.cells=#[.int .u8 0]:=rfl;rw [e];by_cases hj:j<m
  ·simp [madeCells,hj];rw [Nat.mod_one];rfl
  ·rw [List.getElem?_eq_none (by simp [madeCells];omega),List.getElem?_eq_none (by simp;omega)]
 have f:Blk (w.alloc (.cells (madeCells qN.z.cells ((m:Int).toNat*qN.i.size)) qo.t)) w.heap.size qo.t (List.replicate m (.int .u8 0)):=by
  have:=Blk.new w qo.t (madeCells qN.z.cells ((m:Int).toNat*qN.i.size)).toList;rw [a,<-a,Array.toArray_toList] at this;rw [a] at this;exact this
 have:=Go.Vc.Own.of_blk (xs:=List.replicate n (0:UInt8)) (le_refl _) f (by simpa using hnm) (by unfold maxLen;omega) (by rw [List.length_replicate];exact (mul_one _).symm) (by
  rw [qod,qvw,List.length_replicate];show (List.replicate m _).take (n*1)=_;rw [mul_one,List.take_replicate,Nat.min_eq_left hnm])
 simpa using this
section
variable {w:World} {B g gd:Nat} {C:LdK} {s:LdS} {S:Nat->Prop}
theorem zco (h:LdA w B g gd C s S) (hBw:B<=w.heap.size) {t:Slc} {xs:List UInt8} (ht:Rd qo w t xs) (htS:∀k,t.blk=some k->¬S k) (hsm:s.b.length+xs.length<=32768) {K:Int->Ub}
  (hK:∀S' w',LdA w' B g gd C { s with b:=s.b++xs } S'->(∀k,S' k->S k\/w.heap.size<=k)->Chg S w w'->K ((zh9 C (s.b++xs).length:Nat):Int) w'):vf (some ⟨g,0,none⟩) t w K:=by
 obtain ⟨⟨p0,a7,a8⟩,hd0,hok,hsg,hsd,hlt⟩:=h;refine qli _ _ ?_;simp only [onPtr_some];rw [ht.n];refine lpR (λ(st:Int×Unit) w1=>∃(i:Nat) (p:Slc) (M:Nat->Prop),st.1=i/\i<=xs.length/\Blk w1 g xc (yP gd C p s.b.length s.err s.over)/\PcS w1 B M p (s.b++xs.take i)/\Xx w1 gd s.d/\(∀k,S k->M k)/\(∀k,M k->S k\/w.heap.size<=k)/\(∀k,M k->B<=k/\k<w1.heap.size)/\Chg S w w1) (λst=>xs.length-st.1.toNat)
  ⟨0,p0,S,rfl,by omega,a7,by rw [List.take_zero,List.append_nil];exact a8,hd0,λk f=>f,λk f=>.inl f,hlt,Chg.refl _ _⟩ ?_
 rintro ⟨i,u⟩ w1 ⟨i,p,M,rfl,hi,z,al,N,W,J,D,O⟩ I hI;dsimp only;have bs:=O.size;refine cO (λhl=>?_) λhl=>?_
 ·have hl:=oTq hl;have a9:i<xs.length:=by omega
  obtain ⟨c,hc,_⟩:=Go.Vc.get_of (xs:=xs) (k:=i) a9;have au:=ht.chg O λa ha=>htS a.block (slk.2 ⟨a,ha,rfl⟩);refine au.ix (i:=(i:Int)) rfl (by omega) (by omega) λ_=>?_;rw [toNat_natCast];refine lI (x:=(c.toNat:Int)) (zac au hc) ?_;refine jpO λJ2 ba=>?_;have av:∀(x q:Slc) (X:Nat->Prop) o,Blk o g xc (yP gd C q s.b.length s.err s.over)->Go.Vc.Own yS o B q [x]->Go.Vc.Own qo o B x (s.b++xs.take i)->(∀k,q.blk=some k->X k)->(∀k,x.blk=some k->X k)->Xx o gd s.d->(∀k,S k->X k)->(∀k,X k->S k\/w.heap.size<=k)->(∀k,X k->B<=k/\k<o.heap.size)->Chg S w o->J2 () o:=by
   intro x q X o H hq hx Y Z aa bb P ai F;refine ba _ _ ?_;have bt:=F.size;have l:=bdw o;have v:=H.ext l;have ab:=hq.ext l;have ac:=hx.ext l;refine lSl (x:=q) (v.cells 25 _ rfl) (lSl (x:=q) (v.cells 25 _ rfl) ?_);have ad:q.n=1:=hq.rd.n;have e0:i64.wrap (((q.n:Nat):Int)-1)=0:=by rw [ad];decide
   rw [e0];refine ab.rd.ix (i:=0) (k:=1) rfl (by omega) (by simp) λam=>?_;refine lSl (x:=x) (by
    have:=ab.rd.at_ 0 x rfl 0 _ rfl;have h2:o.drew.cell? (q.at_ yS.k 0)=some (.slice x.a x.n x.c):=by simpa using this
    exact h2) ?_
   have bu:o.drew.heap.size=o.heap.size:=rfl;refine zmx (c:=c) rfl ac (by omega) (by rw [length_append,length_take];omega) λr w4 hr Q bc=>?_;have ae:=ab.chg Q λk f e=>JN ab ac (by decide) k f e;have aw:=v.chg Q λe=>qI ac v (by decide) g e rfl;have ax:Xx w4 gd s.d:=Blk.chg (aa.ext l) Q λe=>qI ac (aa.ext l) (by decide) gd e rfl;refine ae.st0 (i:=0) (x:=x) (y:=r) rfl rfl λw5 bd be bv=>?_;have R:Chg (λk=>q.blk=some k) w4 w5:=Chg.of_grown be λk f=>f;have ay:=hr.chg R λk f e=>JN ae hr (by decide) k e f;have bf:=aw.chg R λe=>qI ae aw (by decide) g e rfl;have bg:Xx w5 gd s.d:=Blk.chg ax R λe=>qI ae ax (by decide) gd e rfl;have bw:=Q.size;have bp:=R.size;have az:Chg X o w5:=((Chg.of_ext (S:=X) l).trans Q λk f e=>Z k e).trans R λk f e=>Y k e;rw [qM (by omega)];refine hI _ _ ⟨i+1,q,λk=>X k\/r.blk=some k,rfl,by omega,bf,.inr ⟨r,bd,?_,?_,λk f=>.inl (Y k f),λk f=>.inr f⟩,bg,λk f=>.inl (bb k f),λk f=>?_,λk f=>?_,?_⟩ (by simp;omega)
   ·have:xs.take (i+1)=xs.take i++[c]:=by rw [take_add_one,hc];rfl
    rw [this,<-append_assoc];exact ay
   ·rw [take_add_one,hc];simp
   ·rcases f with f | f
    ·exact P k f
    ·rcases bc with e | ⟨k',e,bx⟩
     ·rw [e] at f;exact P k (Z k f)
     ·rw [e] at f;cases f;right;omega
   ·rcases f with f | f
    ·exact ⟨(ai k f).1,by have:=(ai k f).2;omega⟩
    ·have:=ay.lt k f;exact ⟨this.1,this.2⟩
   ·exact F.trans az λk f hS=>by
     rcases P k hS with h | h
     ·exact h
     ·omega
  refine lSl (x:=p) (z.cells 25 _ rfl) (jpO λJ3 a1=>?_);rcases al with ⟨a2,rfl⟩ | ⟨x,hq,hx,bz,Y,Z⟩
  ·refine cT rfl (a1 _ _ (cT rfl ?_));have l:=bdw w1;have a3:=z.ext l;refine lSl (x:=⟨none,0,0⟩) (a3.cells 25 _ rfl) ?_;refine mkB (n:=0) (m:=32768) rfl rfl (by omega) (by omega) λw7 bh bi=>?_;have aj:=bT l bi;have an:=z.ext aj;refine ⟨an.cells 25 _ rfl,nwb λw8 h8 af b0=>⟨(an.ext af).cells 25 _ rfl,?_⟩⟩;have ak:=bT aj af;have b1:=ak.size;refine jW qmr (E:=yS) (base:=B) (Go.Vc.Own.nil yS w8 B) (y9 (E:=yS) h8 rfl) (by omega) (by rw [qzp];simp) (by simp [maxLen]) λq w9 T bj bk=>?_;have bl:Chg (λk=>False) w8 w9:=Chg.of_grown bj λk f=>by cases f
   have ao:Uc w8 w9:=bl.ext λ_ _ hf=>hf;have ah:=(an.ext af).ext ao;have ap:=(bh.ext af).ext ao;rw [qC];refine qD ah (by simp [yP,qh.rep]) λaq U a4 bq=>?_;have G:Chg (λk=>k=g) w9 aq:=Go.Vc.Chg.gg a4;have L:=bT ak ao;have b2:=L.size;have br:=G.size;refine av _ q (λk=>M k\/q.blk=some k\/k=w1.drew.heap.size) aq U (T.chg G λk f=>qI T ah (by decide) k f) ?_ (λk f=>.inr (.inl f)) (λk f=>.inr (.inr (by cases f;rfl))) (Blk.chg (N.ext L) G λe=>by subst e;exact (N.ext L).ne_t ah (by decide) rfl) (λk f=>.inl (W k f)) (λk f=>?_) (λk f=>?_) ?_
   ·rw [a2];refine (ap.chg G λk f=>qI ap ah (by decide) k f).base ?_;show B<=w1.heap.size;omega
   ·rcases f with f | f | f
    ·exact J k f
    ·right;rcases bk with e | e
     ·rw [e] at f;cases f
     ·rw [e] at f;cases f;omega
    ·right;have:w1.drew.heap.size=w1.heap.size:=rfl;omega
   ·rcases f with f | f | f
    ·exact ⟨(D k f).1,by have:=(D k f).2;omega⟩
    ·have:=(T.lt k f);exact ⟨this.1,by omega⟩
    ·have h1:w1.drew.heap.size=w1.heap.size:=rfl;have:=(ap.lt k (by rw [f];rfl)).2;exact ⟨by omega,by omega⟩
   ·refine (O.trans (Chg.of_ext (S:=S) L) λk _ f=>f).trans G λk _ f=>?_;subst f;exact hsg
  ·have ad:p.n=1:=hq.rd.n;have bm:x.n=(s.b++xs.take i).length:=hx.rd.n;rw [length_append,length_take] at bm;refine cF (by rw [ad];rfl) ?_;have e0:i64.wrap (((p.n:Nat):Int)-1)=0:=by rw [ad];decide
   refine lSl (x:=p) (z.cells 25 _ rfl) ?_;rw [e0];refine hq.rd.ix (i:=0) (k:=1) rfl (by omega) (by simp) λam=>?_;refine lSl (x:=x) (by
    have:=hq.rd.at_ 0 x rfl 0 _ rfl;have h2:w1.cell? (p.at_ yS.k 0)=some (.slice x.a x.n x.c):=by simpa using this
    exact h2) (a1 _ _ (cF ?_ (av x p M w1 z hq hx Y Z N W J D O)))
   dsimp only;exact zhh (by omega)
 ·have hl:=oFq hl;obtain rfl:i=xs.length:=by omega
  rw [take_length] at al;refine lI (x:=(s.b.length:Int)) (z.cells 26 _ rfl) ?_;rw [qC,qM (by omega),show ((s.b.length:Nat):Int)+((xs.length:Nat):Int)=(((s.b++xs).length:Nat):Int) by simp];refine qD z (by simp [yP,qh.rep]) λo H bn b3=>?_;have F:Chg (λk=>k=g) w1 o:=Go.Vc.Chg.gg bn;have bo:PcS o B M p (s.b++xs):=by
   rcases al with h | ⟨x,h1,h2,h3,h4,h5⟩
   ·exact .inl h
   ·exact .inr ⟨x,h1.chg F λk f=>qI h1 z (by decide) k f,h2.chg F λk f=>qI h2 z (by decide) k f,h3,h4,h5⟩
  have aa:Xx o gd s.d:=Blk.chg N F λe=>by subst e;exact N.ne_t z (by decide) rfl
  have a5:LdA o B g gd C { s with b:=s.b++xs } M:=⟨⟨p,H,bo⟩,aa,hok,W g hsg,W gd hsd,λk f=>⟨(D k f).1,Nat.lt_of_lt_of_le (D k f).2 F.size⟩⟩;have a6:Chg S w o:=O.trans F λk _ f=>by subst f;exact hsg
  have l:=bdw o;have V:=bT l (bdw o.drew);have v:=H.ext l;have A:=H.ext V;have ar:=hK M o.drew (a5.ext l) J (a6.trans (Chg.of_ext (S:=S) l) λk _ f=>f);have j:=hK M o.drew.drew (a5.ext V) J (a6.trans (Chg.of_ext (S:=S) V) λk _ f=>f);unfold zh9 at ar j;refine lI (x:=(((s.b++xs).length:Nat):Int)) (v.cells 26 _ rfl) (lI (x:=(C.most:Int)) (v.cells 23 _ rfl) ?_);refine cO (λe=>?_) λe=>?_
  ·have e:=oTq e;rw [if_pos (by omega)] at ar;exact ar
  have e:=oFq e;rw [if_neg (by omega)] at j;refine lI (x:=C.k.Zip) (A.cells 3 _ rfl) (cO (λez=>?_) λez=>?_)
  ·have ez:C.k.Zip=0:=eq_of_beq ez;refine lI (x:=C.k.Format) (A.cells 6 _ rfl) (cO (λef=>?_) λef=>?_)
   ·have ef:C.k.Format≠100:=by simpa using ef
    refine lI (x:=(((s.b++xs).length:Nat):Int)) (A.cells 26 _ rfl) (lI (x:=(C.need:Int)) (A.cells 24 _ rfl) (cO (λen=>?_) λen=>?_))
    ·have en:=oTq en;rw [if_pos ⟨ez,ef,by omega⟩] at j;exact j
    ·have en:=oFq en;rw [if_neg λh=>en (by have:=h.2.2;omega)] at j;exact j
   ·have ef:C.k.Format=100:=by simpa using ef
    rw [if_neg λh=>h.2.1 ef] at j;exact j
  ·have ez:C.k.Zip≠0:=by simpa using ez
   rw [if_neg λh=>ez h.1] at j;exact j
theorem q0n (h:LdA w B g gd C s S) {e:Nat} {K:Ub} (hK:∀w',LdA w' B g gd C (qv4 s e) S->Chg S w w'->K w'):jE (some ⟨g,0,none⟩) (e:Int) w K:=by
 obtain ⟨⟨p,j,z⟩,hd,hok,hsg,hsd,hlt⟩:=h;refine qlt _ _ ?_;simp only [onPtr_some];refine jpO λG f=>?_;unfold qv4 at hK;have y:=λA=>by
  rw [if_neg A] at hK;exact hK w ⟨⟨p,j,z⟩,hd,hok,hsg,hsd,hlt⟩ (Chg.refl _ _)
 refine lI (j.cells 27 _ rfl) (cO (λc=>f _ _ ?_) λc=>f _ _ (cF rfl (y λh=>?_)))
 ·have c:s.err=0:=by have:=eq_of_beq c;omega
  refine cO (λa=>?_) λa=>y λh=>?_
  ·have a:e≠0:=λh=>by rw [h] at a;cases a
   rw [if_pos ⟨c,a⟩] at hK;refine qD j (by simp [yP,qh.rep]) λH m n D=>?_;refine K7 _ ?_;simp only [onPtr_some];refine qD m (by simp [yP,qh.rep,putL]) λI o q E=>?_;refine qD o (by simp [yP,qh.rep,putL]) λw4 b r F=>?_;have t:=((Go.Vc.Chg.gg n).trans (Go.Vc.Chg.gg q) λi _ u=>u).trans (Go.Vc.Chg.gg r) λi _ u=>u;have v:=Blk.chg hd t λe=>by subst e;exact hd.ne_t j (by decide) rfl
   exact hK w4 ⟨⟨⟨none,0,0⟩,b,.inl ⟨rfl,rfl⟩⟩,v,hok,hsg,hsd,λk l=>⟨(hlt k l).1,Nat.lt_of_lt_of_le (hlt k l).2 t.size⟩⟩ (t.mono λk _ l=>by subst l;exact hsg)
  ·rw [qza (by have:=h.2;omega)] at a;cases a
 ·rw [h.1] at c;cases c
end
section
variable {w:World} {B g gd:Nat} {C:LdK} {s:LdS} {S:Nat->Prop}
theorem LdA.setD {w':World} {d':B64} (h:LdA w B g gd C s S) (hd':Xx w' gd d') (hok:B64Ok d') (hc:Chg (λk=>k=gd) w w'):LdA w' B g gd C { s with d:=d' } S:=by
 obtain ⟨⟨p,b,i⟩,h3,h4,h5,h6,h7⟩:=h;refine ⟨⟨p,b.chg hc λe=>by subst e;exact b.ne_t h3 (by decide) rfl,?_⟩,hd',hok,h5,h6,λk a=>⟨(h7 k a).1,Nat.lt_of_lt_of_le (h7 k a).2 hc.size⟩⟩;rcases i with h | ⟨x,c,f,j,l,m⟩
 ·exact .inl h
 ·exact .inr ⟨x,c.chg hc λk a=>qI c h3 (by decide) k a,f.chg hc λk a=>qI f h3 (by decide) k a,j,l,m⟩
theorem q2l (h:LdA w B g gd C s S) (hBw:B<=w.heap.size) {r:Nat×List UInt8×B64} {t:Slc} {w2:World} (ht:Rd qo w2 t r.2.1) (htb:∀k,t.blk=some k->w.heap.size<=k) (hd:Xx w2 gd r.2.2) (hok:B64Ok r.2.2) (hc:Chg (λk=>k=gd) w w2) (hsm:s.b.length+r.2.1.length<=32768) {K:Ub}
  (hK:∀S' w',LdA w' B g gd C (qx4 C s r) S'->(∀k,S' k->S k\/w.heap.size<=k)->Chg S w w'->K w') :
  cond ((r.1:Int)==(0:Int)) (vf (some ⟨g,0,none⟩) t w2 λt37 w4=>jE (some ⟨g,0,none⟩) t37 w4 λw5=>K w5) (jE (some ⟨g,0,none⟩) (r.1:Int) w2 λw6=>K w6):=by
 have l:=h.setD hd hok hc;have o:=hc.size;have m:Chg S w w2:=hc.mono λk _ a=>by subst a;exact h.sd
 unfold qx4 at hK;refine cO (λe=>?_) λe=>?_
 ·have e:r.1=0:=by have:=eq_of_beq e;omega
  rw [if_neg (by omega)] at hK;refine zco l (by omega) ht (λk a f=>by have:=htb k a;have:=(h.lt k f).2;omega) hsm λS' w4 n d i=>?_;refine q0n n λw5 j c=>?_;refine hK S' w5 j (λk a=>?_) ((m.trans i λk _ a=>a).trans c λk a f=>?_)
  ·rcases d k a with h | h
   ·exact .inl h
   ·omega
  ·rcases d k f with h | h
   ·exact h
   ·omega
 ·have e:r.1≠0:=λh=>by rw [h] at e;cases e
  rw [if_pos e] at hK;refine q0n l λw5 j c=>?_;exact hK S w5 j (λk a=>.inl a) (m.trans c λk _ a=>a)
def qft (s:LdS):Nat:=4*s.b.length+3*(s.d.w.length+s.d.f)
theorem zcu (s:B64):4*(Zk s).1.length+3*((Zk s).2.w.length+(Zk s).2.f)<=3*(s.w.length+s.f):=by
 unfold Zk;split
 ·show 4*0+3*(s.w.length+s.f)<=_;omega
 ·have h:(q1u s.w).length<=3:=by
   unfold q1u;rw [length_take];exact Nat.min_le_right _ 3
  show 4*(q1u s.w).length+3*(0+0)<=_;omega
theorem q9v (s:B64) (c:UInt8):4*(yQ s c).2.1.length+3*((yQ s c).2.2.w.length+(yQ s c).2.2.f)<=3*(s.w.length+s.f)+3:=by
 unfold yQ;split
 ·show 4*0+3*(0+0)<=_;omega
 ·cases hp:qb7 s c with
  | none =>
   show 4*0+3*(0+0)<=_;omega
  | some r =>
   obtain ⟨o,a⟩:=r;have b:∀d:B64,some (Zk d)=some (o,a)->d.w.length+d.f=s.w.length+s.f+1->4*o.length+3*(a.w.length+a.f)<=3*(s.w.length+s.f)+3:=by
    intro d h i;have e:=Option.some.inj h;have g:=zcu d;rw [e] at g;dsimp only at g;omega
   unfold qb7 at hp;split at hp
   ·cases hp
   ·split at hp
    ·split at hp
     ·cases hp
     ·exact b _ hp (by show s.w.length+(s.f+1)=_;omega)
    ·split at hp
     ·cases hp
     ·split at hp
      ·cases hp
      ·exact b _ hp (by show (s.w++[_]).length+s.f=_;simp;omega)
theorem zjt (C:LdK) (s:LdS) (c:UInt8):qft (qy3 C s c)<=qft s+3:=by
 unfold qy3;split
 ·omega
 ·have h:=q9v s.d c;unfold qx4 qv4 qft
  repeat' split
  all_goals (simp only [length_append,length_nil];omega)
theorem zfi (h:LdA w B g gd C s S) (hBw:B<=w.heap.size) (hov:s.over=false) {t:Slc} {ts:List UInt8} (ht:Rd qo w t ts) (htS:∀k,t.blk=some k->ts≠[]->¬S k) (hsm:qft s+3*ts.length<=120000) {K:Int->Ub}
  (hK:∀S' w',LdA w' B g gd C (JJ C s ts) S'->(JJ C s ts).over=false->qft (JJ C s ts)<=qft s+3*ts.length->(∀k,S' k->S k\/w.heap.size<=k)->Chg S w w'->K (((JJ C s ts).err:Nat):Int) w'):XA (some ⟨g,0,none⟩) t w K:=by
 refine qn4 _ _ ?_;obtain ⟨p0,L,_⟩:=h.ex;refine jw (L.cells 28 _ rfl) (cF hov (jpO λJ1 M=>?_));have z:∀r p i,i<=ts.length->LdA p B g gd C (JJ C s (ts.take i)) r->(JJ C s (ts.take i)).over=false->qft (JJ C s (ts.take i))<=qft s+3*i->(∀k,r k->S k\/w.heap.size<=k)->Chg S w p->(i=ts.length\/(JJ C s (ts.take i)).err≠0)->J1 () p:=by
  intro r p i X m ho hl o f N;refine M _ _ ?_;have e:JJ C s ts=JJ C s (ts.take i):=by
   rcases N with rfl | he
   ·rw [take_length]
   ·conv=>lhs;rw [<-List.take_append_drop i ts,qw7,ziy he]
  rw [e] at hK;obtain ⟨p1,v,_⟩:=m.ex;exact lI (v.cells 27 _ rfl) (hK r p m ho (by omega) o f)
 rw [ht.n];refine lpR (λ(O:Int×Unit) p=>∃(i:Nat) (r:Nat->Prop),O.1=i/\i<=ts.length/\LdA p B g gd C (JJ C s (ts.take i)) r/\(JJ C s (ts.take i)).over=false/\qft (JJ C s (ts.take i))<=qft s+3*i/\(∀k,r k->S k\/w.heap.size<=k)/\Chg S w p) (λO=>ts.length-O.1.toNat)
  ⟨0,S,rfl,by omega,h,hov,le_refl _,λk J=>.inl J,Chg.refl _ _⟩ ?_
 rintro ⟨i,u⟩ p ⟨i,r,rfl,X,m,q,y,o,f⟩ I hI;have aa:=f.size;refine cO (λE=>?_) λF=>?_
 ·have E:=oTq E;have A:i<ts.length:=by omega
  obtain ⟨c,Y,_⟩:=Go.Vc.get_of (xs:=ts) (k:=i) A;have P:ts≠[]:=λh=>by rw [h] at A;simp at A
  have G:=ht.chg f λa ha=>htS a.block (slk.2 ⟨a,ha,rfl⟩) P;refine G.ix rfl (by omega) (by omega) λ_=>?_;refine lI (zac G Y) ?_;obtain ⟨l,D⟩:∃l,l=JJ C s (ts.take i):=⟨_,rfl⟩;have j:JJ C s (ts.take (i+1))=qy3 C l c:=by
   rw [take_add_one,Y,qw7,<-D];rfl
  rw [<-D] at m q y;obtain ⟨p1,v,_⟩:=m.ex;refine lI (v.cells 27 _ rfl) (cO (λe=>?_) λe=>?_)
  ·have e:l.err≠0:=λh=>by rw [h] at e;cases e
   rw [D] at m q y e;exact z r p i X m q y o f (.inr e)
  ·have e:l.err=0:=by
    rcases Nat.eq_zero_or_pos l.err with h | h
    ·exact h
    ·rw [qza (by omega)] at e;cases e
   refine qS (v.cells 0 _ rfl) ?_;refine zfn m.d m.ok λt3 w3 Q H R T=>?_;have ab:=zae l.d m.ok c;have ac:4*l.b.length<=qft l:=by unfold qft;omega
   have U:qy3 C l c=qx4 C l (yQ l.d c):=by unfold qy3;rw [if_neg (by omega)]
   have:=q2l m (by omega) Q H R (zgg m.ok c) T (by omega) (K:=λZ=>I ((i64.wrap ((i:Int)+(1:Int))),()) Z) λS' Z h5 V W=>by
    rw [qM (by omega)];rw [<-U] at h5;refine hI _ _ ⟨i+1,S',rfl,by omega,by rw [j];exact h5,by rw [j,zef];exact q,?_,λk J=>?_,f.trans W λk J hS=>?_⟩ (by simp;omega)
    ·rw [j];have:=zjt C l c;omega
    ·rcases V k J with h | h
     ·exact o k h
     ·right;omega
    ·rcases o k hS with h | h
     ·exact h
     ·omega
   exact this
 ·have F:=oFq F;obtain rfl:i=ts.length:=by omega
  exact z r p ts.length (le_refl _) m q y o f (.inl rfl)
theorem q99 (h:LdA w B g gd C s S) {K:Int->Ub} (hK:K ((s.b.length:Nat):Int) w):JV (some ⟨g,0,none⟩) w K:=by
 refine ql0 _ ?_;obtain ⟨p,a,_⟩:=h.ex;exact lI (a.cells 26 _ rfl) hK
def Q3 (k:qh):Nat×Nat :=
 if k.Medium≠100\/(k.Zip≠0/\k.Zip≠122) then (8,0)
 else if k.Format=100 then (0,0)
 else if k.Format≠24/\k.Format≠32 then (8,0)
 else if k.W<1\/k.W>16384\/k.H<1\/k.H>16384 then (1,0)
 else (0,k.Format.toNat/8*k.W.toNat*k.H.toNat)
theorem qzt {n:Int} {K:Bool->Ub} (hK:K (decide (1<=n/\n<=16384)) w):VM n w K:=by
 refine qvd _ ?_;refine cO (λe=>?_) λe=>?_
 ·have e:=oTq e;have:decide (1<=n/\n<=16384)=decide (n<=16384):=by rw [decide_eq_decide];omega
  rw [this] at hK;exact hK
 ·have e:=oFq e;rw [dFq (by omega)] at hK;exact hK
theorem q92 {k:qh} {K:Int->Int->Ub} (hK:∀w',Uc w w'->K ((Q3 k).2:Nat) ((Q3 k).1:Nat) w'):qit k w K:=by
 refine qxg _ ?_;refine nwb λl b m s=>jpO λC n=>jpO λt o=>?_;have a:=hK l m;unfold Q3 at a;have i:∀j:Bool,(j=true↔k.Medium≠100\/(k.Zip≠0/\k.Zip≠122))->t (j,()) l:=by
  intro j c;refine o _ _ (cO (λe=>?_) λe=>?_)
  ·rw [if_pos (c.1 e)] at a;exact a
  rw [if_neg λh=>by rw [c.2 h] at e;cases e] at a;refine lI (b.cells 5 _ rfl) (cO (λe=>?_) λp=>?_)
  ·rw [if_pos (eq_of_beq e)] at a;exact a
  have p:k.Format≠100:=by simpa using p
  rw [if_neg p] at a;refine jpO λu q=>?_;have d:∀j:Bool,(j=true↔k.Format≠24/\k.Format≠32)->u (j,()) l:=by
   intro j c;refine q _ _ (cO (λe=>?_) λe=>?_)
   ·rw [if_pos (c.1 e)] at a;exact a
   have v:¬(k.Format≠24/\k.Format≠32):=λh=>by rw [c.2 h] at e;cases e
   rw [if_neg v] at a;refine lI (x:=k.W) (b.cells 6 _ rfl) (qzt (cO (λe=>?_) λe=>?_))
   ·have e:¬(1<=k.W/\k.W<=16384):=λh=>by rw [dTq h] at e;cases e
    rw [if_pos (by omega)] at a;exact a
   have D:1<=k.W/\k.W<=16384:=by simpa using e
   refine lI (x:=k.H) (b.cells 7 _ rfl) (qzt (cO (λe=>?_) λe=>?_))
   ·have e:¬(1<=k.H/\k.H<=16384):=λh=>by rw [dTq h] at e;cases e
    rw [if_pos (by omega)] at a;exact a
   have g:1<=k.H/\k.H<=16384:=by simpa using e
   rw [if_neg (by omega)] at a;refine n _ _ (lI (b.cells 5 _ rfl) ⟨by decide,lI (x:=k.W) (b.cells 6 _ rfl) (lI (x:=k.H) (b.cells 7 _ rfl) ?_)⟩);obtain ⟨W,y⟩:∃W:Nat,k.W=W:=⟨k.W.toNat,by omega⟩;obtain ⟨H,z⟩:∃H:Nat,k.H=H:=⟨k.H.toNat,by omega⟩;obtain ⟨f,A⟩:∃f:Nat,k.Format=f:=⟨k.Format.toNat,by omega⟩;have r:f/8<=4:=by omega
   rw [y,z,A] at a ⊢;have B:f/8*W<=4*16384:=mul_le_mul r (by omega);have E:f/8*W*H<=4*16384*16384:=mul_le_mul B (by omega);have ev:i64.wrap ((i64.wrap ((i64.wrap ((f:Int).tdiv (8:Int)))*(W:Int)))*(H:Int))=((f/8*W*H:Nat):Int):=by
    rw [show (8:Int)=((8:Nat):Int) from rfl,<-Int.ofNat_tdiv,qM (x:=((f/8:Nat):Int)) (by omega),show ((f/8:Nat):Int)*(W:Int)=((f/8*W:Nat):Int) by simp,qM (x:=((f/8*W:Nat):Int)) (by omega),show ((f/8*W:Nat):Int)*(H:Int)=((f/8*W*H:Nat):Int) by simp,qM (by omega)]
   rw [ev];exact a
  refine lI (b.cells 5 _ rfl) (cO (λe=>?_) λe=>?_)
  ·have e:k.Format≠24:=by simpa using e
   refine lI (b.cells 5 _ rfl) (d _ ?_);simp [e]
  ·have e:k.Format=24:=by simpa using e
   exact d _ (by simp [e])
 refine lI (b.cells 1 _ rfl) (cO (λe=>?_) λe=>?_)
 ·have e:k.Medium≠100:=by simpa using e
  exact i _ (by simp [e])
 have e:k.Medium=100:=by simpa using e
 refine lI (b.cells 2 _ rfl) (cO (λg=>?_) λg=>?_)
 ·have g:k.Zip≠0:=by simpa using g
  refine lI (x:=k.Zip) (b.cells 2 _ rfl) (i _ ?_);simp [e,g]
 ·have g:k.Zip=0:=by simpa using g
  exact i _ (by simp [e,g])
end
def qxo (k:qh) (room:Int):Nat :=
 if room<0\/room>1073741824 then 1
 else if (Q3 k).1≠0 then (Q3 k).1
 else if k.Format≠100/\4*k.W*k.H>room then 6 else 0
def ld0:LdS:=⟨zd5,[],0,false⟩
theorem q3e {k:qh} (h:(Q3 k).1=0):(k.Format=100/\(Q3 k).2=0)\/(k.Format≠100/\(k.Format=24\/k.Format=32)/\∃W H:Nat,k.W=W/\k.H=H/\1<=W/\W<=16384/\1<=H/\H<=16384/\(Q3 k).2=k.Format.toNat/8*W*H):=by
 unfold Q3 at h ⊢;split at h
 ·cases h
 ·rename_i b;rw [if_neg b];split at h
  ·rename_i a;rw [if_pos a];exact .inl ⟨a,rfl⟩
  ·rename_i a;rw [if_neg a];split at h
   ·cases h
   ·rename_i c;rw [if_neg c];split at h
    ·cases h
    ·rename_i d;rw [if_neg d];exact .inr ⟨a,by omega,k.W.toNat,k.H.toNat,by omega,by omega,by omega,by omega,by omega,by omega,rfl⟩
def pxF (per:Nat) (b:List UInt8) (i:Nat):List UInt8:=(b.drop (per*i)).take per++[0,0,0,255].drop per
def qgt (per n:Nat) (b:List UInt8):List UInt8:=(List.range n).flatMap (pxF per b)
theorem zk6 {per:Nat} {b:List UInt8} {i:Nat} (hp:per<=4) (h:per*i+per<=b.length):(pxF per b i).length=4:=by
 unfold pxF;rw [length_append,length_take,length_drop,length_drop];show min per (b.length-per*i)+(4-per)=4;omega
theorem qz6 (per n:Nat) (b:List UInt8):qgt per (n+1) b=qgt per n b++pxF per b n:=by
 unfold qgt;rw [List.range_succ];simp
theorem q21 {per:Nat} {b:List UInt8} (hp:per<=4):∀n,per*n<=b.length->(qgt per n b).length=4*n
 | 0,_=>rfl
 | n+1,h=>by
  have e:per*(n+1)=per*n+per:=by rw [Nat.mul_add,mul_one]
  rw [qz6,length_append,q21 hp n (by omega),zk6 hp (by omega)];omega
section
variable {w:World}
theorem zea {k:qh} {room:Int} {K:Option Addr->Int->Ub} (hE:qxo k room≠0->∀w',Uc w w'->K none ((qxo k room:Nat):Int) w')
  (hO:qxo k room=0->∀g gd w',LdA w' w.heap.size g gd ⟨k,room.toNat,(Q3 k).2⟩ ld0 (λi=>i=g\/i=gd)->Uc w w'->K (some ⟨g,0,none⟩) 0 w'):qrz k room w K:=by
 refine q1x _ _ ?_;refine nwb λu v m E=>jpO λJ1 q=>?_;unfold qxo at hE hO;refine cO (λe=>?_) λy=>cO (λe=>?_) λz=>q _ _ ?_
 ·have e:=oTq e;rw [if_pos (.inl e)] at hE;exact hE (by decide) u m
 ·have e:=oTq e;rw [if_pos (.inr e)] at hE;exact hE (by decide) u m
 have y:=oFq y;have z:=oFq z;rw [if_neg (by omega)] at hE hO;refine qz (x:=k) v.cells ?_;refine q92 λf n=>?_;have a:=bT m n;have c:=v.ext n;refine jpO λF s=>?_;refine cO (λe=>?_) λe=>?_
 ·have e:(Q3 k).1≠0:=λh=>by rw [h] at e;cases e
  rw [if_pos e] at hE;exact hE e f a
 have G:(Q3 k).1=0:=by
  rcases Nat.eq_zero_or_pos (Q3 k).1 with h | h
  ·exact h
  ·rw [qza (by omega)] at e;cases e
 rw [if_neg (by omega)] at hE hO;have d:¬(k.Format≠100/\4*k.W*k.H>room)->F () f:=by
  intro I;rw [if_neg I] at hO;refine s _ _ ?_;have o:=bdw f;refine qz (r:=qh.rep) (x:=k) (c.ext o).cells ?_;refine qis ?_;unfold Y3;refine nwb λJ L t M=>?_;have j:=bT o t;refine ⟨(c.ext j).cells,nwb λA N p O=>?_⟩;have B:=a.size;have hz:f.drew.heap.size=f.heap.size:=rfl;have P:=L.ext p;refine hO rfl J.heap.size f.drew.heap.size A ⟨⟨⟨none,0,0⟩,?_,.inl ⟨rfl,rfl⟩⟩,P,zdi,.inl rfl,.inr rfl,λi Q=>?_⟩ (bT (bT a j) p)
  ·have R:((room.toNat:Nat):Int)=room:=by omega
   have:yP f.drew.heap.size ⟨k,room.toNat,(Q3 k).2⟩ ⟨none,0,0⟩ ld0.b.length ld0.err ld0.over=[(.pointer (some ⟨f.drew.heap.size,0,none⟩)),(.int .u8 k.Action),(.int .u8 k.Medium),(.int .u8 k.Zip),(.int .u8 k.What),(Ua k.Quiet),(Ua k.Format),(Ua k.W),(Ua k.H),(Ua k.Id),(Ua k.Number),(Ua k.Place),(Ua k.More),(Ua k.X),(Ua k.Y),(Ua k.PW),(Ua k.PH),(Ua k.DX),(Ua k.DY),(Ua k.Rows),(Ua k.Cols),(Ua k.Z),(Ua k.Stay),(Ua room),(Ua (((Q3 k).2:Nat):Int)),(.slice none 0 0),(Ua 0),(Ua 0),(.bool false)]:=by
    unfold yP;rw [R];rfl
   rw [this];exact N
  ·rcases Q with rfl | rfl
   ·exact ⟨by omega,by omega⟩
   ·exact ⟨by omega,by omega⟩
 refine lI (c.cells 5 _ rfl) (cO (λl=>?_) λl=>?_)
 ·have l:k.Format≠100:=by simpa using l
  rcases q3e G with ⟨h,_⟩ | ⟨_,_,W,H,C,D,a1,S,a3,T,_⟩
  ·exact absurd h l
  refine lI (x:=k.W) (c.cells 6 _ rfl) (lI (x:=k.H) (c.cells 7 _ rfl) ?_);have U:=mul_le_mul S T;have h4:4*W*H=4*(W*H):=mul_assoc _ _ _;have V:4*k.W*k.H=((4*W*H:Nat):Int):=by rw [C,D];simp
  have ev:i64.wrap ((i64.wrap ((4:Int)*k.W))*k.H)=((4*W*H:Nat):Int):=by
   rw [C,D,qM (x:=(4:Int)*(W:Int)) (by omega),show (4:Int)*(W:Int)*(H:Int)=((4*W*H:Nat):Int) by simp,qM (by omega)]
  rw [ev];rw [V] at hE d;refine cO (λe=>?_) λe=>d λh=>?_
  ·have e:=oTq e;rw [if_pos ⟨l,e⟩] at hE;exact hE (by decide) f a
  ·exact oFq e h.2
 ·have l:k.Format=100:=by simpa using l
  exact d λh=>h.1 l
theorem q3z {W H per:Nat} {b:Slc} {bs:List UInt8} (hper:per=3\/per=4) (hW1:1<=W) (hW2:W<=16384) (hH1:1<=H) (hH2:H<=16384) (hA:W*H<=67108864) (hb:Rd qo w b bs) (hl:bs.length<=1000000000) {K:qf->Int->Ub}
  (hS:bs.length<per*W*H->∀w',Uc w w'->K ⟨0,0,⟨none,0,0⟩⟩ 2 w') (hL:bs.length>per*W*H->∀w',Uc w w'->K ⟨0,0,⟨none,0,0⟩⟩ 5 w')
  (hO:bs.length=per*W*H->∀s w',Go.Vc.Own qo w' w.heap.size s (qgt per (W*H) bs)->Uc w w'->K ⟨W,H,s⟩ 0 w'):qbh (W:Int) (H:Int) (per:Int) b w K:=by
 refine qxs _ _ _ _ ?_;refine nwb λw1 h1 o ba=>?_;refine q2s hW1 hW2 hH1 hH2 hA λp N w2 O q bb P=>?_;refine nwb λw3 h3 F bc=>xR h3 rfl λw4 h4 Q bd=>?_;have T:Uc w2 w4:=b1o F Q (le_refl _);have z:=bT P T;have U:=bT o z;have B:=(O.ext F).chg Q λk d=>qI (O.ext F) h3 (by decide) k d;have V:=h1.ext z;have G:3<=per/\per<=4:=by omega
 have be:per*W*H=per*(W*H):=mul_assoc _ _ _;have ar:4*W*H=4*(W*H):=mul_assoc _ _ _;have bf:per*(W*H)<=4*(W*H):=Nat.mul_le_mul_right _ G.2;have J:p.blk=some N:=by unfold Slc.blk;rw [q];rfl
 have a7:=P.size;refine jpO λJ1 X=>?_;have Y:∀e:Nat,e≠0->(∀w',Uc w w'->K ⟨0,0,⟨none,0,0⟩⟩ (e:Int) w')->J1 ((e:Int),()) w4:=λe he d=>X _ _ (cT (qza (by omega)) (zN (r:=qf.rep) (x:=⟨0,0,⟨none,0,0⟩⟩) V rfl rfl λC au bg=>d C (b1o U au (le_refl _))));have Z:bs.length=per*W*H->J1 (0,()) w4:=by
  intro av;refine X _ _ (cF rfl ?_);have aw:i64.wrap ((W:Int)*(H:Int))=((W*H:Nat):Int):=by rw [show (W:Int)*(H:Int)=((W*H:Nat):Int) by simp,qM (by omega)]
  rw [aw];refine lpR (λ(st:Int×Unit) C=>∃i:Nat,st.1=i/\i<=W*H/\Go.Vc.Own qo C w1.heap.size p (qgt per i bs++List.replicate (4*(W*H-i)) 0)/\Chg (λk=>k=N) w4 C) (λst=>W*H-st.1.toNat)
   ⟨0,rfl,by omega,by rw [Nat.sub_zero,<-ar];exact B,Chg.refl _ _⟩ ?_
  rintro ⟨i,u⟩ C ⟨i,rfl,hi,D,hC⟩ I hI;dsimp only;have keep:∀{k tt:Nat} {cs:List Value},tt≠qF->Blk w4 k tt cs->Blk C k tt cs:=λ{k tt cs} hne hbk=>hbk.chg hC λe=>by
   subst e;obtain ⟨ax,f⟩:=B.blk_t J;exact hbk.ne_t f hne rfl
  have t:=keep (by decide) h4;have aa:Uc w C:=b1o U hC (by have:=o.size;omega);refine cO (λab=>?_) λac=>?_
  ·have ab:=oTq ab;have ay:i<W*H:=by omega
   have az:per*i+per<=bs.length:=by
    have:=Nat.mul_le_mul_left per (show i+1<=W*H from ay);rw [Nat.mul_add,mul_one] at this;omega
   have g:=q21 (b:=bs) G.2 i (by omega);obtain ⟨R,hR⟩:∃R:List UInt8,R=List.replicate (4*(W*H-(i+1))) 0:=⟨_,rfl⟩;have ad:List.replicate (4*(W*H-i)) (0:UInt8)=[0,0,0,0]++R:=by
    rw [hR,show 4*(W*H-i)=4+4*(W*H-(i+1)) by omega,<-List.replicate_append_replicate];rfl
   rw [ad] at D;obtain ⟨A,ae⟩:∃A,A=qgt per i bs:=⟨_,rfl⟩;rw [<-ae] at D g;refine lSl (x:=p) (t.cells 2 _ rfl) ?_;rw [qM (x:=(4:Int)*(i:Int)) (by omega),qM (x:=(4:Int)*(i:Int)+3) (by omega)];refine D.rd.ix (i:=((4*i+3:Nat):Int)) rfl (by omega) (by simp only [length_append,length_cons,length_nil];omega) λ_=>?_;rw [toNat_natCast];refine D.st0 (i:=4*i+3) (x:=0) (y:=255) (by rw [List.getElem?_append_right (by omega),g,show 4*i+3-4*i=3 by omega];rfl) rfl λw6 af ah bh=>?_;have L:Chg (λk=>k=N) C w6:=by rw [J] at ah;exact Go.Vc.Chg.gg ah
   have ai:(A++([0,0,0,0]++R)).set (4*i+3) 255=A++([0,0,0,255]++R):=by
    rw [List.set_append_right _ _ (by omega),g,show 4*i+3-4*i=3 by omega];rfl
   rw [ai] at af;have v:=bdw w6;have h:=af.ext v;have a1:Blk w6 w2.heap.size qx _:=t.chg L λe=>by
    obtain ⟨ax,f⟩:=D.blk_t J;subst e;exact t.ne_t f (by decide) rfl
   have aj:Uc w w6.drew:=bT (b1o aa L (by have:=o.size;omega)) v;refine lSl (x:=p) ((a1.ext v).cells 2 _ rfl) ?_;have ak:(A++([0,0,0,255]++R)).length=4*i+(4+R.length):=by
    rw [length_append,length_append,g];rfl
   obtain ⟨cur,E,bi,bj,bk,bl,a8,a9⟩:=qki (c:=0) h q;refine h.rd.slK (l:=4*i) (m:=(A++([0,0,0,255]++R)).length) rfl (.inr rfl) (.inl ⟨rfl,rfl⟩) (by omega) (le_refl _) λ_=>?_;have a2:=hb.ext aj;have ep:i64.wrap ((per:Int)*(i:Int))=((per*i:Nat):Int):=by rw [show (per:Int)*(i:Int)=((per*i:Nat):Int) by simp,qM (by omega)]
   have a3:i64.wrap (((per*i:Nat):Int)+(per:Int))=((per*i+per:Nat):Int):=by rw [qM (by omega)];simp
   rw [ep,a3];refine a2.slK (l:=per*i) (m:=per*i+per) rfl (.inr rfl) (.inr rfl) (by omega) az λal=>?_;have a4:(bs.take (per*i+per)).drop (per*i)=(bs.drop (per*i)).take per:=by rw [List.drop_take,Nat.add_sub_cancel_left]
   rw [a4] at al;have j:((bs.drop (per*i)).take per).length=per:=by rw [length_take,length_drop];omega
   have am:cut p.a (4*i) p.c qo.k=some ⟨N,4*i,none⟩:=by
    unfold cut;rw [if_neg (by omega),q];show some ((⟨N,0,none⟩:Addr).add (4*i*1))=_;rw [qC,mul_one,Nat.zero_add]
   rw [am];refine q3v (n:=per) E al (by rw [j,ak];show per=min per (4*i+(4+R.length)-4*i);omega) (by omega) λw7 an a5 bm=>?_;have a6:((bs.drop (per*i)).take per).take per=(bs.drop (per*i)).take per:=List.take_of_length_le (by omega);rw [a6] at an;have M:=qpa (ys:=(bs.drop (per*i)).take per) (k:=4*i) h q E (by rw [j,ak];omega) an;rw [j] at M;have ao:(A++([0,0,0,255]++R)).take (4*i)++(bs.drop (per*i)).take per++(A++([0,0,0,255]++R)).drop (4*i+per)=qgt per (i+1) bs++R:=by
    rw [qz6,<-ae,List.take_append_of_le_length (by omega),List.take_of_length_le (by omega),List.drop_append,g,show 4*i+per-4*i=per by omega,List.drop_of_length_le (show A.length<=4*i+per by omega),List.nil_append,List.drop_append_of_le_length (show per<=4 by omega)];unfold pxF;simp [append_assoc]
   rw [ao,hR] at M;rw [qM (by omega)];exact hI _ _ ⟨i+1,rfl,by omega,M,((hC.trans L λk _ d=>d).trans (Chg.of_ext (S:=λk=>k=N) v) λk _ d=>d).trans a5 λk _ d=>d⟩ (by simp;omega)
  ·have ac:=oFq ac;obtain rfl:i=W*H:=by omega
   rw [Nat.sub_self,Nat.mul_zero,List.replicate_zero,List.append_nil] at D;refine qz (r:=qf.rep) (x:=⟨W,H,p⟩) t.cells ?_;have ap:=keep (by decide) V;refine zN (r:=qf.rep) (x:=⟨W,H,p⟩) ap rfl rfl λwb aq bn=>?_;exact hO av p wb ((D.chg aq λk d=>qI D ap (by decide) k d).base o.size) (b1o aa aq (le_refl _))
 have en:i64.wrap ((i64.wrap ((per:Int)*(W:Int)))*(H:Int))=((per*W*H:Nat):Int):=by
  have h5:per*W<=4*16384:=mul_le_mul G.2 hW2;rw [show (per:Int)*(W:Int)=((per*W:Nat):Int) by simp,qM (x:=((per*W:Nat):Int)) (by omega),show ((per*W:Nat):Int)*(H:Int)=((per*W*H:Nat):Int) by simp,qM (by omega)]
 rw [hb.n,en];refine cF rfl (cO (λe=>?_) λe=>cO (λe2=>?_) λe2=>?_)
 ·have e:=oTq e;exact Y 2 (by decide) (hS (by omega))
 ·have e2:=oTq e2;exact Y 5 (by decide) (hL (by omega))
 ·have e:=oFq e;have e2:=oFq e2;exact Z (by omega)
end
def qs0 (w:World) (base:Nat) (m:qf) (r:Nat×Nat×Nat×List UInt8):Prop:=m.W=(r.2.1:Int)/\m.H=(r.2.2.1:Int)/\Go.Vc.Own qo w base m.P r.2.2.2
structure CfgOk (C:LdK):Prop where
 nw:qxo C.k (C.most:Int)=0
 need:C.need=(Q3 C.k).2
 most:C.most<=100000
 raw:C.k.Format≠100/\C.k.Zip≠122
theorem CfgOk.needs {C:LdK} (h:CfgOk C):(Q3 C.k).1=0:=by
 have:=h.nw;have b:=h.most;unfold qxo at this;rw [if_neg (by omega)] at this;split at this
 ·rename_i a;exact absurd this a
 ·omega
theorem CfgOk.sides {C:LdK} (h:CfgOk C) (hf:C.k.Format≠100):∃W H per:Nat,C.k.W=W/\C.k.H=H/\1<=W/\W<=16384/\1<=H/\H<=16384/\(C.k.Format=24/\per=3\/C.k.Format=32/\per=4)/\C.need=per*W*H/\4*(W*H)<=C.most:=by
 rcases q3e h.needs with ⟨o,_⟩ | ⟨_,c,W,H,d,f,g,i,j,l,m⟩
 ·exact absurd o hf
 ·have n:¬(C.k.Format≠100/\4*C.k.W*C.k.H>(C.most:Int)):=by
   intro b;have:=h.nw;have q:=h.most;unfold qxo at this;rw [if_neg (by omega),if_neg (by have:=h.needs;omega),if_pos b] at this;cases this
  have p:4*C.k.W*C.k.H=((4*(W*H):Nat):Int):=by rw [d,f,Int.mul_assoc];simp
  have a:4*(W*H)<=C.most:=by
   rcases Nat.lt_or_ge C.most (4*(W*H)) with b | b
   ·exact absurd ⟨hf,by omega⟩ n
   ·exact b
  rcases c with e | e
  ·exact ⟨W,H,3,d,f,g,i,j,l,.inl ⟨e,rfl⟩,by rw [h.need,m,e];rfl,a⟩
  ·exact ⟨W,H,4,d,f,g,i,j,l,.inr ⟨e,rfl⟩,by rw [h.need,m,e];rfl,a⟩
def qv5 (C:LdK) (b:List UInt8):Nat×Nat×Nat×List UInt8 :=
 if b.length<C.need then (2,0,0,[])
 else if b.length>C.need then (5,0,0,[])
 else (0,C.k.W.toNat,C.k.H.toNat,qgt (if C.k.Format=24 then 3 else 4) (C.k.W.toNat*C.k.H.toNat) b)
def q68 (s:LdS):LdS:={ s with over:=true }
def qtb (C:LdK) (s:LdS):Nat×Nat×Nat×List UInt8 :=
 if s.over then (7,0,0,[]) else if (qr5 C (q68 s)).err≠0 then ((qr5 C (q68 s)).err,0,0,[]) else qv5 C (qr5 C (q68 s)).b
def zmv (C:LdK) (s:LdS):LdS:=if s.over then s else { qr5 C (q68 s) with b:=[] }
section
variable {w:World} {B g gd:Nat} {C:LdK} {s:LdS} {S:Nat->Prop}
theorem qs0.zero (w:World) (base e:Nat):qs0 w base ⟨0,0,⟨none,0,0⟩⟩ (e,0,0,[]):=⟨rfl,rfl,Go.Vc.Own.nil _ _ _⟩
theorem q4j {W H:Nat} {b:Slc} {bs:List UInt8} (hW1:1<=W) (hW2:W<=16384) (hH1:1<=H) (hH2:H<=16384) (hA:W*H<=67108864) (hb:Rd qo w b bs) (hl:bs.length<=1000000000) (hn:¬bs.length<3*W*H) {K:qf->Int->Ub}
  (hL:bs.length>3*W*H->∀w',Uc w w'->K ⟨0,0,⟨none,0,0⟩⟩ 5 w') (hO:bs.length=3*W*H->∀s w',Go.Vc.Own qo w' w.heap.size s (qgt 3 (W*H) bs)->Uc w w'->K ⟨W,H,s⟩ 0 w'):YU (W:Int) (H:Int) b w K:=by
 refine qq5 _ _ _ ?_;refine nwb λn e c j=>?_;refine q3z (per:=3) (by omega) hW1 hW2 hH1 hH2 hA (hb.ext c) hl (λh=>absurd h hn) (λh l a=>?_) (λh s l i a=>?_)
 ·exact zN (r:=qf.rep) (e.ext a) rfl rfl λf d g=>hL h f (b1o (bT c a) d (le_refl _))
 ·exact zN (r:=qf.rep) (e.ext a) rfl rfl λf d g=>hO h s f ((i.chg d λk m=>qI i (e.ext a) (by decide) k m).base c.size) (b1o (bT c a) d (le_refl _))
theorem q2g {W H:Nat} {b:Slc} {bs:List UInt8} (hW1:1<=W) (hW2:W<=16384) (hH1:1<=H) (hH2:H<=16384) (hA:W*H<=67108864) (hb:Rd qo w b bs) (hl:bs.length<=1000000000) (hn:¬bs.length<4*W*H) {K:qf->Int->Ub}
  (hL:bs.length>4*W*H->∀w',Uc w w'->K ⟨0,0,⟨none,0,0⟩⟩ 5 w') (hO:bs.length=4*W*H->∀s w',Go.Vc.Own qo w' w.heap.size s (qgt 4 (W*H) bs)->Uc w w'->K ⟨W,H,s⟩ 0 w'):V6 (W:Int) (H:Int) b w K:=by
 refine qpi _ _ _ ?_;refine nwb λn e c j=>?_;refine q3z (per:=4) (by omega) hW1 hW2 hH1 hH2 hA (hb.ext c) hl (λh=>absurd h hn) (λh l a=>?_) (λh s l i a=>?_)
 ·exact zN (r:=qf.rep) (e.ext a) rfl rfl λf d g=>hL h f (b1o (bT c a) d (le_refl _))
 ·exact zN (r:=qf.rep) (e.ext a) rfl rfl λf d g=>hO h s f ((i.chg d λk m=>qI i (e.ext a) (by decide) k m).base c.size) (b1o (bT c a) d (le_refl _))
theorem q8o {p:Slc} {held err:Nat} {over:Bool} (hb:Blk w g xc (yP gd C p held err over)) (hC:CfgOk C) {b:Slc} {bs:List UInt8} (hr:Rd qo w b bs) (hrl:∀k,b.blk=some k->k<w.heap.size) (hl:bs.length<=1000000) {K:qf->Int->Ub}
  (hK:∀m w',qs0 w' w.heap.size m (qv5 C bs)->Uc w w'->K m ((qv5 C bs).1:Nat) w'):ZG (some ⟨g,0,none⟩) b w K:=by
 refine qj6 _ _ ?_;have O:=hC.most;refine nwb λB N t ab=>jpO λJ1 P=>?_;have D:=hb.ext t;refine lI (D.cells 6 _ rfl) (jpO λJ2 Q=>?_);unfold qv5 at hK;have j:∀(m:qf) (e:Nat) (r:Nat×Nat×Nat×List UInt8) u,qs0 u (w.heap.size+1) m r->Uc B u->(∀w',qs0 w' w.heap.size m r->Uc w w'->K m (e:Int) w') ->
   stK ⟨w.heap.size,0,none⟩ (qf.rep.cells m) u λw4=>ldS qf.rep ⟨w.heap.size,0,none⟩ w4 λr=>K r (e:Int) w4:=by
  intro m e r u q d E;refine zN (r:=qf.rep) (x:=m) (N.ext d) rfl rfl λw4 G ac=>?_;exact E w4 ⟨q.1,q.2.1,(q.2.2.chg G λk E e=>by have:=(q.2.2.lt k E).1;omega).base (by omega)⟩ (b1o (bT t d) G (le_refl _))
 refine cO (λe=>absurd (eq_of_beq e) hC.raw.1) λe=>?_
 ·have e:=hC.raw.1;obtain ⟨W,H,v,hW,hH,a1,a2,a3,a4,I,R,ad⟩:=hC.sides e;have S:C.k.W.toNat=W:=by rw [hW];rfl
  have T:C.k.H.toNat=H:=by rw [hH];rfl
  have U:(if C.k.Format=24 then 3 else 4:Nat)=v:=by
   rcases I with ⟨N,V⟩ | ⟨N,V⟩
   ·rw [if_pos N,V]
   ·rw [if_neg (by omega),V]
  rw [S,T,U] at hK;have hA:W*H<=67108864:=by omega
  have go:∀f:Value,(∀u,Uc B u->¬bs.length<C.need->j7 Go.Proofs.YtjhgepnpnapnoaaGreatDoor.C f [(Ua (W:Int)),(Ua (H:Int)),(.slice b.a b.n b.c)] [(Kind.struct qf.rep),(Kind.int .i64)] u λ(y:qf) (i:Int) s=>stK ⟨w.heap.size,0,none⟩ (qf.rep.cells y) s λw4=>ldS qf.rep ⟨w.heap.size,0,none⟩ w4 λr=>K r i w4)->J2 (f,()) B:=by
   intro f hf;refine Q _ _ ?_;refine lI (D.cells 24 _ rfl) ?_;rw [hr.n];refine cO (λJ=>?_) λJ=>?_
   ·have J:=oTq J;rw [if_pos (by omega)] at hK;exact j ⟨0,0,⟨none,0,0⟩⟩ 2 (2,0,0,[]) B (qs0.zero _ _ _) (Below.refl _ _) λw' q A=>hK _ w' q A
   ·have J:=oFq J;refine P _ _ ?_;have L:=D.ext (bdw B);refine lI (x:=(W:Int)) (by rw [<-hW];exact L.cells 7 _ rfl) (lI (x:=(H:Int)) (by rw [<-hH];exact L.cells 8 _ rfl) ?_);exact hf B.drew (bdw B) (by omega)
  refine cO (λz=>go _ λu d M=>Go.Vc.callR_plain (by kernel_rfl) ?_) λz=>go _ λu d M=>Go.Vc.callR_plain (by kernel_rfl) ?_
  ·have z:C.k.Format=24:=eq_of_beq z;have X:v=3:=by omega
   subst X;have l:YU (W:Int) (H:Int) b u λy i s=>stK ⟨w.heap.size,0,none⟩ (qf.rep.cells y) s λw4=>ldS qf.rep ⟨w.heap.size,0,none⟩ w4 λr=>K r i w4:=by
    refine q4j a1 a2 a3 a4 hA (hr.ext (bT t d)) (by omega) (by omega) (λh s o=>?_) (λh Y s F o=>?_)
    ·rw [if_neg M,if_pos (by omega)] at hK;exact j ⟨0,0,⟨none,0,0⟩⟩ 5 (5,0,0,[]) s (qs0.zero _ _ _) (bT d o) λw' q A=>hK _ w' q A
    ·rw [if_neg M,if_neg (by omega)] at hK;have Z:=d.size;exact j ⟨W,H,Y⟩ 0 (0,W,H,qgt 3 (W*H) bs) s ⟨rfl,rfl,F.base (by omega)⟩ (bT d o) λw' q A=>hK _ w' q A
   refine Calls.mono l ?_;rintro ev w' ⟨r0,r1,rfl,E⟩;exact ⟨r0,r1,rfl,E⟩
  ·have z:C.k.Format≠24:=by simpa using z
   have X:v=4:=by omega
   subst X;have l:V6 (W:Int) (H:Int) b u λy i s=>stK ⟨w.heap.size,0,none⟩ (qf.rep.cells y) s λw4=>ldS qf.rep ⟨w.heap.size,0,none⟩ w4 λr=>K r i w4:=by
    refine q2g a1 a2 a3 a4 hA (hr.ext (bT t d)) (by omega) (by omega) (λh s o=>?_) (λh Y s F o=>?_)
    ·rw [if_neg M,if_pos (by omega)] at hK;exact j ⟨0,0,⟨none,0,0⟩⟩ 5 (5,0,0,[]) s (qs0.zero _ _ _) (bT d o) λw' q A=>hK _ w' q A
    ·rw [if_neg M,if_neg (by omega)] at hK;have Z:=d.size;exact j ⟨W,H,Y⟩ 0 (0,W,H,qgt 4 (W*H) bs) s ⟨rfl,rfl,F.base (by omega)⟩ (bT d o) λw' q A=>hK _ w' q A
   refine Calls.mono l ?_;rintro ev w' ⟨r0,r1,rfl,E⟩;exact ⟨r0,r1,rfl,E⟩
end
theorem zdy (C:LdK) (s:LdS) (r:Nat×List UInt8×B64):(qx4 C s r).over=s.over:=by
 unfold qx4 qv4
 repeat' split
 all_goals rfl
theorem zfy (C:LdK) (s:LdS):(qr5 C s).over=s.over:=by
 unfold qr5;split
 ·rfl
 ·exact zdy _ _ _
theorem qzu (s:B64) (hs:B64Ok s):(qdj s).2.1.length<=3:=by
 unfold qdj;split
 ·simp
 ·have a:=hs.n;have b:=zg9 s.w (by omega);dsimp only;omega
theorem zf2 (s:B64):B64Ok (qdj s).2.2:=by
 unfold qdj;split
 ·exact q5c
 ·exact zdi
theorem zji (C:LdK) (s:LdS) (hs:B64Ok s.d):(qr5 C s).b.length<=s.b.length+3:=by
 unfold qr5;split
 ·omega
 ·have a:=zha C s (qdj s.d);have c:=qzu s.d hs;omega
section
variable {w:World} {B g gd:Nat} {C:LdK} {s:LdS} {S:Nat->Prop}
theorem ze3 (h:LdA w B g gd C s S) (hBw:B<=w.heap.size) (hC:CfgOk C) (hsm:s.b.length<=32000) {K:qf->Int->Ub}
  (hK:∀m S' w',LdA w' B g gd C (zmv C s) S'->qs0 w' w.heap.size m (qtb C s)->(∀k,m.P.blk=some k->¬S' k)->(∀k,S' k->S k\/w.heap.size<=k)->Chg S w w'->K m (((qtb C s).1:Nat):Int) w'):XB (some ⟨g,0,none⟩) w K:=by
 refine qnc _ ?_;simp only [onPtr_some];refine nwb λw1 h1 R bp=>?_;have T:=h.ext R;obtain ⟨p0,I,az⟩:=T.ex;have U:∀k,S k->k≠w.heap.size:=λk a e=>by have:=(h.lt k a).2;omega
 refine jw (x:=s.over) (I.cells 28 _ rfl) ?_;unfold qtb zmv at hK;refine cO (λe=>?_) λe=>?_
 ·have e:s.over=true:=e;rw [if_pos e,if_pos e] at hK;refine zN (r:=qf.rep) (x:=⟨0,0,⟨none,0,0⟩⟩) h1 rfl rfl λw2 aj bq=>?_;exact hK _ S w2 (T.chg aj λk a=>U k a) (qs0.zero _ _ _) (λk a=>by cases a) (λk a=>.inl a) ((Chg.of_ext (S:=S) R).trans aj λk a e=>by omega)
 have e:s.over=false:=e;rw [if_neg (by rw [e];decide),if_neg (by rw [e];decide)] at hK;rw [qC];refine qD I (by simp [yP,qh.rep]) λQ J a6 br=>?_;have n:Chg (λk=>k=g) w1 Q:=Go.Vc.Chg.gg a6;obtain ⟨l,L⟩:∃l,l=q68 s:=⟨_,rfl⟩;have a7:Xx Q gd s.d:=Blk.chg T.d n λe=>by subst e;exact T.d.ne_t I (by decide) rfl
 have z:LdA Q B g gd C l S:=by
  rw [L];refine ⟨⟨p0,J,?_⟩,a7,h.ok,h.sg,h.sd,λk a=>⟨(h.lt k a).1,by have:=(h.lt k a).2;have:=R.size;have:=n.size;omega⟩⟩;rcases az with h | ⟨x,a1,a2,a3,a4,a5⟩
  ·exact .inl h
  ·exact .inr ⟨x,a1.chg n λk a=>qI a1 I (by decide) k a,a2.chg n λk a=>qI a2 I (by decide) k a,a3,a4,a5⟩
 have a8:Blk Q w.heap.size qx _:=h1.chg n λe=>U g h.sg e.symm;have ak:Chg S w Q:=(Chg.of_ext (S:=S) R).trans n λk _ a=>by subst a;exact h.sg
 have bl:w.heap.size+1<=Q.heap.size:=by have:=n.size;omega
 have Z:l.b=s.b:=by rw [L];rfl
 have bm:l.err=s.err:=by rw [L];rfl
 rw [<-L] at hK;refine jpO λJ1 a9=>?_;have aa:∀S' w4,LdA w4 B g gd C (qr5 C l) S'->(∀k,S' k->S k\/Q.heap.size<=k)->Chg S Q w4->J1 () w4:=by
  intro S' w4 G V ac;refine a9 _ _ ?_;have al:(qr5 C l).b.length<=32003:=by
   have:=zji C l z.ok;rw [Z] at this;omega
  obtain ⟨E,hE⟩:∃E,E=qr5 C l:=⟨_,rfl⟩;have bt:E.over=true:=by rw [hE,zfy,L];rfl
  rw [<-hE] at G hK al;have ba:Blk w4 w.heap.size qx _:=a8.chg ac λa=>U _ a rfl;have bu:=ac.size;have ab:∀k,S' k->k≠w.heap.size:=λk a e=>by
   rcases V k a with h | h
   ·exact U k h e
   ·omega
  obtain ⟨p,hb,hp⟩:=G.ex;refine lSl (x:=p) (hb.cells 25 _ rfl) ?_;have bb:∀(K:Slc->Ub),(∀o A,Go.Vc.Own qo A w4.heap.size o E.b->Uc w4 A->K o A)->xL p w4 K:=by
   intro K a;rcases hp with ⟨h1,rfl⟩ | ⟨x,a1,a2,a3,a4,a5⟩
   ·refine qsx (p:=⟨none,0,0⟩) (ss:=[]) (xss:=[]) (Rd.nil znh w4) ⟨rfl,λi s xs hs=>by simp at hs⟩ (by simp) (by simp) λr A hr f=>?_;rw [h1] at a;exact a r A hr f
   ·have bc:Rd znh w4 p [x]:=a1.rd;refine qsx (p:=p) (ss:=[x]) (xss:=[E.b]) bc ⟨rfl,λi s xs hs hx=>?_⟩ (by simp;omega) (by simp) λr A hr f=>?_
    ·match i,hs,hx with
     | 0,hs,hx=>cases hs;cases hx;exact a2.rd
     | i+1,hs,hx=>simp at hs
    ·refine a r A ?_ f;simpa using hr
  refine bb _ λo A ho f=>?_;refine K7 _ ?_;simp only [onPtr_some];have am:=hb.ext f;rw [qC];refine qD am (by simp [yP,qh.rep]) λbv an ao bn=>?_;rw [qC];refine qD an (by simp [yP,qh.rep,putL]) λD q bd bw=>?_;have M:Chg (λk=>k=g) A D:=(Go.Vc.Chg.gg ao).trans (Go.Vc.Chg.gg bd) λi _ hi=>hi;have q:Blk D g xc (yP gd C ⟨none,0,0⟩ 0 E.err E.over):=q;have be:Xx D gd E.d:=Blk.chg (Blk.ext G.d f) M λe=>by subst e;exact (Blk.ext G.d f).ne_t am (by decide) rfl
  have bx:=f.size;have bo:=M.size;have ad:LdA D B g gd C { E with b:=[] } S':=⟨⟨⟨none,0,0⟩,q,.inl ⟨rfl,rfl⟩⟩,be,G.ok,G.sg,G.sd,λk a=>⟨(G.lt k a).1,by have:=(G.lt k a).2;omega⟩⟩;have bf:=ho.chg M λk a e=>by have:=(ho.lt k a).1;have:=(G.lt g G.sg).2;omega
  have ae:Blk D w.heap.size qx _:=(ba.ext f).chg M λe=>ab g G.sg e.symm;have af:Chg S w D:=by
   refine ((ak.trans ac λk _ a=>a).trans (Chg.of_ext (S:=S) f) λk _ a=>a).trans M λk _ a=>?_;subst a;exact h.sg
  have u:∀k,S' k->S k\/w.heap.size<=k:=λk a=>by
   rcases V k a with h | h
   ·exact .inl h
   ·right;omega
  refine lI (x:=(E.err:Int)) (q.cells 27 _ rfl) ?_;have ap:∀(m:qf) (e:Nat) (r:Nat×Nat×Nat×List UInt8) W,qs0 W D.heap.size m r->Uc D W->(∀S' w',LdA w' B g gd C { E with b:=[] } S'->qs0 w' w.heap.size m r->(∀k,m.P.blk=some k->¬S' k)->(∀k,S' k->S k\/w.heap.size<=k)->Chg S w w'->K m (e:Int) w') ->
    stK ⟨w.heap.size,0,none⟩ (qf.rep.cells m) W λj=>LdA j B g gd C { E with b:=[] } S'->ldS qf.rep ⟨w.heap.size,0,none⟩ j λr=>K r (e:Int) j:=by
   intro m e r W H F a;refine xR (ae.ext F) rfl λj N c aq ar=>?_;refine qz (r:=qf.rep) (x:=m) N.cells ?_;refine a S' j ar ⟨H.1,H.2.1,(H.2.2.chg c λk a e=>by have:=(H.2.2.lt k a).1;omega).base (by omega)⟩ (λk a hS=>by have h1:=(H.2.2.lt k a).1;have h2:=(ad.lt k hS).2;omega) u ((af.trans (Chg.of_ext (S:=S) F) λk _ a=>a).trans c λk a e=>by omega)
  have O:∀{W j},Uc D W->Chg (λk=>k=w.heap.size) W j->LdA j B g gd C { E with b:=[] } S':=λF c=>(ad.ext F).chg c λk a=>ab k a;refine cO (λv=>?_) λv=>?_
  ·have v:E.err≠0:=λh=>by rw [h] at v;cases v
   rw [if_pos v] at hK;have X:=bdw D;refine lI (x:=(E.err:Int)) ((q.ext X).cells 27 _ rfl) ?_;refine xR (ae.ext X) rfl λw7 bg au bz=>?_;have av:=O X au;obtain ⟨p7,aw,_⟩:=av.ex;refine ⟨aw.cells 27 _ rfl,qz (r:=qf.rep) (x:=⟨0,0,⟨none,0,0⟩⟩) bg.cells ?_⟩;exact hK _ S' w7 av (qs0.zero _ _ _) (λk a=>by cases a) u ((af.trans (Chg.of_ext (S:=S) X) λk _ a=>a).trans au λk a e=>by omega)
  have v:E.err=0:=by
   rcases Nat.eq_zero_or_pos E.err with h | h
   ·exact h
   ·rw [qza (by omega)] at v;cases v
  rw [if_neg (by omega)] at hK;refine jpO λJ2 bh=>?_;have bi:∀(b:Slc) (bs:List UInt8) w8,Go.Vc.Own qo w8 w4.heap.size b bs->bs.length<=1000000->Uc D w8->(∀m S' w',LdA w' B g gd C { E with b:=[] } S'->qs0 w' w.heap.size m (qv5 C bs)->(∀k,m.P.blk=some k->¬S' k)->(∀k,S' k->S k\/w.heap.size<=k)->Chg S w w'->K m (((qv5 C bs).1:Nat):Int) w')->J2 (b,()) w8:=by
   intro b bs w8 ax ay Y a;refine bh _ _ ?_;refine q8o (q.ext Y) hC ax.rd (λk a=>(ax.lt k a).2) ay λm W H F=>?_;have y:=bT Y F;refine xR (ae.ext y) rfl λj N c aq=>?_;refine qz (r:=qf.rep) (x:=m) N.cells ?_;have ah:=H.2.2.base (base':=D.heap.size) Y.size;exact a m S' j (O y c) ⟨H.1,H.2.1,(ah.chg c λk a e=>by have:=(ah.lt k a).1;omega).base (by omega)⟩ (λk a hS=>by have h1:=(ah.lt k a).1;have h2:=(ad.lt k hS).2;omega) u ((af.trans (Chg.of_ext (S:=S) y) λk _ a=>a).trans c λk a e=>by omega)
  refine lI (x:=C.k.Zip) (q.cells 3 _ rfl) (cO (λez=>absurd (eq_of_beq ez) hC.raw.2) λez=>?_);exact bi o E.b D bf (by omega) (Below.refl _ _) hK
 refine lI (x:=(s.err:Int)) (J.cells 27 _ rfl) (cO (λv=>?_) λv=>?_)
 ·have v:s.err=0:=by have:=eq_of_beq v;omega
  have ai:qr5 C l=qx4 C l (qdj l.d):=by unfold qr5;rw [if_neg (by omega)]
  refine qS (x:=some ⟨gd,0,none⟩) (J.cells 0 _ rfl) ?_;refine zes z.d z.ok λt w4 ht bj hd hc=>?_;have ay:=qzu l.d z.ok;refine q2l z (by omega) ht bj hd (zf2 l.d) hc (by rw [Z];omega) (K:=λA=>J1 () A) λS' A h5 V bk=>?_;rw [<-ai] at h5;exact aa S' A h5 V bk
 ·have v:s.err≠0:=λh=>by rw [h] at v;cases v
  have ai:qr5 C l=l:=by unfold qr5;rw [if_pos (by omega)]
  refine aa S Q (by rw [ai];exact z) (λk a=>.inl a) (Chg.refl _ _)
end
structure KE where
 quota:Int
 S:St
 T:List Pl
 ld:Option (LdK×LdS)
 first:qh
structure KF where
 sg:Nat
 sr:Nat
 tg:Nat
 q:Slc
 lg:Nat
 gd:Nat
 LS:Nat->Prop
def qvi (F:KF) (E:KE):List Value:=.int .i64 E.quota::.pointer (some ⟨F.sg,0,none⟩)::.pointer (some ⟨F.tg,0,none⟩)::.pointer (if E.ld.isSome then some ⟨F.lg,0,none⟩ else none)::qh.rep.cells E.first
def ka (S:St) (k:Nat):Prop:=∃p∈S.L,p.2.v.m.P.blk=some k
structure EngM (w:World) (base g:Nat) (F:KF) (E:KE) (n:Nat):Prop where
 blk:Blk w g ja (qvi F E)
 hg:base<=g
 st:StM w base F.sg F.sr E.S
 ok:StOk n E.S
 hs:base<=F.sg/\base<=F.sr
 tb:PlTM w base F.tg F.q E.T
 tl:E.T.length<=n
 lo:∀C s,E.ld=some (C,s)->LdA w base F.lg F.gd C s F.LS/\CfgOk C
 nl:E.ld=none->∀k,¬F.LS k
 dg:¬F.LS g
 ds:¬F.LS F.sg/\¬F.LS F.sr
 dt:∀k,plS F.tg F.q k->¬F.LS k
 di:∀k,ka E.S k->¬F.LS k
def vC (g:Nat) (F:KF) (k:Nat):Prop:=k=g\/onS F.sg F.sr k\/plS F.tg F.q k\/F.LS k
structure EngT (base g:Nat) (w:World) (F F':KF) (E':KE) (n':Nat) (w':World):Prop where
 m:EngM w' base g F' E' n'
 old:∀k,vC g F' k->vC g F k\/w.heap.size<=k
 chg:Chg (vC g F) w w'
 ls:∀k,F'.LS k->F.LS k\/w.heap.size<=k
def qsq (T:List Pl) (ids:List Int):List Pl:=ids.foldl (λT i=>T.filter λp=>!(p.Image==i)) T
def q7b (E:KE):Nat:=match E.ld with
 | some (_,s)=>s.b.length
 | none=>0
def zh2 (x:Int):List UInt8:=if x=0 then [79,75] else if x=6 then [69,78,79,83,80,67] else if x=7 then [69,78,79,69,78,84] else [69,73,78,86,65,76]
def q9m (k:qh) (x:Int) (word:List UInt8):List UInt8:=qu4 (toL k) (if word=[] then zh2 x else word)
namespace KE
def reserve (E:KE) (n:Int):KE×Int :=
 if n<0 then (E,1) else if n>E.quota then (E,6)
 else ({ E with S:=(E.S.reserve (wi (n+q7b E))).1,T:=qsq E.T (E.S.reserve (wi (n+q7b E))).2.1 },(E.S.reserve (wi (n+q7b E))).2.2)
def idle (E:KE):KE:={ E with ld:=none,S:={ E.S with res:=0 } }
end KE
section
variable {w w':World} {base g n:Nat} {F F':KF} {E E':KE}
theorem EngM.below (h:EngM w base g F E n):∀k,vC g F k->base<=k/\k<w.heap.size:=by
 rintro k (rfl | (rfl | rfl) | hk | hk)
 ·exact ⟨h.hg,h.blk.lt⟩
 ·exact ⟨h.hs.1,h.st.blk.lt⟩
 ·exact ⟨h.hs.2,h.st.map.lt⟩
 ·exact h.tb.lt k hk
 ·cases hl:E.ld with
  | none=>exact absurd hk (h.nl hl k)
  | some x=>exact (h.lo x.1 x.2 hl).1.lt k hk
theorem EngT.refl (h:EngM w base g F E n):EngT base g w F F E n w:=⟨h,λk a=>.inl a,Chg.refl _ _,λk a=>.inl a⟩
theorem EngT.trans {w1 w2:World} {F1 F2:KF} {E1 E2:KE} {n1 n2:Nat} (h:EngT base g w F F1 E1 n1 w1) (h2:EngT base g w1 F1 F2 E2 n2 w2):EngT base g w F F2 E2 n2 w2:=by
 have d:=h.chg.size;refine ⟨h2.m,λk b=>?_,h.chg.trans h2.chg λk b c=>?_,λk b=>?_⟩
 ·rcases h2.old k b with a | a
  ·exact h.old k a
  ·omega
 ·rcases h.old k c with a | a
  ·exact a
  ·omega
 ·rcases h2.ls k b with a | a
  ·exact h.ls k a
  ·omega
theorem EngM.ext (h:EngM w base g F E n) (hB:Uc w w'):EngM w' base g F E n :=
 ⟨h.blk.ext hB,h.hg,h.st.ext hB,h.ok,h.hs,h.tb.ext hB,h.tl,λC s a=>⟨(h.lo C s a).1.ext hB,(h.lo C s a).2⟩,h.nl,h.dg,h.ds,h.dt,h.di⟩
theorem EngT.ext {w1 w2:World} {F1:KF} {E1:KE} {n1:Nat} (h:EngT base g w F F1 E1 n1 w1) (hB:Uc w1 w2):EngT base g w F F1 E1 n1 w2 :=
 ⟨h.m.ext hB,h.old,h.chg.trans (Chg.of_ext hB) λk _ a=>a,h.ls⟩
theorem EngT.of_ext (h:EngM w base g F E n) (hB:Uc w w'):EngT base g w F F E n w':=(EngT.refl h).ext hB
theorem EngM.drew (h:EngM w base g F E n):EngM w.drew base g F E n:=h.ext (kj w)
theorem EngM.mono (h:EngM w base g F E n) {m:Nat} (hm:n<=m) (hok:StOk m E.S):EngM w base g F E m:=⟨h.blk,h.hg,h.st,hok,h.hs,h.tb,le_trans h.tl hm,h.lo,h.nl,h.dg,h.ds,h.dt,h.di⟩
theorem EngM.g_tg (h:EngM w base g F E n):g≠F.tg:=h.blk.ne_t h.tb.blk (by decide)
theorem EngM.g_q (h:EngM w base g F E n):∀k,F.q.blk=some k->k≠g:=qI h.tb.own h.blk (by decide)
theorem EngM.g_sg (h:EngM w base g F E n):g≠F.sg:=h.blk.ne_t h.st.blk (by decide)
theorem EngM.g_sr (h:EngM w base g F E n):g≠F.sr:=λe=>h.st.map.ne_blk h.blk e.symm
theorem EngM.tg_sg (h:EngM w base g F E n):F.tg≠F.sg:=h.tb.blk.ne_t h.st.blk (by decide)
theorem EngM.tg_sr (h:EngM w base g F E n):F.tg≠F.sr:=λe=>h.st.map.ne_blk h.tb.blk e.symm
theorem EngM.q_sg (h:EngM w base g F E n):∀k,F.q.blk=some k->k≠F.sg:=qI h.tb.own h.st.blk (by decide)
theorem EngM.q_sr (h:EngM w base g F E n):∀k,F.q.blk=some k->k≠F.sr:=λk b e=>by
 obtain ⟨c,a⟩:=h.tb.own.blk_t b;exact h.st.map.ne_blk a e.symm
theorem EngM.img_tg (h:EngM w base g F E n) {p:Int×Im} (hp:p∈E.S.L) {k:Nat} (hk:p.2.v.m.P.blk=some k):k≠F.tg:=(h.st.img p hp).ne_b h.tb.blk (by decide) k hk
theorem EngM.img_g (h:EngM w base g F E n) {p:Int×Im} (hp:p∈E.S.L) {k:Nat} (hk:p.2.v.m.P.blk=some k):k≠g:=(h.st.img p hp).ne_b h.blk (by decide) k hk
theorem EngT.tab (h:EngM w base g F E n) {q':Slc} {T':List Pl} (ht:PlTM w' base F.tg q' T') (hq:∀k,q'.blk=some k->w.heap.size<=k) (hc:Chg (λk=>k=F.tg) w w') (hl:T'.length<=n) :
  EngT base g w F { F with q:=q' } { E with T:=T' } n w':=by
 have c:∀k,vC g { F with q:=q' } k->vC g F k\/w.heap.size<=k:=by
  rintro k (a | a | (a | a) | a)
  ·exact .inl (.inl a)
  ·exact .inl (.inr (.inl a))
  ·exact .inl (.inr (.inr (.inl (.inl a))))
  ·exact .inr (hq k a)
  ·exact .inl (.inr (.inr (.inr a)))
 refine ⟨⟨h.blk.chg hc h.g_tg,h.hg,h.st.keep hc (λe=>h.tg_sg e.symm) (λe=>h.tg_sr e.symm) λp d k a e=>h.img_tg d a e,h.ok,h.hs,ht,hl,
  λC s b=>⟨(h.lo C s b).1.chg hc λk a e=>h.dt k (.inl e) a,(h.lo C s b).2⟩,h.nl,h.dg,h.ds,?_,h.di⟩,c,hc.mono λk _ e=>.inr (.inr (.inl (.inl e))),λk a=>.inl a⟩
 rintro k (a | a) hLS
 ·exact h.dt k (.inl a) hLS
 ·have f:=hq k a;have i:=(h.below k (.inr (.inr (.inr hLS)))).2;omega
theorem EngT.store (h:EngM w base g F E n) {S':St} {m:Nat} (hst:StM w' base F.sg F.sr S') (hok:StOk m S') (hnm:n<=m) (hc:Chg (onS F.sg F.sr) w w') (hi:∀k,ka S' k->ka E.S k\/w.heap.size<=k) :
  EngT base g w F F { E with S:=S' } m w':=by
 refine ⟨⟨h.blk.chg hc ?_,h.hg,hst,hok,h.hs,h.tb.chg hc ?_,le_trans h.tl hnm,λC s b=>⟨(h.lo C s b).1.chg hc ?_,(h.lo C s b).2⟩,h.nl,h.dg,h.ds,h.dt,?_⟩,λk a=>.inl a,hc.mono λk _ a=>.inr (.inl a),λk a=>.inl a⟩
 ·rintro (e | e)
  ·exact h.g_sg e
  ·exact h.g_sr e
 ·rintro k (a | a) (e | e)
  ·exact h.tg_sg (a.symm.trans e)
  ·exact h.tg_sr (a.symm.trans e)
  ·exact h.q_sg k a e
  ·exact h.q_sr k a e
 ·rintro k a (e | e)
  ·exact h.ds.1 (e ▸ a)
  ·exact h.ds.2 (e ▸ a)
 ·intro k a c;rcases hi k a with d | d
  ·exact h.di k d c
  ·have:=(h.below k (.inr (.inr (.inr c)))).2;omega
theorem EngM.other (h:EngM w base g F E n) {b:Nat} {t:TypeId} {vs:List Value} (hb:Blk w b t vs) (ht:t≠ja/\t≠zU/\t≠jL/\t≠qJ/\t≠qF) (hLS:¬F.LS b) (hc:Chg (λk=>k=b) w w'):EngM w' base g F E n:=by
 obtain ⟨d,f,i,j,l⟩:=ht;refine ⟨h.blk.chg hc λe=>hb.ne_t h.blk d e.symm,h.hg,h.st.keep hc (λe=>hb.ne_t h.st.blk f e.symm) (λe=>h.st.map.ne_blk hb e) (λp m k a e=>(h.st.img p m).ne_b hb (λe=>l e.symm) k a e),h.ok,h.hs,h.tb.chg hc ?_,h.tl,
  λC s c=>⟨(h.lo C s c).1.chg hc λk a e=>hLS (e ▸ a),(h.lo C s c).2⟩,h.nl,h.dg,h.ds,h.dt,h.di⟩
 rintro k (a | a) e
 ·exact hb.ne_t h.tb.blk i (e.symm.trans a)
 ·exact qI h.tb.own hb (λe=>j e.symm) k a e
theorem EngT.other {F1:KF} {E1:KE} {n1:Nat} {w1 w2:World} (h:EngT base g w F F1 E1 n1 w1) {b:Nat} {t:TypeId} {vs:List Value} (hb:Blk w1 b t vs) (ht:t≠ja/\t≠zU/\t≠jL/\t≠qJ/\t≠qF) (hLS:¬F1.LS b) (hw:w.heap.size<=b) (hc:Chg (λk=>k=b) w1 w2) :
  EngT base g w F F1 E1 n1 w2:=⟨h.m.other hb ht hLS hc,h.old,h.chg.trans hc λk a e=>by omega,h.ls⟩
theorem Z5 (hT:Tab w) {k:qh} (hw:YW (toL k)) (x:Int) (word:List UInt8) (hwl:word.length<=100000) {e:Option Addr} {K:qg->Ub}
  (hK:∀q w',Rd qo w' q (q9m k x word)->Uc w w'->(∀j,q.blk=some j->w.heap.size<=j)->K ⟨q,0,0,false⟩ w'):zP e k x (qX word) w K:=by
 refine qjh _ _ _ _ ?_;refine nwb λL z f M=>nwb λG g l N=>?_;have A:=zC f l;have B:=z.ext l;refine jpO λJ O=>?_;have m:∀d:List UInt8,d=(if word=[] then zh2 x else word)->J (qX d,()) G:=by
  intro d o;refine O _ _ ?_;refine qz (x:=k) B.cells ?_;have p:d.length<=100000:=by
   rw [o];split
   ·unfold zh2
    repeat' split
    all_goals (simp)
   ·exact hwl
  refine zag (hT.ext A) hw d p λq P Q s t=>?_;have u:=g.ext s;have H:=zC A s;refine qD u (by simp) λw4 C D R=>?_;have v:Chg (λi=>i=L.heap.size) P w4:=Chg.of_grown D λk S=>by cases S;rfl
  have T:=H.trans (v.below (by have:=H.size;omega) λi X e=>by have:=f.size;omega);refine qz (x:=⟨q,0,0,false⟩) C.cells ?_;refine hK q w4 ?_ T (λj U=>le_trans A.size (t j U));have E:=Q.chg v λa V e=>by
   have:=t a.block (slk.2 ⟨a,V,rfl⟩);omega
  unfold q9m;rw [<-o];exact E
 refine cO (λb=>?_) λb=>?_
 ·have b:=eq_of_beq b;rw [kN] at b;have b:word=[]:=by rw [b,ByteArray.toList_eq]
  refine qy0 _ ?_;have y:∀d:List UInt8,d=zh2 x->J (qX d,()) G:=λd h=>m d (by rw [if_pos b,h]);unfold zh2 at y;refine cO (λe=>y _ (by rw [if_pos (eq_of_beq e)])) λe=>?_;have F:=beq_eq_false_iff_ne.1 e;refine cO (λe=>y _ (by rw [if_neg F,if_pos (eq_of_beq e)])) λe=>?_;have I:=beq_eq_false_iff_ne.1 e;refine cO (λe=>y _ (by rw [if_neg F,if_neg I,if_pos (eq_of_beq e)])) λe=>?_;exact y _ (by rw [if_neg F,if_neg I,if_neg (beq_eq_false_iff_ne.1 e)])
 ·have b:=beq_eq_false_iff_ne.1 b;rw [kN] at b;exact m word (by rw [if_neg (λh=>b (by rw [h,ByteArray.toList_eq]))])
theorem q6x (h:EngM w base g F E n) {K:Int->Ub} (hK:K (q7b E:Int) w):ZP (some ⟨g,0,none⟩) w K:=by
 refine qkd _ ?_;unfold q7b at hK;cases hl:E.ld with
 | none =>
  rw [hl] at hK;refine qS (by have:=h.blk.cells 3 _ rfl;rw [hl] at this;exact this) (cT rfl hK)
 | some x =>
  obtain ⟨C,s⟩:=x;rw [hl] at hK;have a:w.cell? ((⟨g,0,none⟩:Addr).add 3)=some (.pointer (some ⟨F.lg,0,none⟩)):=by have:=h.blk.cells 3 _ rfl;rw [hl] at this;exact this
  refine qS a (cF rfl (qS a ?_));exact q99 (h.lo C s hl).1 hK
theorem qvu (h:EngM w base g F E n) (hn:n<=100000) {ids:Slc} {L:List Int} (hr:Rd jr w ids L) (hne:∀a,ids.a=some a->a.block≠F.tg) {K:Ub}
  (hK:∀q' w',EngT base g w F { F with q:=q' } { E with T:=qsq E.T L } n w'->K w'):kE (some ⟨g,0,none⟩) ids w K:=by
 refine qkl _ _ ?_;have v:=hr.n;have y:L.length<=9223372036854775807:=by rw [<-v];exact le_trans hr.nc hr.cm
 refine lpR (λ(f:Int×Unit) w1=>∃(k:Nat) (j:Slc),f.1=(k:Int)/\k<=L.length/\EngT base g w F { F with q:=j } { E with T:=qsq E.T (L.take k) } n w1/\Rd jr w1 ids L) (λf=>L.length-f.1.toNat)
  ⟨0,F.q,rfl,zero_le _,EngT.refl h,hr⟩ ?_
 rintro ⟨i,u⟩ w1 ⟨k,j,r,J,b,c⟩ I hI;subst r;refine cO (λe=>?_) λe=>?_
 ·have e:=oTq e;have l:k<L.length:=by omega
  obtain ⟨x,s⟩:∃x,L[k]?=some x:=⟨_,List.getElem?_eq_getElem l⟩;refine c.ix rfl (by omega) (by omega) λt=>?_;have z:L[(k:Int).toNat]'(by omega)=x:=(List.getElem?_eq_some_iff.1 (by simpa using s)).2;rw [z] at t;refine lI (by simpa using t 0 _ rfl) ?_;refine qS (b.m.blk.cells 2 _ rfl) ?_;refine q86 b.m.tb (le_trans b.m.tl hn) (le_trans b.m.hg (le_of_lt b.m.blk.lt)) x λm A M B C d=>?_;have D:=EngT.tab b.m B C d (le_trans (List.length_filter_le _ _) b.m.tl);rw [qM (by omega)];refine hI _ _ ⟨k+1,A,by simp,by omega,?_,c.chg d λa G=>hne a G⟩ (by dsimp only;omega);have H:qsq E.T (L.take (k+1))=(qsq E.T (L.take k)).filter λp=>!(p.Image==x):=by
   unfold qsq;rw [take_add_one,s,List.foldl_append];rfl
  rw [H];exact b.trans D
 ·have e:=oFq e;have o:k=L.length:=by omega
  rw [o,take_length] at b;exact hK j w1 b
end
theorem qus (n:Int):∀(f:Nat) (S:St) (G:List Int),∀p∈(S.roomF n f G).1.L,p∈S.L
 | 0,S,G,p,hp=>hp
 | f+1,S,G,p,hp=>by
  unfold St.roomF at hp;split at hp
  ·have:=qus n f _ _ p hp;exact ((qm3 _ _ _).1 this).2
  ·exact hp
theorem qw4 (S:St) (n:Int):∀p∈(S.reserve n).1.L,p∈S.L:=by
 intro p a;unfold St.reserve at a;split at a
 ·exact a
 ·split at a
  ·exact a
  ·exact qus n _ ({ S with res:=n }:St) _ p a
section
variable {w w':World} {base g n:Nat} {F F':KF} {E E':KE}
theorem QW (h:EngM w base g F E n) (hn:n<=1000) (m:Int) {K:Int->Ub} (hK:∀F' w',EngT base g w F F' (E.reserve m).1 n w'->F'.lg=F.lg->F'.gd=F.gd->F'.LS=F.LS->K (E.reserve m).2 w'):zB (some ⟨g,0,none⟩) m w K:=by
 refine qd4 _ _ ?_;unfold KE.reserve at hK;refine cO (λe=>?_) λe=>?_
 ·rw [if_pos (oTq e)] at hK;exact hK F w (EngT.refl h) rfl rfl rfl
 rw [if_neg (oFq e)] at hK;refine lI (h.blk.cells 0 _ rfl) (cO (λe=>?_) λe=>?_)
 ·rw [if_pos (oTq e)] at hK;exact hK F w (EngT.refl h) rfl rfl rfl
 rw [if_neg (oFq e)] at hK;have b:=h.drew;refine qS (b.blk.cells 1 _ rfl) (q6x b ⟨b.blk.cells 1 _ rfl,?_⟩);refine q4l b.st h.ok hn λq u c d i=>?_;have f:=EngT.store b c (qzf h.ok _) (le_refl n) i (λk j=>by
  obtain ⟨p,l,o⟩:=j;exact .inl ⟨p,qw4 _ _ p l,o⟩)
 refine qvu f.m (by omega) d.rd (λa r=>?_) λv s t=>?_
 ·have y:=(d.lt a.block (slk.2 ⟨a,r,rfl⟩)).1;have z:=h.tb.blk.lt;have A:w.drew.heap.size=w.heap.size:=rfl;omega
 ·exact hK _ s ((EngT.of_ext h (kj w)).trans (f.trans t)) rfl rfl rfl
theorem q2p (h:EngM w base g F E n) {K:Ub} (hK:∀F' w',EngT base g w F F' E.idle n w'->F'.q=F.q->F'.tg=F.tg->K w'):kx (some ⟨g,0,none⟩) w K:=by
 refine qke _ ?_;simp only [onPtr_some];refine qD h.blk (by show (3+1:Nat)<=26;omega) λf b j u=>?_;have c:Chg (λi=>i=g) w f:=Chg.of_grown j λk a=>by cases a;rfl
 let l:KF:={ F with LS:=λ_=>False }
 let t:KE:={ E with ld:=none }
 have d:EngT base g w F l t n f:=by
  refine ⟨⟨b,h.hg,h.st.keep c (λe=>h.g_sg e.symm) (λe=>h.g_sr e.symm) (λp v k a e=>h.img_g v a e),h.ok,h.hs,h.tb.chg c ?_,h.tl,(λC s y=>by cases y),(λ_ k a=>a),(λa=>a),⟨λa=>a,λa=>a⟩,(λk _ a=>a),(λk _ a=>a)⟩,?_,c.mono λk _ e=>.inl e,λk a=>a.elim⟩
  ·rintro k (a | a) e
   ·exact h.g_tg (e.symm.trans a)
   ·exact h.g_q k a e
  ·rintro k (a | a | a | a)
   ·exact .inl (.inl a)
   ·exact .inl (.inr (.inl a))
   ·exact .inl (.inr (.inr (.inl a)))
   ·exact a.elim
 refine qS (d.m.blk.cells 1 _ rfl) ?_;refine qt6 d.m.st λz o r A=>?_;have B:=EngT.store d.m o (qsh h.ok 0) (le_refl n) r λk a=>.inl a;exact hK l z (d.trans B) rfl rfl
end
def zn3 (n more size:Int):Int:=wi ((wi (wi (wi (n+more)+size)-1)).tdiv size)
def zaa (W H dx dy cw ch:Int):Int×Int :=
 if btw W 1 16384=false then (0,0) else if btw H 1 16384=false then (0,0) else if btw dx 0 64=false then (0,0) else if btw dy 0 64=false then (0,0) else if btw cw 1 64=false then (0,0) else if btw ch 1 64=false then (0,0)
 else (zn3 H dy ch,zn3 W dx cw)
def qqv (at_ n side:Int):Int:=if n<1 then wi (side-at_) else if wi (side-at_)<n then wi (side-at_) else n
def pl0:Pl:=⟨0,0,false,0,0,0,0,0,0,0,0,0,0,0⟩
def qzz (S:St) (id:Int):qf:=(((zy S.L id).map Im.v).getD quc).m
def zcz (m:qf) (k:qh) (v:qu):Bool:=decide (k.X<0) || (decide (k.Y<0) || (decide (k.X>=m.W) || (decide (k.Y>=m.H) || (decide (k.DX>=v.CellW) || decide (k.DY>=v.CellH)))))
def rcK (m:qf) (k:qh) (v:qu):Int×Int:=zaa (qqv k.X k.PW m.W) (qqv k.Y k.PH m.H) k.DX k.DY v.CellW v.CellH
def qzx (m:qf) (k:qh) (v:qu):Int:=if k.Rows<1 then (rcK m k v).1 else k.Rows
def q15 (m:qf) (k:qh) (v:qu):Int:=if k.Cols<1 then (rcK m k v).2 else k.Cols
def zk9 (m:qf) (k:qh) (v:qu):Bool:=decide (qzx m k v>1048576) || (decide (q15 m k v>1048576) || (!btw v.CellW 1 64 || !btw v.CellH 1 64))
def zo9 (m:qf) (k:qh) (id:Int) (v:qu) (r c:Int):Pl:=⟨id,k.Place,v.View.Alt,wi (v.View.Top+v.View.Row),v.View.Col,r,c,k.X,k.Y,qqv k.X k.PW m.W,qqv k.Y k.PH m.H,k.DX,k.DY,k.Z⟩
def qfv (S:St) (k:qh) (id:Int) (v:qu):Pl×Int :=
 if zcz (qzz S id) k v then (pl0,1) else if zk9 (qzz S id) k v then (pl0,1) else (zo9 (qzz S id) k id v (qzx (qzz S id) k v) (q15 (qzz S id) k v),0)
structure KR where
 reply:List UInt8
 rows:Int
 cols:Int
 moves:Bool
def kr0:KR:=⟨[],0,0,false⟩
def qlk (w:World) (r:qg) (R:KR):Prop:=Rd qo w r.Reply R.reply/\r.Rows=R.rows/\r.Cols=R.cols/\r.Moves=R.moves
def qem (k:qh) (x:Int) (word:List UInt8):KR:=⟨q9m k x word,0,0,false⟩
section
variable {w w':World} {base g n:Nat} {F F':KF} {E E':KE}
theorem qlk.ext {r:qg} {R:KR} (h:qlk w r R) (hB:Uc w w'):qlk w' r R:=⟨h.1.ext hB,h.2⟩
theorem qlk.nil (w:World):qlk w ⟨⟨none,0,0⟩,0,0,false⟩ kr0:=⟨Rd.nil _ _,rfl,rfl,rfl⟩
theorem kM {v lo hi:Int} {K:Bool->Ub} (hK:K (btw v lo hi) w):xe v lo hi w K:=by
 refine qsg _ _ _ ?_;unfold btw at hK;refine cO (λe=>?_) λe=>?_
 ·rw [e] at hK;exact hK
 ·rw [e] at hK;exact hK
theorem qwg {a b c:Int} (hc:c≠0) {K:Int->Ub} (hK:K (zn3 a b c) w):VJ a b c w K:=by
 refine quy _ _ _ ?_;exact ⟨hc,hK⟩
theorem qz0 {W H dx dy cw ch:Int} {K:Int->Int->Ub} (hK:∀w',Uc w w'->K (zaa W H dx dy cw ch).1 (zaa W H dx dy cw ch).2 w'):VO W H dx dy cw ch w K:=by
 refine qu6 _ _ _ _ _ _ ?_;refine nwb λk l g p=>?_;have hK:=hK k g;unfold zaa at hK;refine lpR (λ(d:Int×Unit) w2=>w2=k/\(d.1=0\/d.1=1/\btw W 1 16384=true\/d.1=2/\btw W 1 16384=true/\btw H 1 16384=true)) (λd=>2-d.1.toNat) ⟨rfl,.inl rfl⟩ ?_;rintro ⟨i,u⟩ w2 ⟨rfl,m⟩ I hI;dsimp only at m ⊢;have c:∀{b:Bool},(!b)=true->b=false:=by intro b;cases b<;>simp
 have a:∀{b:Bool},(!b)=false->b=true:=by intro b;cases b<;>simp
 rcases m with rfl | ⟨rfl,f⟩ | ⟨rfl,f,q⟩
 ·refine cT rfl ⟨⟨by decide,by decide⟩,lI (l.cells 0 _ rfl) (kM (cO (λe=>?_) λe=>?_))⟩
  ·rw [if_pos (c e)] at hK;exact hK
  ·exact hI _ _ ⟨rfl,.inr (.inl ⟨rfl,a e⟩)⟩ (by show 2-(i64.wrap (0+1)).toNat<2-(0:Int).toNat;decide)
 ·refine cT rfl ⟨⟨by decide,by decide⟩,lI (l.cells 1 _ rfl) (kM (cO (λe=>?_) λe=>?_))⟩
  ·rw [if_neg (by rw [f];decide),if_pos (c e)] at hK;exact hK
  ·exact hI _ _ ⟨rfl,.inr (.inr ⟨rfl,f,a e⟩)⟩ (by show 2-(i64.wrap (1+1)).toNat<2-(1:Int).toNat;decide)
 ·rw [if_neg (by rw [f];decide),if_neg (by rw [q];decide)] at hK;refine cF rfl (jpO λJ r=>?_);refine kM (cO (λe=>?_) λe=>?_)
  ·rw [if_pos (c e)] at hK;exact hK
  rw [if_neg (by rw [a e];decide)] at hK;refine kM (cO (λe=>?_) λe=>?_)
  ·rw [if_pos (c e)] at hK;exact hK
  rw [if_neg (by rw [a e];decide)] at hK;refine kM (cO (λe=>?_) λn=>?_)
  ·rw [if_pos (c e)] at hK;exact hK
  rw [if_neg (by rw [a n];decide)] at hK;refine kM (cO (λe=>?_) λo=>?_)
  ·rw [if_pos (c e)] at hK;exact hK
  rw [if_neg (by rw [a o];decide)] at hK;have h:ch≠0:=by
   have:=a o;unfold btw at this;simp at this;omega
  have j:cw≠0:=by
   have:=a n;unfold btw at this;simp at this;omega
  exact r _ _ (qwg h (qwg j hK))
theorem q3t {a b c:Int} {K:Int->Ub} (hK:K (qqv a b c) w):qbg a b c w K:=by
 refine qxu _ _ _ ?_;unfold qqv at hK;refine cO (λe=>?_) λe=>?_
 ·rw [if_pos (oTq e)] at hK;exact hK
 ·rw [if_neg (oFq e)] at hK;exact hK
theorem qel {a b:Bool} {J:Bool->Prop} {X:Prop} (hJ:J (a || b)) (h:J b->X):cond a (J true) X:=by
 cases a
 ·exact h hJ
 ·exact hJ
theorem zau (h:EngM w base g F E n) (k:qh) (id:Int) (v:qu) {K:Pl->Int->Ub} (hK:∀w',Uc w w'->K (qfv E.S k id v).1 (qfv E.S k id v).2 w'):Zo (some ⟨g,0,none⟩) k id v w K:=by
 refine qgr _ _ _ _ ?_;simp only [onPtr_some];refine nwb λw1 a2 ao bi=>nwb λw2 a3 ae bj=>nwb λw3 af P bk=>?_;have B3:=vN ao ae P;have h3:=h.ext B3;unfold qfv at hK;refine qS (x:=some ⟨F.sg,0,none⟩) (h3.blk.cells 1 _ rfl) (qui h3.st id λw4 z=>?_);have em:(((zy E.S.L id).map Im.v).getD quc).m=qzz E.S id:=rfl;rw [em];generalize qzz E.S id=m at *;refine jS (vs:=qf.rep.cells m) rfl λc Q A bl=>?_;have B6:=vN B3 z A;have a:=(((a2.ext ae).ext P).ext z).ext A;have f:=((a3.ext P).ext z).ext A;have ah:=(af.ext z).ext A;have z1:=ao.size;have z2:=ae.size;have z3:=P.size;have z4:=z.size;have z6:=A.size;have lk:=a.lt;have lv:=f.lt;have ai:=ah.lt;have lm:=Q.lt;refine jpO λJ1 a4=>jpO λJ5 a5=>?_;have y:J5 (zcz m k v,()) c:=by
  refine a5 _ _ ?_;cases hbad:zcz m k v
  ·rw [hbad] at hK;refine cF rfl (a4 _ _ ?_);refine lI (x:=k.Place) (a.cells 10 _ rfl) ?_;refine jw (x:=v.View.Alt) (f.cells 0 _ rfl) (lI (x:=v.View.Top) (f.cells 1 _ rfl) (lI (x:=v.View.Row) (f.cells 4 _ rfl) (lI (x:=v.View.Col) (f.cells 5 _ rfl) ?_)));refine lI (x:=k.Rows) (a.cells 18 _ rfl) (lI (x:=k.Cols) (a.cells 19 _ rfl) (lI (x:=k.X) (a.cells 12 _ rfl) (lI (x:=k.Y) (a.cells 13 _ rfl) (lI (x:=k.DX) (a.cells 16 _ rfl) (lI (x:=k.DY) (a.cells 17 _ rfl) (lI (x:=k.Z) (a.cells 20 _ rfl) ?_))))))
   let P0:Pl:=⟨id,k.Place,v.View.Alt,wi (v.View.Top+v.View.Row),v.View.Col,k.Rows,k.Cols,k.X,k.Y,0,0,k.DX,k.DY,k.Z⟩
   refine jS (vs:=qm.rep.cells P0) rfl λw9 a6 u bm=>?_;have p:=(a.ext u).drew;have a7:=(f.ext u).drew;have a8:=(ah.ext u).drew;have aj:=(Q.ext u).drew;have B9:=(zC B6 u).drew;refine lI (x:=k.X) (p.cells 12 _ rfl) (lI (x:=k.PW) (p.cells 14 _ rfl) (lI (x:=m.W) (aj.cells 0 _ rfl) ?_));refine lI (x:=k.Y) (p.cells 13 _ rfl) (lI (x:=k.PH) (p.cells 15 _ rfl) (lI (x:=m.H) (aj.cells 1 _ rfl) ?_));refine q3t ⟨aj.cells 1 _ rfl,p.cells 15 _ rfl,p.cells 13 _ rfl,q3t ?_⟩;show stK ⟨c.heap.size,9,none⟩ _ _ _;refine qD a6.drew (by show (9+1:Nat)<=14;omega) λak B ap be=>?_;have aq:Chg (λi=>i=c.heap.size) w9.drew ak:=Chg.of_grown ap λk hk=>by cases hk;rfl
   let P1:Pl:={ P0 with W:=qqv k.X k.PW m.W }
   refine qD B (by show (10+1:Nat)<=14;omega) λC d ar bf=>?_;have au:Chg (λi=>i=c.heap.size) ak C:=Chg.of_grown ar λk hk=>by cases hk;rfl
   let P2:Pl:={ P1 with H:=qqv k.Y k.PH m.H }
   have R:Chg (λi=>i=c.heap.size) w9.drew C:=aq.trans au λi _ hi=>hi;have q:∀{j:Nat},j<c.heap.size->¬j=c.heap.size:=λh e=>by omega
   have T:=p.chg R (q lk);have D:=a7.chg R (q lv);have av:=a8.chg R (q ai);have a9:Uc w C:=B9.trans (R.below (by have:=u.size;show w.heap.size<=w9.heap.size;omega) λi hi e=>by omega);refine lI (x:=qqv k.X k.PW m.W) (d.cells 9 _ rfl) (lI (x:=qqv k.Y k.PH m.H) (d.cells 10 _ rfl) (lI (x:=k.DX) (T.cells 16 _ rfl) (lI (x:=k.DY) (T.cells 17 _ rfl) (lI (x:=v.CellW) (D.cells 6 _ rfl) (lI (x:=v.CellH) (D.cells 7 _ rfl) ?_)))));refine qz0 λaw t=>?_;have G:=d.ext t;have U:=D.ext t;have V:=av.ext t;have al:=zC a9 t;refine jpO λJ2 ba=>?_;have k2:∀wx,Uc w wx->Blk wx c.heap.size qJ (qm.rep.cells { P2 with Rows:=qzx m k v })->Blk wx w1.heap.size jg (qu.rep.cells v)->Blk wx w2.heap.size qJ (qm.rep.cells pl0)->J2 (()) wx:=by
    intro I am l aa ab;refine ba _ _ (jpO λJ3 bb=>?_);have k3:∀wx,Uc w wx->Blk wx c.heap.size qJ (qm.rep.cells { P2 with Rows:=qzx m k v,Cols:=q15 m k v })->Blk wx w1.heap.size jg (qu.rep.cells v)->Blk wx w2.heap.size qJ (qm.rep.cells pl0)->J3 (()) wx:=by
     intro s ax o ac ad;refine bb _ _ (jpO λJ4 bc=>?_);have k4:J4 (zk9 m k v,()) s:=by
      refine bc _ _ ?_;cases hfar:zk9 m k v
      ·rw [hfar] at hK;refine cF rfl (qz (r:=qm.rep) o.cells ?_);refine zN (r:=qm.rep) ad rfl rfl λan M ay=>?_;exact hK an (b1o ax M (by omega))
      ·rw [hfar] at hK;simp only [if_true] at hK;refine cT rfl ?_;refine zN (r:=qm.rep) (x:=pl0) ad rfl rfl λan M ay=>?_;exact hK an (b1o ax M (by omega))
     unfold zk9 at k4;refine lI (x:=qzx m k v) (o.cells 5 _ rfl) (qel (J:=λb=>J4 (b,()) s) k4 λk4=>?_);refine lI (x:=q15 m k v) (o.cells 6 _ rfl) (qel (J:=λb=>J4 (b,()) s) k4 λk4=>?_);refine lI (x:=v.CellW) (ac.cells 6 _ rfl) (kM (qel (J:=λb=>J4 (b,()) s) k4 λk4=>?_));exact lI (x:=v.CellH) (ac.cells 7 _ rfl) (kM k4)
    refine lI (x:=k.Cols) (l.cells 6 _ rfl) (cO (λe=>?_) λe=>?_)
    ·show stK ⟨c.heap.size,6,none⟩ _ _ _;refine qD l (by show (6+1:Nat)<=14;omega) λs o az bg=>?_;have N:Chg (λi=>i=c.heap.size) I s:=Chg.of_grown az λk hk=>by cases hk;rfl
     refine k3 s (am.trans (N.below am.size λi hi e=>by omega)) ?_ (aa.chg N (q lv)) (ab.chg N (q ai));have ec:q15 m k v=(rcK m k v).2:=by unfold q15;rw [if_pos (oTq e)]
     rw [ec];exact o
    ·have ec:q15 m k v=k.Cols:=by unfold q15;rw [if_neg (oFq e)]
     refine k3 I am ?_ aa ab;rw [ec];exact l
   refine lI (x:=k.Rows) (G.cells 5 _ rfl) (cO (λe=>?_) λe=>?_)
   ·show stK ⟨c.heap.size,5,none⟩ _ _ _;refine qD G (by show (5+1:Nat)<=14;omega) λI l a1 bh=>?_;have O:Chg (λi=>i=c.heap.size) aw I:=Chg.of_grown a1 λk hk=>by cases hk;rfl
    refine k2 I (al.trans (O.below al.size λi hi e=>by omega)) ?_ (U.chg O (q lv)) (V.chg O (q ai));have ec:qzx m k v=(rcK m k v).1:=by unfold qzx;rw [if_pos (oTq e)]
    rw [ec];exact l
   ·have ec:qzx m k v=k.Rows:=by unfold qzx;rw [if_neg (oFq e)]
    refine k2 aw al ?_ U V;rw [ec];exact G
  ·rw [hbad] at hK;simp only [if_true] at hK;refine cT rfl ?_;refine zN (r:=qm.rep) (x:=pl0) ah rfl rfl λw7 bd bo=>?_;exact hK w7 (b1o B6 bd (by omega))
 unfold zcz at y;refine lI (x:=k.X) (a.cells 12 _ rfl) (qel (J:=λb=>J5 (b,()) c) y λy=>?_);refine lI (x:=k.Y) (a.cells 13 _ rfl) (qel (J:=λb=>J5 (b,()) c) y λy=>?_);refine lI (x:=k.X) (a.cells 12 _ rfl) (lI (x:=m.W) (Q.cells 0 _ rfl) (qel (J:=λb=>J5 (b,()) c) y λy=>?_));refine lI (x:=k.Y) (a.cells 13 _ rfl) (lI (x:=m.H) (Q.cells 1 _ rfl) (qel (J:=λb=>J5 (b,()) c) y λy=>?_));refine lI (x:=k.DX) (a.cells 16 _ rfl) (lI (x:=v.CellW) (f.cells 6 _ rfl) (qel (J:=λb=>J5 (b,()) c) y λy=>?_));exact lI (x:=k.DY) (a.cells 17 _ rfl) (lI (x:=v.CellH) (f.cells 7 _ rfl) y)
end
theorem StOk.mono {n m:Nat} {S:St} (h:StOk n S) (hm:n<=m):StOk m S :=
 ⟨h.q0,h.q1,h.used,h.fits,le_trans h.len hm,h.clk0,by have:=h.clk;omega,h.srt,λp a=>⟨(h.keys p a).1,by have:=(h.keys p a).2;omega⟩,h.stamps,h.borns,h.st1,h.bo1⟩
def znv (k:qh) (p:Pl):KR:=⟨q9m k 0 [],p.Rows,p.Cols,k.Stay !=1⟩
def zo8 (E:KE) (p:Pl):KE:={ E with T:=(E.T.filter λo=>!qte p o)++[p] }
def xK (E:KE) (k:qh) (id:Int) (v:qu):KE×KR×Bool :=
 if (qfv E.S k id v).2=0 then
  (if q3i (qfv E.S k id v).1 then (zo8 E (qfv E.S k id v).1,znv k (qfv E.S k id v).1,true) else (E,qem k 1 [],false))
 else (E,qem k (qfv E.S k id v).2 [],false)
section
variable {w w':World} {base g n:Nat} {F F':KF} {E E':KE}
theorem Tab.below4 (h:Tab w) (hB:Below 4 w w'):Tab w':=var?_below (g:=3) hB (by kernel_rfl) (by decide) h
theorem EngT.belowB (h:EngM w base g F E n) {n':Nat} (hT:EngT base g w F F' E' n' w'):Below base w w':=hT.chg.below (le_trans h.hg (le_of_lt h.blk.lt)) λi b a=>by have:=(h.below i a).1;omega
theorem Tab.stepK (hTab:Tab w) (h:EngM w base g F E n) (hb:4<=base) {n':Nat} (hT:EngT base g w F F' E' n' w'):Tab w':=hTab.below4 ((EngT.belowB h hT).mono hb)
theorem EngM.up (h:EngM w base g F E n) {m:Nat} (hm:n<=m):EngM w base g F E m:=h.mono hm (h.ok.mono hm)
theorem EngT.up {F1:KF} {E1:KE} {n1:Nat} (h:EngT base g w F F1 E1 n1 w') {m:Nat} (hm:n1<=m):EngT base g w F F1 E1 m w':=⟨h.m.up hm,h.old,h.chg,h.ls⟩
theorem qry (h:EngM w base g F E n) (hn:n<=90000) (hT:Tab w) (h4:4<=base) {k:qh} (hw:YW (toL k)) (id:Int) (v:qu) {K:qg->Bool->Ub}
  (hK:∀r F' w',qlk w' r (xK E k id v).2.1->EngT base g w F F' (xK E k id v).1 (n+1) w'->(∀j,r.Reply.blk=some j->w.heap.size<=j/\¬vC g F' j)->K r (xK E k id v).2.2 w'):jq (some ⟨g,0,none⟩) k id v w K:=by
 refine qij _ _ _ _ ?_;simp only [onPtr_some];refine nwb λw1 a1 al bk=>nwb λw2 a2 ae bl=>nwb λw3 am L bm=>?_;have an:=(a1.ext ae).ext L;have a3:=a2.ext L;have B3:=vN al ae L;refine qz (r:=qh.rep) (x:=k) an.cells (qz (r:=qu.rep) (x:=v) a3.cells ?_);refine zau (h.ext B3) k id v λw4 M=>?_;unfold xK at hK;generalize (qfv E.S k id v).1=p at *;generalize (qfv E.S k id v).2=x at *;refine jS (vs:=qm.rep.cells p) rfl λw6 ao N bn=>?_;have B6:=vN B3 M N;have O:=(an.ext M).ext N;have P:=(am.ext M).ext N;have h6:EngT base g w F F E (n+1) w6:=(EngT.of_ext h B6).up (by omega);have z1:=al.size;have z2:=ae.size;have z3:=L.size;have z4:=M.size;have z6:=N.size;have Q:∀{b:Nat},w.heap.size<=b->¬F.LS b:=λhb hk=>by have:=(h.below _ (.inr (.inr (.inr hk)))).2;omega
 have R:qB≠ja/\qB≠zU/\qB≠jL/\qB≠qJ/\qB≠qF:=by decide
 have bo:=am.lt;have bp:=P.lt;have bq:=O.lt;refine jpO λJ hJ=>?_;have a4:∀y:Int,y≠0->(∀r F' w',qlk w' r (qem k y [])->EngT base g w F F' E (n+1) w'->(∀j,r.Reply.blk=some j->w.heap.size<=j/\¬vC g F' j)->K r false w')->J (y,()) w6:=by
  intro y hy hK;refine hJ _ _ (cT (by simpa using hy) (qz (r:=qh.rep) (x:=k) O.cells ?_));refine Z5 (hT.ext B6) hw y [] (by simp) λq w8 hq t c=>?_;have h8:=h6.ext t;have u:=P.ext t;refine zN (r:=qg.rep) (x:=⟨q,0,0,false⟩) u rfl rfl λw9 z a5=>?_;exact hK _ F w9 ⟨hq.chg z λa ha e=>by have:=c a.block (slk.2 ⟨a,ha,rfl⟩);omega,rfl,rfl,rfl⟩ (h8.other u R (Q (by omega)) (by omega) z) (λj V=>⟨by have:=c j V;omega,λhs=>by have:=(h6.m.below _ hs).2;have:=c j V;omega⟩)
 by_cases hx:x=0
 ·rw [if_pos hx] at hK;refine cT (by simpa using hx) (qS (x:=some ⟨F.tg,0,none⟩) (h6.m.drew.blk.cells 2 _ rfl) ?_);refine qz (r:=qm.rep) (x:=p) ao.drew.cells ?_;have A:=h6.ext (kj w6);refine zam A.m.tb (by have:=h.tl;omega) (le_trans A.m.hg (le_of_lt A.m.blk.lt)) p (λhm w7 a6=>?_) λhm q' w7 a7 a8 B=>?_
  ·rw [if_neg (by rw [hm];decide)] at hK;have f:Uc w6 w7:=zC (kj w6) a6;refine hJ _ _ (cT rfl (qz (r:=qh.rep) (x:=k) (O.ext f).cells ?_));refine Z5 (hT.ext (zC B6 f)) hw 1 [] (by simp) λq w8 hq t c=>?_;have h8:=(h6.ext f).ext t;have u:=(P.ext f).ext t;refine zN (r:=qg.rep) (x:=⟨q,0,0,false⟩) u rfl rfl λw9 z a5=>?_;have z7:=f.size;exact hK _ F w9 ⟨hq.chg z λa ha e=>by have:=c a.block (slk.2 ⟨a,ha,rfl⟩);omega,rfl,rfl,rfl⟩ (h8.other u R (Q (by omega)) (by omega) z) (λj V=>⟨by have:=c j V;omega,λhs=>by have:=((h6.ext f).m.below _ hs).2;have:=c j V;omega⟩)
  ·rw [if_pos hm] at hK;have a9:((E.T.filter λo=>!qte p o)++[p]).length<=n+1:=by
    rw [length_append,length_singleton];have:=List.length_filter_le (λo=>!qte p o) E.T;have:=h.tl;omega
   have h7:=A.trans (EngT.tab A.m a7 a8 B a9);have ba:=hT.stepK h h4 h7;have z7:=B.size;have br:F.tg<w.heap.size:=h.tb.blk.lt;have af:=O.drew.chg B λe=>by omega
   have ap:=P.drew.chg B λe=>by omega
   have aq:=ao.drew.chg B λe=>by omega
   refine hJ _ _ (cF rfl (qz (r:=qh.rep) (x:=k) af.cells ?_));refine Z5 ba hw 0 [] (by simp) λq d hq W c=>?_;refine jS (vs:=qg.rep.cells ⟨q,0,0,false⟩) rfl λah X C be=>?_;have l:=zC W C;have Y:=(af.ext l).drew;have D:=(aq.ext l).drew;have Z:=(ap.ext l).drew;have bb:=(h7.ext l).ext (kj ah);have ar:=(hq.ext C).drew;refine lI (x:=p.Rows) (D.cells 5 _ rfl) (lI (x:=p.Cols) (D.cells 6 _ rfl) (lI (x:=k.Stay) (Y.cells 21 _ rfl) ?_));have bs:=W.size;have bt:=C.size;have bu:=af.lt;have bv:=aq.lt;have bw:=ap.lt;refine qD X.drew (by show (1+1:Nat)<=4;omega) λai G au bf=>?_;have s:Chg (λi=>i=d.heap.size) ah.drew ai:=Chg.of_grown au λk hk=>by cases hk;rfl
   have aa:=Y.chg s λe=>by omega
   have av:=D.chg s λe=>by omega
   have bg:=Z.chg s λe=>by omega
   refine ⟨aa.cells 21 _ rfl,av.cells 6 _ rfl,?_⟩;refine qD G (by show (2+1:Nat)<=4;omega) λaj H aw bh=>?_;have ab:Chg (λi=>i=d.heap.size) ai aj:=Chg.of_grown aw λk hk=>by cases hk;rfl
   refine ⟨(aa.chg ab λe=>by omega).cells 21 _ rfl,?_⟩;refine qD H (by show (3+1:Nat)<=4;omega) λU I ax bi=>?_;have ay:Chg (λi=>i=d.heap.size) aj U:=Chg.of_grown ax λk hk=>by cases hk;rfl
   have ak:Chg (λi=>i=d.heap.size) ah.drew U:=(s.trans ab λi _ hi=>hi).trans ay λi _ hi=>hi;have ac:=Z.chg ak λe=>by omega
   have bc:=bb.other X.drew R (Q (by omega)) (by omega) ak;have az:Rd qo U q (q9m k 0 []):=qo9 ar ak λhp a ha e=>by
    have:=q82 hq hp a ha;omega
   refine qz (r:=qg.rep) (x:=⟨q,p.Rows,p.Cols,k.Stay !=1⟩) I.cells ?_;refine zN (r:=qg.rep) (x:=⟨q,p.Rows,p.Cols,k.Stay !=1⟩) ac rfl rfl λbd ad bj=>?_;exact hK _ _ bd ⟨az.chg ad λa ha e=>by have:=c a.block (slk.2 ⟨a,ha,rfl⟩);omega,rfl,rfl,rfl⟩ (bc.other ac R (Q (by omega)) (by omega) ad) (λj V=>⟨by have:=c j V;omega,λhs=>by have:=(h7.m.below _ hs).2;have:=c j V;omega⟩)
 ·rw [if_neg hx] at hK;exact cF (by simpa using hx) (a4 x hx hK)
end
theorem q3s (n:Int):∀(f:Nat) (S:St) (G:List Int),(S.roomF n f G).2.length<=G.length+f
 | 0,S,G=>by show G.length<=_;omega
 | f+1,S,G=>by
  unfold St.roomF;split
  ·have:=q3s n f (S.drop (Qz S.L)) (G++[Qz S.L]);rw [length_append,length_singleton] at this;omega
  ·show G.length<=_;omega
def q1h (S:St) (id:Int):St:=if id=0 then { S with res:=0 } else ({ S with res:=0 }:St).drop id
theorem zib (S:St) (id:Int):∀p∈(q1h S id).L,p∈S.L:=by
 intro p a;unfold q1h at a;split at a
 ·exact a
 ·exact ((qm3 _ _ _).1 a).2
theorem zim (S:St) (id:Int):(q1h S id).L.length<=S.L.length:=by
 unfold q1h;split
 ·exact le_refl _
 ·exact List.length_filter_le _ _
theorem qi6 (S:St) (id:Int) (n:Nat):∀p∈(S.putPre id n).1.L,p∈S.L:=λp a=>zib S id p (qus _ _ _ _ p a)
theorem zb2 (S:St) (id:Int) (n:Nat):(S.putPre id n).2.length<=S.L.length:=by
 have h:=q3s (n:Int) (q1h S id).L.length (q1h S id) [];have a:=zim S id;show ((q1h S id).roomF n (q1h S id).L.length []).2.length<=_;simp only [length_nil] at h;omega
def idK (E:KE) (k:qh) (bs:List UInt8):Int:=Yo (E.S.putPre k.Id bs.length).1.L k.Id
def qp4 (E:KE) (k:qh) (W H:Int) (bs:List UInt8) (P:Slc):KE :=
 { E with S:=(E.S.putPre k.Id bs.length).1.putAt (idK E k bs) k.Number W H P bs,T:=qsq E.T ((E.S.putPre k.Id bs.length).2++[idK E k bs]) }
def yV (E:KE) (k:qh) (bs:List UInt8):qh:=if k.Id=0/\k.Number≠0 then { k with Id:=idK E k bs } else k
def qqs (E:KE) (k:qh) (W H:Int) (bs:List UInt8) (P:Slc) (v:qu):KE×KR :=
 if qad E.S k.Id k.Number W H bs.length≠0 then (E,qem k (qad E.S k.Id k.Number W H bs.length) [])
 else if k.Action≠84 then (qp4 E k W H bs P,qem (yV E k bs) 0 [])
 else ((xK (qp4 E k W H bs P) (yV E k bs) (idK E k bs) v).1,(xK (qp4 E k W H bs P) (yV E k bs) (idK E k bs) v).2.1)
theorem zdk {k:qh} (hw:YW (toL k)) {id:Int} (h:-9223372036854775808<=id/\id<=9223372036854775807):YW (toL { k with Id:=id }):=by
 have e:toL { k with Id:=id }=(toL k).set 8 id:=rfl;intro i;rw [e,List.getElem?_set];by_cases hi:8=i
 ·rw [if_pos hi];exact h
 ·rw [if_neg hi];exact hw i
section
variable {w w':World} {base g n:Nat} {F F':KF} {E E':KE}
theorem qyf {S:St} (h:StOk n S) (id:Int):StOk n (q1h S id):=by
 unfold q1h;split
 ·exact qsh h 0
 ·exact qpc (qsh h 0) id
def qea (t:TypeId):Prop:=t≠ja/\t≠zU/\t≠jL/\t≠qJ/\t≠qF
instance (t:TypeId):Decidable (qea t):=by unfold qea;infer_instance
theorem EngM.far (h:EngM w base g F E n) {T:Nat->Prop} (hc:Chg T w w') (hT:∀k,T k->(∃t vs,Blk w k t vs/\qea t)/\¬F.LS k):EngM w' base g F E n:=by
 have f:∀{b:Nat} {t:TypeId} {vs:List Value},Blk w b t vs->¬qea t->¬T b:=λ{b t vs} hb hn hTb=>by
  obtain ⟨⟨l,i,a,j⟩,_⟩:=hT _ hTb;by_cases e:l=t
  ·exact hn (e ▸ j)
  ·exact a.ne_t hb e rfl
 refine ⟨h.blk.chg hc (f h.blk (by decide)),h.hg,h.st.keep hc (f h.st.blk (by decide)) (λe=>?_) (λp o k c e=>?_),h.ok,h.hs,h.tb.chg hc ?_,h.tl,
  λC s m=>⟨(h.lo C s m).1.chg hc λk c e=>(hT k e).2 c,(h.lo C s m).2⟩,h.nl,h.dg,h.ds,h.dt,h.di⟩
 ·obtain ⟨⟨l,i,a,_⟩,_⟩:=hT _ e;exact h.st.map.ne_blk a rfl
 ·obtain ⟨q,d⟩:=((h.st.img p o).blk k c).2;exact f d (by decide) e
 ·rintro k (c | c) e
  ·exact f h.tb.blk (by decide) (c ▸ e)
  ·obtain ⟨q,d⟩:=h.tb.own.blk_t c;exact f d (by decide) e
theorem EngT.far {F1:KF} {E1:KE} {n1:Nat} {w1 w2:World} (h:EngT base g w F F1 E1 n1 w1) {T:Nat->Prop} (hc:Chg T w1 w2) (hT:∀k,T k->(∃t vs,Blk w1 k t vs/\qea t)/\¬F1.LS k) (hw:∀k,T k->w.heap.size<=k) :
  EngT base g w F F1 E1 n1 w2:=⟨h.m.far hc hT,h.old,h.chg.trans hc λk a e=>by have:=hw k e;omega,h.ls⟩
theorem EngM.not_in4 (h:EngM w base g F E n) {b:Nat} {t:TypeId} {vs:List Value} (hb:Blk w b t vs) (ht:t≠ja/\t≠zU/\t≠jL/\t≠qJ) (hLS:¬F.LS b):¬vC g F b:=by
 obtain ⟨a,c,d,f⟩:=ht;rintro (e | (e | e) | (e | e) | e)
 ·exact hb.ne_t h.blk a e
 ·exact hb.ne_t h.st.blk c e
 ·exact h.st.map.ne_blk hb e.symm
 ·exact hb.ne_t h.tb.blk d e
 ·exact qI h.tb.own hb (λe=>f e.symm) b e rfl
 ·exact hLS e
theorem EngM.not_in (h:EngM w base g F E n) {b:Nat} {t:TypeId} {vs:List Value} (hb:Blk w b t vs) (ht:qea t) (hLS:¬F.LS b):¬vC g F b:=by
 obtain ⟨a,c,d,f,i⟩:=ht;rintro (e | (e | e) | (e | e) | e)
 ·exact hb.ne_t h.blk a e
 ·exact hb.ne_t h.st.blk c e
 ·exact h.st.map.ne_blk hb e.symm
 ·exact hb.ne_t h.tb.blk d e
 ·exact qI h.tb.own hb (λe=>f e.symm) b e rfl
 ·exact hLS e
theorem zgp (h:EngM w base g F E n) (hn:n<=900) (hT:Tab w) (h4:4<=base) {k:qh} (hw:YW (toL k)) {m:qf} {bs:List UInt8} (hP:Rd qo w m.P bs) (hPg:∀a,m.P.a=some a->¬vC g F a.block) (v:qu) {K:qg->Ub}
  (hK:∀P r F' w',qlk w' r (qqs E k m.W m.H bs P v).2->EngT base g w F F' (qqs E k m.W m.H bs P v).1 (n+2) w'->(∀j,r.Reply.blk=some j->w.heap.size<=j/\¬vC g F' j)->(∀j,P.blk=some j->w.heap.size<=j)->K r w'):ZK (some ⟨g,0,none⟩) k m v w K:=by
 refine qi8 _ _ _ _ ?_;simp only [onPtr_some];refine nwb λw1 bb ao b4=>nwb λw2 bc ah b5=>nwb λw3 bd J b6=>nwb λw4 ai u b7=>?_;have B4:=zC (vN ao ah J) u;have z:=((bb.ext ah).ext J).ext u;have be:=(bc.ext J).ext u;have ap:=bd.ext u;have A:=(h.ext B4).drew;have aj:=B4.drew;have z1:=ao.size;have z2:=ah.size;have z3:=J.size;have z4:=u.size;have bf:=z.lt;have bg:=ap.lt;have bh:=ai.lt;have nE:∀{b:Nat},w.heap.size<=b->¬vC g F b:=λU I=>by have:=(h.below _ I).2;omega
 have s:∀{b:Nat},w.heap.size<=b->¬F.LS b:=λU I=>nE U (.inr (.inr (.inr I)));have M:qB≠ja/\qB≠zU/\qB≠jL/\qB≠qJ/\qB≠qF:=by decide
 have bi:zg≠ja/\zg≠zU/\zg≠jL/\zg≠qJ/\zg≠qF:=by decide
 refine qS (x:=some ⟨F.sg,0,none⟩) (A.blk.cells 1 _ rfl) ?_;refine lI (x:=k.Id) (z.drew.cells 8 _ rfl) (lI (x:=k.Number) (z.drew.cells 9 _ rfl) (qz (r:=qf.rep) (x:=m) be.drew.cells ?_));refine q7i A.st h.ok (by omega) (le_trans A.hg (le_of_lt A.blk.lt)) (hP.ext aj) (λ_ a N hs=>hPg a N (.inr (.inl hs))) (λw5 he _ O=>?_) λP q w5 he bj aq hq B ar=>?_
 ·
  have B5:=zC aj O;refine cT (by simpa using he) (qz (r:=qh.rep) (x:=k) (z.drew.ext O).cells ?_);refine Z5 (hT.ext B5) hw _ [] (by simp) λq w6 hq au ak=>?_;have av:=(ai.drew.ext O).ext au;have h6:EngT base g w F F E (n+2) w6:=(EngT.of_ext h (zC B5 au)).up (by omega);refine zN (r:=qg.rep) (x:=⟨q,0,0,false⟩) av rfl rfl λw7 aw b8=>?_;have e4:w4.drew.heap.size=w4.heap.size:=rfl;have z5:=O.size;refine hK ⟨none,0,0⟩ _ F w7 ?_ ?_ (λj c=>⟨by have:=ak j c;omega,λhs=>by have:=(h.below _ hs).2;have:=ak j c;omega⟩) λj c=>by cases c
  ·unfold qqs;rw [if_pos he];exact ⟨hq.chg aw λa N e=>by have:=ak a.block (slk.2 ⟨a,N,rfl⟩);omega,rfl,rfl,rfl⟩
  ·unfold qqs;rw [if_pos he];exact h6.other av M (s (by omega)) (by omega) aw
 ·
  refine cF rfl ?_;have e4:w4.drew.heap.size=w4.heap.size:=rfl;have ax:∀j,P.blk=some j->w.heap.size<=j:=λj c=>by have:=ar j c;omega
  have b9:=zb2 E.S k.Id bs.length;have ca:=h.ok.len;have ay:StOk n (E.S.putPre k.Id bs.length).1:=qcv _ _ (qyf h.ok k.Id);have h5:=(EngT.of_ext h aj).trans (EngT.store A bj aq (by omega) B (λj c=>by
   obtain ⟨p,hp,U⟩:=c;obtain ⟨a,b⟩:=p;rcases (y4 ay.srt _ _ a b).1 hp with ⟨rfl,rfl⟩ | ⟨_,bk⟩
   ·exact .inr (ar j U)
   ·exact .inl ⟨(a,b),qi6 _ _ _ _ bk,U⟩))
  have bl:=aq.keys (Yo (E.S.putPre k.Id bs.length).1.L k.Id,⟨⟨k.Number,⟨m.W,m.H,P⟩,(E.S.putPre k.Id bs.length).1.clock+1,(E.S.putPre k.Id bs.length).1.clock+1⟩,bs⟩) ((y4 ay.srt _ _ _ _).2 (.inl ⟨rfl,rfl⟩));dsimp only at bl;have z5:=B.size;have bm:=z.drew.chg B λe=>nE (le_refl _) (.inr (.inl e));have bn:=ap.drew.chg B λe=>nE (by omega:w.heap.size<=w2.heap.size) (.inr (.inl e));have bo:=ai.drew.chg B λe=>nE (by omega:w.heap.size<=w3.heap.size) (.inr (.inl e));refine qgq (E:=jr) qb1 hq rfl z5 (by rw [qhb];omega) (by unfold maxLen;omega) λr w9 az Q cb=>?_;have h9:=h5.far Q (λj c=>⟨by obtain ⟨cs,bp⟩:=hq.blk_t c;exact ⟨_,cs,bp,by decide⟩,s (by have:=(hq.lt j c).1;omega)⟩) λj c=>by have:=(hq.lt j c).1;omega
  have nq:∀{j:Nat},j<w4.heap.size->¬q.blk=some j:=λc e=>by have:=(hq.lt _ e).1;omega
  have bq:=bm.chg Q (nq bf);have br:=bn.chg Q (nq bg);have bt:=bo.chg Q (nq bh);refine qvu h9.m (by omega) az.rd (λa N=>qI az h9.m.tb.blk (by decide) a.block (slk.2 ⟨a,N,rfl⟩)) λq' R T=>?_;have d:=bq.chg T.chg (nE (le_refl _));have V:=br.chg T.chg (nE (by omega:w.heap.size<=w2.heap.size));have X:=bt.chg T.chg (nE (by omega:w.heap.size<=w3.heap.size));have Y:=h9.trans T;have ek:qqs E k m.W m.H bs P v=if k.Action≠84 then (qp4 E k m.W m.H bs P,qem (yV E k bs) 0 []) else ((xK (qp4 E k m.W m.H bs P) (yV E k bs) (idK E k bs) v).1,(xK (qp4 E k m.W m.H bs P) (yV E k bs) (idK E k bs) v).2.1):=by
   unfold qqs;rw [if_neg (λt=>t he)]
  refine jpO λJ1 bu=>?_;have j1:∀wx,Blk wx w.heap.size zg (qh.rep.cells (yV E k bs))->Blk wx w2.heap.size jg (qu.rep.cells v)->Blk wx w3.heap.size qB [(.slice none 0 0),(Ua 0),(Ua 0),(.bool false)]->EngT base g w F { F with q:=q' } (qp4 E k m.W m.H bs P) (n+1) wx->J1 (()) wx:=by
   intro al f a1 o l;refine bu _ _ ?_;have Z:=hT.stepK h h4 l;have a2:YW (toL (yV E k bs)):=by
    unfold yV;split
    ·exact zdk hw (by unfold idK;omega)
    ·exact hw
   have ea:(yV E k bs).Action=k.Action:=by
    unfold yV;split<;>rfl
   have bz:=o.lt;refine lI (x:=(yV E k bs).Action) (f.cells 0 _ rfl) ?_;rw [ea];by_cases hac:k.Action=84
   ·rw [if_neg (λt=>t hac)] at ek;refine cF (by simpa using hac) (qz (r:=qh.rep) (x:=yV E k bs) f.cells (qz (r:=qu.rep) (x:=v) a1.cells ?_));refine qry l.m (by omega) Z h4 a2 (idK E k bs) v λr a3 cc a4 am an=>?_;have a5:=l.trans am;have n3:¬vC g { F with q:=q' } w3.heap.size:=l.m.not_in o M (s (by omega));have a6:=o.chg am.chg n3;refine jS (vs:=qg.rep.cells r) rfl λcd a7 C b0=>?_;refine qz (r:=qg.rep) (x:=r) a7.cells ?_;have aa:=a6.ext C;refine zN (r:=qg.rep) (x:=r) aa rfl rfl λbv ab b1=>?_;have a8:¬a3.LS w3.heap.size:=λI=>by
     rcases am.ls _ I with I | I
     ·exact s (by omega:w.heap.size<=w3.heap.size) I
     ·omega
    refine hK P r a3 bv ?_ ?_ (λj c=>⟨by have:=(an j c).1;have:=l.chg.size;omega,(an j c).2⟩) ax
    ·rw [ek];have ac:=a4.ext C;exact ⟨ac.1.chg ab λa N e=>by have:=(an a.block (slk.2 ⟨a,N,rfl⟩)).1;omega,ac.2⟩
    ·rw [ek];exact (a5.ext C).other aa M a8 (by omega) ab
   ·rw [if_pos hac] at ek;refine cT (by simpa using hac) (qz (r:=qh.rep) (x:=yV E k bs) f.cells ?_);refine Z5 Z a2 0 [] (by simp) λq2 ce bw ad D=>?_;have ae:=o.ext ad;refine zN (r:=qg.rep) (x:=⟨q2,0,0,false⟩) ae rfl rfl λa9 af b2=>?_;refine hK P _ _ a9 ?_ (?_:EngT base g w F { F with q:=q' } _ (n+2) a9) (λj c=>⟨by have:=D j c;have:=l.chg.size;omega,λhs=>by have:=(l.m.below _ hs).2;have:=D j c;omega⟩) ax
    ·rw [ek];exact ⟨bw.chg af λa N e=>by have:=D a.block (slk.2 ⟨a,N,rfl⟩);omega,rfl,rfl,rfl⟩
    ·rw [ek];exact ((l.ext ad).up (by omega)).other ae M (s (by omega)) (by omega) af
  refine jpO λJ2 bx=>?_;have j2:∀b:Bool,(b=true↔k.Id=0/\k.Number≠0)->J2 (b,()) R:=by
   intro b U;refine bx _ _ ?_;cases b
   ·refine cF rfl (j1 R ?_ V X Y);have:yV E k bs=k:=by unfold yV;rw [if_neg (λt=>by have:=U.2 t;cases this)]
    rw [this];exact d
   ·refine cT rfl ?_;show stK ⟨w.heap.size,8,none⟩ _ _ _;refine qD d (by show (8+1:Nat)<=22;omega) λal f ba b3=>?_;have G:Chg (λi=>i=w.heap.size) R al:=Chg.of_grown ba λk I=>by cases I;rfl
    refine j1 al ?_ (V.chg G λe=>by omega) (X.chg G λe=>by omega) (Y.other d bi (s (le_refl _)) (le_refl _) G);have:yV E k bs={ k with Id:=idK E k bs }:=by unfold yV;rw [if_pos (U.1 rfl)]
    rw [this];exact f
  refine lI (x:=k.Id) (d.cells 8 _ rfl) (cO (λe=>?_) λe=>?_)
  ·have e:=eq_of_beq e;refine lI (x:=k.Number) (d.cells 9 _ rfl) (j2 _ ⟨λt=>⟨e,by simpa using t⟩,λt=>by simpa using t.2⟩)
  ·exact j2 _ ⟨λt=>(by cases t),λt=>absurd t.1 (beq_eq_false_iff_ne.1 e)⟩
end
def zn2:List UInt8:=[69,66,65,68,80,78,71]
def q0e (k:qh) (x:Int):List UInt8:=if k.Format=100/\(x=2\/x=3\/x=4\/x=8\/x=1) then zn2 else []
def q19 (E:KE) (C:LdK) (s:LdS) (k:qh) (P:Slc) (v:qu):KE×KR :=
 if ((qtb C s).1:Int)≠0\/k.Action=113 then (E.idle,qem k ((qtb C s).1:Int) (q0e k ((qtb C s).1:Int)))
 else qqs E.idle k ((qtb C s).2.1:Int) ((qtb C s).2.2.1:Int) (qtb C s).2.2.2 P v
section
variable {w w':World} {base g n:Nat} {F F':KF} {E E':KE}
theorem EngT.load (h:EngM w base g F E n) {C:LdK} {s s':LdS} (hl:E.ld=some (C,s)) {S':Nat->Prop} (ha:LdA w' base F.lg F.gd C s' S') (hS:∀k,S' k->F.LS k\/w.heap.size<=k) (hc:Chg F.LS w w') :
  EngT base g w F { F with LS:=S' } { E with ld:=some (C,s') } n w':=by
 have c:∀k,k<w.heap.size->¬F.LS k->¬S' k:=λk a i j=>by
  rcases hS k j with b | b
  ·exact i b
  ·omega
 have d:Blk w' g ja (qvi { F with LS:=S' } { E with ld:=some (C,s') }):=by
  have b:=h.blk.chg hc h.dg;have e:qvi { F with LS:=S' } { E with ld:=some (C,s') }=qvi F E:=by
   unfold qvi;rw [hl];rfl
  rw [e];exact b
 refine ⟨⟨d,h.hg,h.st.keep hc h.ds.1 h.ds.2 (λp f k a e=>h.di k ⟨p,f,a⟩ e),h.ok,h.hs,h.tb.chg hc h.dt,h.tl,λl m b=>?_,(λb=>by cases b),c _ h.blk.lt h.dg,⟨c _ h.st.blk.lt h.ds.1,c _ h.st.map.lt h.ds.2⟩,λk a=>c _ (h.tb.lt k a).2 (h.dt k a),λk a=>?_⟩,?_,hc.mono λk _ a=>.inr (.inr (.inr a)),hS⟩
 ·cases b;exact ⟨ha,(h.lo C s hl).2⟩
 ·obtain ⟨p,f,d⟩:=a;exact c _ ((h.st.img p f).lt k d).2 (h.di k ⟨p,f,d⟩)
 ·rintro k (a | a | a | a)
  ·exact .inl (.inl a)
  ·exact .inl (.inr (.inl a))
  ·exact .inl (.inr (.inr (.inl a)))
  ·rcases hS k a with b | b
   ·exact .inl (.inr (.inr (.inr b)))
   ·exact .inr b
theorem za2 (k:qh) (x:Int):(q0e k x).length<=100000:=by
 unfold q0e;split
 ·show (7:Nat)<=_;omega
 ·show (0:Nat)<=_;omega
theorem zhj (h:EngM w base g F E n) (hn:n<=900) (hT:Tab w) (h4:4<=base) {C:LdK} {s:LdS} (hl:E.ld=some (C,s)) (hsm:s.b.length<=32000) {k:qh} (hw:YW (toL k)) (v:qu) {K:qg->Ub}
  (hK:∀P r F' w',qlk w' r (q19 E C s k P v).2->EngT base g w F F' (q19 E C s k P v).1 (n+2) w'->(∀j,r.Reply.blk=some j->w.heap.size<=j/\¬vC g F' j)->(∀j,P.blk=some j->w.heap.size<=j)->K r w'):JS (some ⟨g,0,none⟩) k v w K:=by
 refine qmc _ _ _ ?_;simp only [onPtr_some];refine nwb λw1 aq ab be=>nwb λw2 ar O bf=>nwb λw3 ac B bg=>?_;have B3:=vN ab O B;have ad:=(aq.ext O).ext B;have ae:=ar.ext B;have h3:=h.ext B3;have z1:=ab.size;have z2:=O.size;have z3:=B.size;have bh:=ad.lt;have bi:=ae.lt;have bj:=ac.lt;have nE:∀{b:Nat},w.heap.size<=b->¬vC g F b:=λD hk=>by have:=(h.below _ hk).2;omega
 have G:∀{b:Nat},w.heap.size<=b->¬F.LS b:=λD hk=>nE D (.inr (.inr (.inr hk)));have Q:qea qB:=by decide
 have bk:qea zg:=by decide
 refine qS (x:=some ⟨F.lg,0,none⟩) (by have:=h3.blk.cells 3 _ rfl;rw [hl] at this;exact this) ?_;obtain ⟨au,av⟩:=h3.lo C s hl;refine ze3 au (le_trans h3.hg (le_of_lt h3.blk.lt)) av hsm λm S' w4 J af aw ah u=>?_;have ax:=(EngT.of_ext h B3).trans (EngT.load h3 hl J ah u);have ay:=ad.chg u (G (le_refl _));have az:=ae.chg u (G (by omega));have a1:=ac.chg u (G (by omega));have z4:=u.size;refine jS (vs:=qf.rep.cells m) rfl λw6 ai o bl=>?_;have R:=ay.ext o;have aj:=az.ext o;have ak:=a1.ext o;have h6:=ax.ext o;have L:=af.2.2.ext o;have z6:=o.size;obtain ⟨a2,a3,bm⟩:=af;obtain ⟨x,hx⟩:∃x:Int,x=((qtb C s).1:Int):=⟨_,rfl⟩;rw [<-hx];refine jpO λJ1 a4=>?_;have S:J1 (qX (q0e k x),()) w6:=by
  refine a4 _ _ (jpO λJ2 a5=>?_);refine q2p h6.m λF7 w7 i bn bc=>?_;have T:∀{b:Nat} {t:TypeId} {vs:List Value},w.heap.size<=b->b<w3.heap.size->Blk w6 b t vs->qea t->¬vC g { F with LS:=S' } b:=λh1 h2 D ht=>h6.m.not_in D ht λp=>by
   rcases ah _ p with h5 | h5
   ·exact G h1 h5
   ·omega
  have U:=h6.trans i;have V:=R.chg i.chg (T (le_refl _) (by omega) R (by decide));have a6:=aj.chg i.chg (T (by omega) (by omega) aj (by decide));have I:=ak.chg i.chg (T (by omega) (by omega) ak (by decide));have a7:Blk w7 w4.heap.size qx (qf.rep.cells m):=ai.chg i.chg (h6.m.not_in ai (by decide) λp=>by
   have:=(J.lt _ p).2;omega)
  have al:=hT.stepK h h4 U;have y:∀{b:Nat},w.heap.size<=b->b<w3.heap.size->¬F7.LS b:=λh1 h2 p=>by
   have:∀j,¬F7.LS j:=i.m.nl rfl;exact this _ p
  have bo:=I.lt;refine jpO λJ3 a8=>?_;have j3:J3 (decide (x≠0\/k.Action=113),()) w7:=by
   refine a8 _ _ ?_;by_cases D:x≠0\/k.Action=113
   ·rw [dTq D];refine cT rfl (qz (r:=qh.rep) (x:=k) V.cells ?_);refine Z5 al hw x (q0e k x) (za2 k x) λq w8 hq am X=>?_;have an:=I.ext am;refine zN (r:=qg.rep) (x:=⟨q,0,0,false⟩) an rfl rfl λw9 ao bp=>?_;have ek:q19 E C s k ⟨none,0,0⟩ v=(E.idle,qem k x (q0e k x)):=by
     unfold q19;rw [<-hx,if_pos D]
    have z7:=i.chg.size;refine hK ⟨none,0,0⟩ _ F7 w9 ?_ ?_ (λj l=>⟨by have:=X j l;omega,λp=>by have:=(i.m.below _ p).2;have:=X j l;omega⟩) λj l=>by cases l
    ·rw [ek];exact ⟨hq.chg ao λa A e=>by have:=X a.block (slk.2 ⟨a,A,rfl⟩);omega,rfl,rfl,rfl⟩
    ·rw [ek];exact ((U.ext am).up (by omega)).other an Q (y (by omega) (by omega)) (by omega) ao
   ·rw [dFq D];refine cF rfl (a5 _ _ ?_);refine qz (r:=qh.rep) (x:=k) V.cells (qz (r:=qf.rep) (x:=m) a7.cells (qz (r:=qu.rep) (x:=v) a6.cells ?_));have M:=L.chg i.chg λj l p=>by
     obtain ⟨cs,Y⟩:=L.blk_t l;exact h6.m.not_in4 Y (by decide) (aw j l) p
    refine zgp i.m hn al h4 hw M.rd (λa A p=>?_) v λP r F9 w9 hr Z aa a9=>?_
    ·have l:m.P.blk=some a.block:=slk.2 ⟨a,A,rfl⟩;obtain ⟨cs,Y⟩:=M.blk_t l;exact i.m.not_in4 Y (by decide) (i.m.nl rfl _) p
    ·have n3:¬vC g F7 w2.heap.size:=i.m.not_in I Q (y (by omega) (by omega));have ap:=I.chg Z.chg n3;have ek:∀P,q19 E C s k P v=qqs E.idle k m.W m.H (qtb C s).2.2.2 P v:=by
      intro P;unfold q19;rw [<-hx,if_neg D,a2,a3]
     refine zN (r:=qg.rep) (x:=r) ap rfl rfl λba N bd=>?_;have z7:=i.chg.size;have bb:¬F9.LS w2.heap.size:=λp=>by
      rcases Z.ls _ p with h1 | h1
      ·exact y (by omega) (by omega) h1
      ·omega
     refine hK P r F9 ba ?_ ?_ (λj l=>⟨by have:=(aa j l).1;omega,(aa j l).2⟩) λj l=>by have:=a9 j l;omega
     ·rw [ek];exact ⟨hr.1.chg N λa A e=>by have:=(aa a.block (slk.2 ⟨a,A,rfl⟩)).1;omega,hr.2⟩
     ·rw [ek];exact (U.trans Z).other ap Q bb (by omega) N
  by_cases hx0:x=0
  ·refine cF (by simpa using hx0) (lI (x:=k.Action) (V.cells 0 _ rfl) ?_);have e:(k.Action==113)=decide (x≠0\/k.Action=113):=by
    by_cases A:k.Action=113
    ·rw [dTq (.inr A)];exact beq_iff_eq.2 A
    ·rw [dFq (λhh=>hh.elim (λh=>h hx0) A)];exact beq_eq_false_iff_ne.2 A
   rw [e];exact j3
  ·rw [dTq (.inl hx0)] at j3;exact cT (by simpa using hx0) j3
 have e1:(⟨#[69,66,65,68,80,78,71]⟩:ByteArray)=qX zn2:=rfl;have e2:(⟨#[]⟩:ByteArray)=qX []:=rfl;rw [e1,e2];unfold q0e at S;refine lI (x:=k.Format) (R.cells 5 _ rfl) (cO (λf=>?_) λf=>?_)
 ·have f:=eq_of_beq f;have z:(x=2\/x=3\/x=4\/x=8\/x=1)->J1 (qX zn2,()) w6:=λh=>by rw [if_pos ⟨f,h⟩] at S;exact S
  refine cO (λa=>cT a (z (.inl (eq_of_beq a)))) λa=>?_;refine cO (λb=>cT b (z (.inr (.inl (eq_of_beq b))))) λb=>?_;refine cO (λc=>cT c (z (.inr (.inr (.inl (eq_of_beq c)))))) λc=>?_;refine cO (λd=>cT d (z (.inr (.inr (.inr (.inl (eq_of_beq d))))))) λd=>?_;refine cO (λe=>z (.inr (.inr (.inr (.inr (eq_of_beq e)))))) λe=>?_;rw [if_neg (λhh=>by rcases hh.2 with h | h | h | h | h<;>simp [h] at a b c d e)] at S;exact S
 ·rw [if_neg (λhh=>(beq_eq_false_iff_ne.1 f) hh.1)] at S;exact S
end
def ZD (f k:qh):qh:=if k.Quiet≠0 then { f with Quiet:=k.Quiet } else f
def qrl (E:KE) (C:LdK) (s:LdS) (ts:List UInt8):KE:={ E with ld:=some (C,JJ C s ts) }
def qer (E:KE) (C:LdK) (s:LdS) (k:qh) (ts:List UInt8) (P:Slc) (v:qu):KE×KR :=
 if (JJ C s ts).err≠0 then ((qrl E C s ts).idle,qem (ZD E.first k) (((JJ C s ts).err:Nat):Int) [])
 else if ((qrl E C s ts).reserve 0).2≠0 then (((qrl E C s ts).reserve 0).1.idle,qem (ZD E.first k) ((qrl E C s ts).reserve 0).2 [])
 else if k.More=1 then (((qrl E C s ts).reserve 0).1,kr0)
 else q19 ((qrl E C s ts).reserve 0).1 C (JJ C s ts) (ZD E.first k) P v
theorem za0 (E:KE) (m:Int):(E.reserve m).1.ld=E.ld:=by
 unfold KE.reserve;split
 ·rfl
 ·split<;>rfl
theorem zbl {f k:qh} (hf:YW (toL f)) (hk:YW (toL k)):YW (toL (ZD f k)):=by
 unfold ZD;split
 ·have e:toL { f with Quiet:=k.Quiet }=(toL f).set 4 k.Quiet:=rfl;intro i;rw [e,List.getElem?_set];by_cases hi:4=i
  ·rw [if_pos hi,if_pos (by rw [q5q];omega)];exact hk 4
  ·rw [if_neg hi];exact hf i
 ·exact hf
section
variable {w w':World} {base g n:Nat} {F F':KF} {E E':KE}
theorem q2n (h:EngM w base g F E n) (hn:n<=900) (hT:Tab w) (h4:4<=base) {C:LdK} {s:LdS} (hl:E.ld=some (C,s)) (hov:s.over=false) {text:Slc} {ts:List UInt8} (hpot:qft s+3*ts.length<=120000) (ht:Rd qo w text ts) (htS:∀k,text.blk=some k->ts≠[]->¬F.LS k)
  {k:qh} (hwf:YW (toL E.first)) (hwk:YW (toL k)) (v:qu) {K:qg->Ub}
  (hK:∀P r F' w',qlk w' r (qer E C s k ts P v).2->EngT base g w F F' (qer E C s k ts P v).1 (n+2) w'->(∀j,r.Reply.blk=some j->w.heap.size<=j/\¬vC g F' j)->(∀j,P.blk=some j->w.heap.size<=j)->K r w'):yy (some ⟨g,0,none⟩) k text v w K:=by
 refine qiu _ _ _ _ ?_;simp only [onPtr_some];refine nwb λw1 ar ah bi=>nwb λw2 au V bj=>nwb λw3 av B bk=>?_;have B3:=vN ah V B;have h3:=h.ext B3;refine qz (r:=qh.rep) (x:=E.first) (h3.blk.sub 4 _ rfl) ?_;refine jS (vs:=qh.rep.cells E.first) rfl λw5 W u bl=>?_;have B5:=zC B3 u;have D:=((ar.ext V).ext B).ext u;have ai:=(au.ext B).ext u;have aj:=av.ext u;have z1:=ah.size;have z2:=V.size;have z3:=B.size;have z5:=u.size;have bm:=W.lt;have nE:∀{b:Nat},w.heap.size<=b->¬vC g F b:=λhb hk=>by have:=(h.below _ hk).2;omega
 have l:∀{b:Nat},w.heap.size<=b->¬F.LS b:=λhb hk=>nE hb (.inr (.inr (.inr hk)));have X:qea qB:=by decide
 have ak:=zbl hwf hwk;refine jpO λJ1 aw=>?_;have j1:∀wx,Uc w wx->w5.heap.size<=wx.heap.size->Blk wx w3.heap.size zg (qh.rep.cells (ZD E.first k))->Blk wx w.heap.size zg (qh.rep.cells k)->Blk wx w1.heap.size jg (qu.rep.cells v)->Blk wx w2.heap.size qB [(.slice none 0 0),(Ua 0),(Ua 0),(.bool false)]->J1 (()) wx:=by
  intro w6 B6 bn G ax ay az;refine aw _ _ ?_;have h6:=h.ext B6;refine qS (x:=some ⟨F.lg,0,none⟩) (by have:=h6.blk.cells 3 _ rfl;rw [hl] at this;exact this) ?_;obtain ⟨a1,bo⟩:=h6.lo C s hl;refine zfi a1 (le_trans h6.hg (le_of_lt h6.blk.lt)) hov (ht.ext B6) htS hpot λS' w7 al bc Y Z o=>?_;have h7:=(EngT.of_ext h B6).trans (EngT.load h6 hl al Z o);have bp:=G.lt;have z7:=o.size;have aa:=G.chg o (l (by omega));have am:=ax.chg o (l (le_refl _));have an:=ay.chg o (l (by omega));have ab:=az.chg o (l (by omega));have bq:=hT.stepK h h4 h7;refine jpO λJ2 ao=>?_;have ap:∀(x:Int) (E2:KE) (M:KF) (w8:World),x≠0->EngT base g w F M E2 n w8->w7.heap.size<=w8.heap.size->(∀j,M.LS j->S' j)->Blk w8 w3.heap.size zg (qh.rep.cells (ZD E.first k))->Blk w8 w2.heap.size qB [(.slice none 0 0),(Ua 0),(Ua 0),(.bool false)] ->
    (∀P,qer E C s k ts P v=(E2.idle,qem (ZD E.first k) x []))->J2 (x,()) w8:=by
   intro x E2 M w8 hx p br f y c N;refine ao _ _ (cT (by simpa using hx) ?_);have O:∀{b:Nat},w.heap.size<=b->b<w5.heap.size->¬M.LS b:=λQ h2 t=>by
    rcases Z _ (f _ t) with h5 | h5
    ·exact l Q h5
    ·omega
   refine q2p p.m λF9 w9 H bs bd=>?_;have ac:=p.trans H;have a2:=y.chg H.chg (p.m.not_in y (by decide) (O (by omega) (by omega)));have I:=c.chg H.chg (p.m.not_in c (by decide) (O (by omega) (by omega)));have z9:=H.chg.size;refine qz (r:=qh.rep) (x:=ZD E.first k) a2.cells ?_;refine Z5 (hT.stepK h h4 ac) ak x [] (by simp) λq aq hq R ad=>?_;have S:=I.ext R;refine zN (r:=qg.rep) (x:=⟨q,0,0,false⟩) S rfl rfl λa3 T be=>?_;refine hK ⟨none,0,0⟩ _ F9 a3 ?_ ?_ (λj d=>⟨by have:=ad j d;omega,λt=>by have:=(ac.m.below _ t).2;have:=ad j d;omega⟩) λj d=>by cases d
   ·rw [N];exact ⟨hq.chg T λa ha e=>by have:=ad a.block (slk.2 ⟨a,ha,rfl⟩);omega,rfl,rfl,rfl⟩
   ·rw [N];exact ((ac.ext R).up (by omega)).other S X (λt=>H.m.nl rfl _ t) (by omega) T
  by_cases he:(JJ C s ts).err=0
  ·refine cT (by rw [he];rfl) ?_;have z:EngM w7 base g { F with LS:=S' } (qrl E C s ts) n:=h7.m;refine QW z (by omega) 0 λM w8 p bf bg f=>?_;have J:=h7.trans p;have z8:=p.chg.size;have O:∀{b:Nat},w.heap.size<=b->b<w5.heap.size->¬S' b:=λQ h2 t=>by
    rcases Z _ t with h5 | h5
    ·exact l Q h5
    ·omega
   have y:=aa.chg p.chg (z.not_in aa (by decide) (O (by omega) (by omega)));have a4:=am.chg p.chg (z.not_in am (by decide) (O (le_refl _) (by omega)));have a5:=an.chg p.chg (z.not_in an (by decide) (O (by omega) (by omega)));have c:=ab.chg p.chg (z.not_in ab (by decide) (O (by omega) (by omega)));by_cases hx:((qrl E C s ts).reserve 0).2=0
   ·rw [hx];refine ao _ _ (cF rfl (lI (x:=k.More) (a4.cells 11 _ rfl) ?_));have ae:∀{b:Nat},w.heap.size<=b->b<w5.heap.size->¬M.LS b:=λQ h2 t=>O Q h2 (by rw [f] at t;exact t);by_cases hm:k.More=1
    ·refine cT (by simpa using hm) ?_;refine zN (r:=qg.rep) (x:=⟨⟨none,0,0⟩,0,0,false⟩) c rfl rfl λw9 a6 bt=>?_;have N:∀P,qer E C s k ts P v=(((qrl E C s ts).reserve 0).1,kr0):=λP=>by
      unfold qer;rw [if_neg (λA=>A he),if_neg (λA=>A hx),if_pos hm]
     refine hK ⟨none,0,0⟩ _ M w9 ?_ ?_ (λj d=>by cases d) λj d=>by cases d
     ·rw [N];exact qlk.nil _
     ·rw [N];exact (J.up (by omega)).other c X (ae (by omega) (by omega)) (by omega) a6
    ·refine cF (by simpa using hm) (qz (r:=qh.rep) (x:=ZD E.first k) y.cells (qz (r:=qu.rep) (x:=v) a5.cells ?_));have a7:((qrl E C s ts).reserve 0).1.ld=some (C,JJ C s ts):=za0 _ _;have a8:(JJ C s ts).b.length<=32000:=by
      unfold qft at Y hpot;omega
     refine zhj p.m hn (hT.stepK h h4 J) h4 a7 a8 ak v λP r F9 w9 hr H af a9=>?_;have I:=c.chg H.chg (p.m.not_in c (by decide) (ae (by omega) (by omega)));have bu:=c.lt;refine zN (r:=qg.rep) (x:=r) I rfl rfl λaq U bh=>?_;have N:qer E C s k ts P v=q19 ((qrl E C s ts).reserve 0).1 C (JJ C s ts) (ZD E.first k) P v:=by
      unfold qer;rw [if_neg (λA=>A he),if_neg (λA=>A hx),if_neg hm]
     refine hK P r F9 aq ?_ ?_ (λj d=>⟨by have:=(af j d).1;omega,(af j d).2⟩) λj d=>by have:=a9 j d;omega
     ·rw [N];exact ⟨hr.1.chg U λa ha e=>by have:=(af a.block (slk.2 ⟨a,ha,rfl⟩)).1;omega,hr.2⟩
     ·rw [N];refine (J.trans H).other I X (λt=>?_) (by omega) U;rcases H.ls _ t with Q | Q
      ·exact ae (by omega) (by omega) Q
      ·omega
   ·refine ap _ _ M w8 hx J z8 (λj d=>by rw [f] at d;exact d) y c λP=>?_;unfold qer;rw [if_neg (λA=>A he),if_pos hx]
  ·have ba:(((JJ C s ts).err:Nat):Int)≠0:=by omega
   refine cF (by simpa using he) ?_;refine ap _ (qrl E C s ts) { F with LS:=S' } w7 ba h7 (le_refl _) (λj d=>d) aa ab λP=>?_;unfold qer;rw [if_pos he]
 refine lI (x:=k.Quiet) (D.cells 4 _ rfl) ?_;by_cases hq:k.Quiet=0
 ·refine cF (by simpa using hq) (j1 w5 B5 (le_refl _) ?_ D ai aj);have:ZD E.first k=E.first:=by unfold ZD;rw [if_neg (λA=>A hq)]
  rw [this];exact W
 ·refine cT (by simpa using hq) (lI (x:=k.Quiet) (D.cells 4 _ rfl) ?_);show stK ⟨w3.heap.size,4,none⟩ _ _ _;refine qD W (by show (4+1:Nat)<=22;omega) λw6 G bb bv=>?_;have L:Chg (λi=>i=w3.heap.size) w5 w6:=Chg.of_grown bb λk hk=>by cases hk;rfl
  have:ZD E.first k={ E.first with Quiet:=k.Quiet }:=by unfold ZD;rw [if_pos hq]
  refine j1 w6 (B5.trans (L.below B5.size λi hi e=>by omega)) (by omega) ?_ (D.chg L λe=>by omega) (ai.chg L λe=>by omega) (aj.chg L λe=>by omega);rw [this];exact G
end
def q2a (E:KE) (k:qh):LdK:=⟨k,E.quota.toNat,(Q3 k).2⟩
def zhy (E:KE) (k:qh):KE:={ E with ld:=some (q2a E k,ld0),first:=k }
def qog (E:KE) (k:qh) (ts:List UInt8) (P:Slc) (v:qu):KE×KR :=
 if qxo k E.quota≠0 then (E,qem k ((qxo k E.quota:Nat):Int) []) else qer (zhy E k) (q2a E k) ld0 k ts P v
theorem zbw (F:KF) (E:KE) (k:qh):putL (qvi F E) 4 (qh.rep.cells k)=qvi F { E with first:=k }:=by kernel_rfl
theorem zkp (F:KF) (E:KE) (lg gd:Nat) (LS:Nat->Prop) (x:LdK×LdS):putL (qvi F E) 3 [.pointer (some ⟨lg,0,none⟩)]=qvi { F with lg:=lg,gd:=gd,LS:=LS } { E with ld:=some x }:=rfl
theorem q69 (F:KF) (E:KE):(qvi F E).length=26:=rfl
section
variable {w w':World} {base g n:Nat} {F F':KF} {E E':KE}
theorem LdA.weak {B lg gd:Nat} {C:LdK} {s:LdS} {S:Nat->Prop} (h:LdA w B lg gd C s S) (hb:base<=B):LdA w base lg gd C s S:=by
 obtain ⟨⟨p,i,f⟩,h3,h4,h5,h6,h7⟩:=h;refine ⟨⟨p,i,?_⟩,h3,h4,h5,h6,λk g=>⟨le_trans hb (h7 k g).1,(h7 k g).2⟩⟩;rcases f with f | ⟨x,a,b,c,d,e⟩
 ·exact .inl f
 ·exact .inr ⟨x,a.base hb,b.base hb,c,d,e⟩
theorem q97 (h:EngM w base g F E n) (hn:n<=900) (hT:Tab w) (h4:4<=base) (hl:E.ld=none) (hq:E.quota<=100000) {text:Slc} {ts:List UInt8} (hts:ts.length<=40000) (ht:Rd qo w text ts) (htg:∀j,text.blk=some j->ts≠[]->¬vC g F j)
  {k:qh} (hwk:YW (toL k)) (hraw:k.Format≠100/\k.Zip≠122) (v:qu) {K:qg->Ub}
  (hK:∀P r F' w',qlk w' r (qog E k ts P v).2->EngT base g w F F' (qog E k ts P v).1 (n+2) w'->(∀j,r.Reply.blk=some j->w.heap.size<=j/\¬vC g F' j)->(∀j,P.blk=some j->w.heap.size<=j)->K r w'):QH (some ⟨g,0,none⟩) k text v w K:=by
 refine qhv _ _ _ _ ?_;simp only [onPtr_some];refine nwb λw1 ak W a7=>nwb λw2 al H a8=>nwb λw3 l y a9=>?_;have B3:=(vN W H y).drew;have I:=((ak.ext H).ext y).drew;have am:=(al.ext y).drew;have l:=l.drew;have h3:=h.ext B3;have z1:=W.size;have z2:=H.size;have z3:=y.size;have ba:=l.lt;have e3:w3.drew.heap.size=w3.heap.size:=rfl;have gl:=h.blk.lt;have nE:∀{b:Nat},w.heap.size<=b->¬vC g F b:=λhb z=>by have:=(h.below _ z).2;omega
 have an:∀{b:Nat},w.heap.size<=b->¬F.LS b:=λhb z=>nE hb (.inr (.inr (.inr z)));have J:qea qB:=by decide
 refine qz (r:=qh.rep) (x:=k) I.cells (lI (x:=E.quota) (h3.blk.cells 0 _ rfl) ?_);refine zea (λL w4 d=>?_) λL t u w4 X d=>?_
 ·refine cT (by simp;omega) (qz (r:=qh.rep) (x:=k) (I.ext d).cells ?_);have U:=zC B3 d;refine Z5 (hT.ext U) hwk _ [] (by simp) λq w5 hq Y M=>?_;have Z:=(l.ext d).ext Y;have em:∀P,qog E k ts P v=(E,qem k ((qxo k E.quota:Nat):Int) []):=λP=>by unfold qog;rw [if_pos L]
  have z4:=d.size;refine zN (r:=qg.rep) (x:=⟨q,0,0,false⟩) Z rfl rfl λw6 aa bb=>?_;refine hK ⟨none,0,0⟩ _ F w6 ?_ ?_ (λj c=>⟨by have:=M j c;omega,λN=>by have:=(h.below _ N).2;have:=M j c;omega⟩) λj c=>by cases c
  ·rw [em];exact ⟨hq.chg aa λa O e=>by have:=M a.block (slk.2 ⟨a,O,rfl⟩);omega,rfl,rfl,rfl⟩
  ·rw [em];exact ((EngT.of_ext h (zC U Y)).up (by omega)).other Z J (an (by omega)) (by omega) aa
 ·refine cF rfl ?_;have U:=(zC B3 d).drew;have A:=h.ext U;have Q:=(I.ext d).drew;have ao:=(am.ext d).drew;have ap:=(l.ext d).drew;have z4:=d.size;have e4:w4.drew.heap.size=w4.heap.size:=rfl;refine qz (r:=qh.rep) (x:=k) Q.cells ?_;show stK ⟨g,3,none⟩ _ _ _;refine qD A.blk (by rw [q69];show (3+1:Nat)<=26;omega) λw7 ab aq bc=>?_;have ac:Chg (λi=>i=g) w4.drew w7:=Chg.of_grown aq λk z=>by cases z;rfl
  have ar:=Q.chg ac λe=>by omega
  refine ⟨ar.cells,?_⟩;show stK ⟨g,4,none⟩ _ _ _;have au:(qh.rep.cells k).length=22:=rfl
  let F1:KF:={ F with lg:=t,gd:=u,LS:=λi=>i=t\/i=u }
  have ad:Blk w7 g ja (qvi F1 { E with ld:=some (q2a E k,ld0) }):=by
   rw [zkp F E t u (λi=>i=t\/i=u) (q2a E k,ld0)] at ab;exact ab
  refine qD ad (by rw [au,q69];omega) λw8 ae av bd=>?_;have aw:Chg (λi=>i=g) w7 w8:=Chg.of_grown av λk z=>by cases z;rfl
  have af:Blk w8 g ja (qvi F1 (zhy E k)):=by
   rw [zbw] at ae;exact ae
  have B:Chg (λi=>i=g) w4.drew w8:=ac.trans aw λi _ hi=>hi;have ax:=Q.chg B λe=>by omega
  have ay:=ao.chg B λe=>by omega
  have R:=ap.chg B λe=>by omega
  have o:∀j,(j=t\/j=u)->w3.heap.size<=j/\j<w4.heap.size:=λj c=>by have:=X.lt j c;omega
  have ah:LdA w8 base t u (q2a E k) ld0 (λi=>i=t\/i=u):=by
   have D:LdA w4.drew w3.drew.heap.size t u (q2a E k) ld0 (λi=>i=t\/i=u):=X.ext (kj w4);exact (D.chg B λj c e=>by have:=o j c;omega).weak (by have:=h.hg;omega)
  have be:0<=E.quota:=by
   rcases Int.lt_or_le E.quota 0 with az | hge
   ·exfalso;unfold qxo at L;rw [if_pos (.inl az)] at L;cases L
   ·exact hge
  have a1:CfgOk (q2a E k):=⟨by show qxo k ((E.quota.toNat:Nat):Int)=0;rw [show ((E.quota.toNat:Nat):Int)=E.quota by omega];exact L,rfl,by show E.quota.toNat<=100000;omega,hraw⟩;have f:∀{j:Nat},j<w.heap.size->¬(j=t\/j=u):=λc e=>by have:=o _ e;omega
  have h8:EngT base g w F F1 (zhy E k) n w8:=by
   refine ⟨⟨af,h.hg,A.st.keep B (λe=>h.g_sg e.symm) (λe=>h.g_sr e.symm) (λp V k z e=>A.img_g V z e),h.ok,h.hs,A.tb.chg B ?_,h.tl,(λC s D=>?_),(λD=>by cases D),f gl,⟨f h.st.blk.lt,f h.st.map.lt⟩,(λj c=>f (h.tb.lt j c).2),λj c=>?_⟩,?_,?_,λj c=>.inr (by have:=o j c;omega)⟩
   ·rintro j (c | c) e
    ·exact h.g_tg (e.symm.trans c)
    ·exact h.g_q j c e
   ·cases D;exact ⟨ah,a1⟩
   ·obtain ⟨p,V,hb⟩:=c;exact f ((h.st.img p V).lt j hb).2
   ·rintro j (c | c | c | c)
    ·exact .inl (.inl c)
    ·exact .inl (.inr (.inl c))
    ·exact .inl (.inr (.inr (.inl c)))
    ·exact .inr (by have:=o j c;omega)
   ·exact (Chg.of_ext (S:=vC g F) U).trans B λi _ hi=>.inl hi
  have ai:Rd qo w8 text ts:=by
   refine qo9 (ht.ext U) B λV a O e=>?_;exact htg a.block (slk.2 ⟨a,O,rfl⟩) (λh0=>by rw [h0] at V;cases V) (.inl e)
  refine qz (r:=qh.rep) (x:=k) ax.cells (qz (r:=qu.rep) (x:=v) ay.cells ?_);refine q2n h8.m hn (hT.stepK h h4 h8) h4 (C:=q2a E k) (s:=ld0) rfl rfl (by show qft ld0+_<=_;have:qft ld0=0:=rfl;omega) ai (λj c a2 N=>?_) hwk hwk v λP r F9 w9 hr h9 T a3=>?_
  ·obtain ⟨a,O,a4⟩:=slk.1 c;have:=q82 ht (List.length_pos_iff.2 a2) a O;exact f (a4 ▸ this) N
  ·have z8:=h8.chg.size;have bf:=R.lt;have n2:¬F1.LS w2.heap.size:=λN=>by have:=o _ N;omega
   have aj:=R.chg h9.chg (h8.m.not_in R J n2);refine zN (r:=qg.rep) (x:=r) aj rfl rfl λa5 G a6=>?_;have em:qog E k ts P v=qer (zhy E k) (q2a E k) ld0 k ts P v:=by
    unfold qog;rw [if_neg (λhh=>hh L)]
   refine hK P r F9 a5 ?_ ?_ (λj c=>⟨by have:=(T j c).1;omega,(T j c).2⟩) λj c=>by have:=a3 j c;omega
   ·rw [em];exact ⟨hr.1.chg G λa O e=>by have:=(T a.block (slk.2 ⟨a,O,rfl⟩)).1;omega,hr.2⟩
   ·rw [em];refine (h8.trans h9).other aj J (λN=>?_) (by omega) G;rcases h9.ls _ N with D | D
    ·exact n2 D
    ·omega
end
def KG (c:UInt8) (l:List UInt8):List UInt8:=l.takeWhile λb=>b !=c
def qa5 (c:UInt8) (l:List UInt8):List UInt8:=(l.dropWhile λb=>b !=c).drop 1
theorem zo0 (c:UInt8):∀l:List UInt8,(c∈l/\l=KG c l++c::qa5 c l/\∀b∈KG c l,b≠c)\/((∀b∈l,b≠c)/\KG c l=l/\qa5 c l=[])
 | []=>.inr ⟨by simp,rfl,rfl⟩
 | b::l=>by
  by_cases hb:b=c
  ·subst hb;left;simp [KG,qa5]
  ·have g:KG c (b::l)=b::KG c l:=by simp [KG,hb]
   have h:qa5 c (b::l)=qa5 c l:=by simp [qa5,hb]
   rw [g,h];rcases zo0 c l with ⟨d,e,f⟩ | ⟨d,e,f⟩
   ·left;refine ⟨by simp [d],by rw [List.cons_append,<-e],λx a=>?_⟩;rcases List.mem_cons.1 a with rfl | a
    ·exact hb
    ·exact f x a
   ·right;refine ⟨λx a=>?_,by rw [e],f⟩;rcases List.mem_cons.1 a with rfl | a
    ·exact hb
    ·exact d x a
theorem qzw:∀(l:List UInt8) (c:UInt8),(∀b∈l,b≠c)->indexByte l c=-1
 | [],c,_=>by simp [indexByte]
 | b::x,c,h=>by
  have a:=qzw x c λb d=>h b (by simp [d]);have e:b≠c:=h b (by simp);simp [indexByte,e,a]
theorem zfc (c:UInt8) (l:List UInt8):(KG c l).length<=l.length:=List.Sublist.length_le (List.takeWhile_sublist _)
theorem q3h (c:UInt8) (l:List UInt8):(qa5 c l).length<=l.length:=by
 unfold qa5;have:=List.Sublist.length_le (List.dropWhile_sublist (l:=l) (λb=>b !=c));rw [length_drop];omega
section
variable {w:World}
theorem qxf {s:Slc} {bs:List UInt8} (c:UInt8) {g o:Nat} (hs:Rd qo w s bs) (hsa:s.a=some ⟨g,o,none⟩) {sep:Slc} (hsep:Rd qo w sep [c]) (hl:bs.length<=1000000) {K:Int->Ub}
  (hK:K (indexByte bs c) w):qgf s sep w K:=by
 refine qvv _ _ ?_;have q:=hs.n;have f:sep.n=1:=hsep.n;refine cF (by rw [f];rfl) (cT (by rw [f];rfl) ?_);refine hsep.ix (k:=1) rfl (by omega) (by rw [length_singleton];decide) λh=>?_;refine lI (x:=(c.toNat:Int)) (by simpa using h 0 _ rfl) ?_;have l:Calls PG 367 #[.slice (some ⟨g,o,none⟩) s.n s.c,.int .u8 (c.toNat:Int)] w λe m=>e=.returned (Ua (indexByte (Lib.bytesOf (bs.map λb=>(b.toNat:Int))) ((c.toNat:Int)).toNat.toUInt8))/\m=w :=
  Tryz.bytes_IndexByte g o s.n s.c (bs.map λb=>(b.toNat:Int)) (c.toNat:Int) w (by simp;omega) (λi r=>by
   have j:i<bs.length:=by omega
   have:=hs.at_ i bs[i] (by simp [j]) 0 (.int .u8 (bs[i].toNat:Int)) rfl;simp only [Slc.at_,hsa,getD_some,add_zero] at this;rw [qC,show i*qo.k=i from mul_one i] at this;rw [this,List.getD_eq_getElem?_getD,List.getElem?_map,List.getElem?_eq_getElem j];rfl)
 have d:Lib.bytesOf (bs.map λb=>(b.toNat:Int))=bs:=by
  unfold Lib.bytesOf;rw [List.map_map]
  conv=>rhs;rw [<-List.map_id bs]
  exact List.map_congr_left λb _=>by simp
 rw [d,show ((c.toNat:Int)).toNat.toUInt8=c by simp] at l;have p:s=⟨some ⟨g,o,none⟩,s.n,s.c⟩:=by cases s;cases hsa;rfl
 rw [p];refine Calls.mono l ?_;rintro e m ⟨rfl,rfl⟩;exact ⟨_,rfl,hK⟩
theorem zih {s:Slc} {bs:List UInt8} (c:UInt8) {g o:Nat} (hs:Rd qo w s bs) (hsa:s.a=some ⟨g,o,none⟩) {sep:Slc} (hsep:Rd qo w sep [c]) (hl:bs.length<=1000000) {K:Slc->Slc->Bool->Ub}
  (hK:∀p q b w',Uc w w'->Rd qo w' p (KG c bs)->Rd qo w' q (qa5 c bs)->p.a.isSome=true->K p q b w'):qm8 s sep w K:=by
 refine qyu _ _ ?_;refine qxf c hs hsa hsep hl ?_;have d:sep.n=1:=hsep.n;rcases zo0 c bs with ⟨t,e,i⟩ | ⟨t,e,i⟩
 ·have j:indexByte bs c=(KG c bs).length:=by
   conv=>lhs;rw [e]
   exact q81 _ _ _ i
  have u:bs.length=(KG c bs).length+((qa5 c bs).length+1):=by
   conv=>lhs;rw [e]
   rw [length_append,length_cons]
  rw [j];refine cT (by simp) ?_;refine hs.slK (E:=qo) (k:=1) (l:=0) (m:=(KG c bs).length) rfl (.inl ⟨rfl,rfl⟩) (.inr rfl) (by omega) (by omega) λv=>?_;rw [d,i64_in (by omega)];refine hs.slK (E:=qo) (k:=1) (l:=(KG c bs).length+1) (m:=bs.length) rfl (.inr (by simp)) (.inl ⟨rfl,rfl⟩) (by omega) (le_refl _) λz=>?_;have r:∀x y:List UInt8,bs=x++c::y->(bs.take x.length).drop 0=x/\(bs.take bs.length).drop (x.length+1)=y:=by
   intro x y h;rw [take_length,h];exact ⟨by simp,by simp⟩
  obtain ⟨A,B⟩:=r _ _ e;rw [A] at v;rw [B] at z;have f:∀l m k,(cut s.a l m k).isSome=true:=λl m k=>by unfold cut;rw [hsa];split<;>rfl
  exact hK _ _ _ _ (kj w) v.drew z.drew (f _ _ _)
 ·rw [qzw bs c t];refine cF (by decide) ?_;refine hK _ _ _ _ (Below.refl _ w) (by rw [e];exact hs) (by rw [i];exact Rd.nil _ _) (by rw [hsa];rfl)
theorem qw0 {s:Slc} {bs:List UInt8} (hs:Rd qo w s bs) (hl:bs.length<=1000000) {K:Slc->Ub} (hK:∀q w',Rd qo w' q bs->(∀j,q.blk=some j->w.heap.size<=j)->Uc w w'->K q w'):Jf s w K:=by
 cases ha:s.a with
 | some a=>exact q9w hs (by rw [ha];rfl) hl λq w' e f=>hK q w' e.rd (λj c=>(e.lt j c).1) f
 | none =>
  refine qh6 _ ?_;refine cT (by rw [ha];rfl) ?_;have g:=hs.n;have d:bs=[]:=by
   cases bs with
   | nil=>rfl
   | cons b bs=>exact absurd (hs.some_ (by simp)) (by rw [ha];simp)
  subst d;exact hK _ _ (Rd.nil _ _) (λj c=>by cases c) (Below.refl _ w)
theorem q66 {s:Slc} {bs:List UInt8} {g o:Nat} (hs:Rd qo w s bs) (hsa:s.a=some ⟨g,o,none⟩) (hl:bs.length<=1000000) {K:Slc->Slc->Ub}
  (hK:∀p q w',Uc w w'->Rd qo w' p (KG 59 bs)->Rd qo w' q (qa5 59 bs)->(∀j,p.blk=some j->w.heap.size<=j)->(∀j,q.blk=some j->w.heap.size<=j)->K p q w'):qj2 s w K:=by
 refine qxv _ ?_;refine q7r (bs:=[59]) rfl rfl (by decide) λu C c _ d v _=>?_;refine zih 59 (hs.ext d) hsa c hl λp q b D h x y z=>?_;have r:=zC d h;refine qw0 x (by have:=zfc 59 bs;omega) λA E i k e=>?_;have t:=zC r e;refine qw0 (y.ext e) (by have:=q3h 59 bs;omega) λB w4 l m f=>?_;have F:=r.size;have G:=t.size;exact hK A B w4 (zC t f) (i.ext f) l (λj n=>by have:=k j n;omega) (λj n=>by have:=m j n;omega)
end
def zid (G:Value) (f:Int->Bool):Prop:=∀(w1:World) (id:Int) (K:Bool->Ub),K (f id) w1->j7 C G [.int .i64 id] [Kind.bool] w1 K
theorem zcf:zid (.func (.func JZ) #[] #[]) λid=>decide (id>549755813888):=by
 intro a id K b;have h:XJ id a K:=by
  refine qd9 _ ?_;exact b
 refine yG (by kernel_rfl) (Calls.mono h ?_);rintro e d ⟨r,rfl,c⟩;exact ⟨r,rfl,c⟩
def qjs (T:List Pl) (f:Int->Bool) (S:St) (id:Int):St:=if f id && !(T.any λp=>p.Image==id) then S.drop id else S
def zcj (T:List Pl) (f:Int->Bool) (S:St) (ids:List Int):St:=ids.foldl (qjs T f) S
def vZ (E:KE) (f:Int->Bool) (ids:List Int):KE:={ E with S:=zcj E.T f E.S ids }
theorem q6d (E:KE) (f:Int->Bool) (ids:List Int) (x:Int):vZ E f (ids++[x])={ E with S:=qjs E.T f (vZ E f ids).S x }:=by
 unfold vZ zcj;rw [List.foldl_append];rfl
section
variable {w w':World} {base g n:Nat} {F F':KF} {E E':KE}
theorem EngT.drop1 (h:EngM w base g F E n) {id:Int} (hst:StM w' base F.sg F.sr (E.S.drop id)) (hc:Chg (onS F.sg F.sr) w w'):EngT base g w F F { E with S:=E.S.drop id } n w' :=
 EngT.store h hst (qpc h.ok id) (le_refl _) hc λk a=>by
  obtain ⟨p,b,c⟩:=a;exact .inl ⟨p,((qm3 _ _ _).1 b).2,c⟩
theorem za7 (h:EngM w base g F E n) (hn:n<=100000) {ids:Slc} {L:List Int} (hr:Rd jr w ids L) (hne:∀a,ids.a=some a->¬onS F.sg F.sr a.block) {G:Value} {f:Int->Bool} (hG:zid G f) {K:Ub}
  (hK:∀w',EngT base g w F F (vZ E f L) n w'->K w'):Zi (some ⟨g,0,none⟩) ids G w K:=by
 refine qia _ _ _ ?_;have M:ids.n=L.length:=hr.n;have N:L.length<=9223372036854775807:=by rw [<-M];exact le_trans hr.nc hr.cm
 refine lpR (λ(t:Int×Unit) w1=>∃k:Nat,t.1=(k:Int)/\k<=L.length/\EngT base g w F F (vZ E f (L.take k)) n w1/\Rd jr w1 ids L) (λt=>L.length-t.1.toNat)
  ⟨0,rfl,zero_le _,EngT.refl h,hr⟩ ?_
 rintro ⟨i,u⟩ w1 ⟨k,B,U,c,b⟩ I hI;dsimp only at B ⊢;subst B;refine cO (λe=>?_) λe=>?_
 ·have e:=oTq e;have v:k<L.length:=by omega
  obtain ⟨x,C⟩:∃x,L[k]?=some x:=⟨_,List.getElem?_eq_getElem v⟩;have O:L.take (k+1)=L.take k++[x]:=by rw [take_add_one,C];rfl
  refine b.ix (E:=jr) (i:=(k:Int)) rfl (by omega) (by omega) λD=>?_;have P:L[(k:Int).toNat]'(by omega)=x:=(List.getElem?_eq_some_iff.1 (by simpa using C)).2;rw [P] at D;refine lI (x:=x) (by simpa using D 0 _ rfl) ?_;rw [qM (x:=(k:Int)+1) (by omega)];refine jpO λJ H=>?_;have j:∀p,EngT base g w1 F F { (vZ E f (L.take k)) with S:=qjs E.T f (vZ E f (L.take k)).S x } n p->Rd jr p ids L->I ((k:Int)+1,()) p:=by
   intro p d y;refine hI _ _ ⟨k+1,by simp,by omega,?_,y⟩ (by dsimp only;omega);rw [O,q6d];exact c.trans d
  refine hG w1 x _ ?_;refine cO (λs=>?_) λs=>?_
  ·simp only [onPtr_some];refine qS (x:=some ⟨F.tg,0,none⟩) (c.m.blk.cells 2 _ rfl) ?_;refine za9 c.m.tb (le_trans c.m.tl hn) x λp l=>H _ _ ?_;have Q:(vZ E f (L.take k)).T=E.T:=rfl;rw [Q];have d:=EngT.of_ext c.m l;refine cO (λo=>?_) λo=>?_
   ·simp only [onPtr_some];refine qS (x:=some ⟨F.sg,0,none⟩) (d.m.blk.cells 1 _ rfl) ?_;refine qvo d.m.st d.m.ok x λR z q=>?_;refine j R ?_ (qo9 (b.ext l) q λ_ a o=>hne a o);have r:qjs E.T f (vZ E f (L.take k)).S x=(vZ E f (L.take k)).S.drop x:=by
     unfold qjs;dsimp only at o;rw [s,o];rfl
    rw [r];exact d.trans (EngT.drop1 d.m z q)
   ·refine j p ?_ (b.ext l);have r:qjs E.T f (vZ E f (L.take k)).S x=(vZ E f (L.take k)).S:=by
     unfold qjs;dsimp only at o;rw [s,o];rfl
    rw [r];exact d
  ·refine H _ _ (cF rfl (j w1 ?_ b));have r:qjs E.T f (vZ E f (L.take k)).S x=(vZ E f (L.take k)).S:=by
    unfold qjs;rw [s];rfl
   rw [r];exact EngT.refl c.m
 ·have e:=oFq e;have A:k=L.length:=by omega
  rw [A,take_length] at c;exact hK w1 c
theorem q93 (h:EngM w base g F E n) (hn:n<=100000) {l:Slc} {L:List Pl} {b:Nat} (hr:Go.Vc.Own qR w b l L) (hne:∀k,l.blk=some k->¬vC g F k) {K:Ub}
  (hK:∀w',EngT base g w F F (vZ E (λid=>decide (id>549755813888)) (L.map (·.Image))) n w'->K w'):QF (some ⟨g,0,none⟩) l w K:=by
 refine qhi _ _ ?_;have hl:l.n=L.length:=hr.rd.n;have hlm:L.length<=9223372036854775807:=by rw [<-hl];exact le_trans hr.rd.nc hr.rd.cm
 refine lpR (λ(st:Int×Unit) w1=>∃k:Nat,st.1=(k:Int)/\k<=L.length/\EngT base g w F F (vZ E (λid=>decide (id>549755813888)) ((L.map (·.Image)).take k)) n w1/\Go.Vc.Own qR w1 b l L) (λst=>L.length-st.1.toNat)
  ⟨0,rfl,zero_le _,EngT.refl h,hr⟩ ?_
 rintro ⟨i,u⟩ w1 ⟨k,hi,hk,h1,hr1⟩ I hI;dsimp only at hi ⊢;subst hi;refine cO (λe=>?_) λe=>?_
 ·have e:=oTq e;have hlt:k<L.length:=by omega
  obtain ⟨p,hp⟩:∃p,L[k]?=some p:=⟨_,List.getElem?_eq_getElem hlt⟩;have tk:(L.map (·.Image)).take (k+1)=(L.map (·.Image)).take k++[p.Image]:=by rw [take_add_one,List.getElem?_map,hp];rfl
  refine hr1.rd.ix (E:=qR) (i:=(k:Int)) rfl (by omega) (by omega) λhx=>?_;have hx:qG w1 (l.at_ qR.k (k:Int).toNat) (qm.rep.cells p):=by
   simp only [toNat_natCast] at hx ⊢;have e1:L[k]'hlt=p:=(List.getElem?_eq_some_iff.1 hp).2;rw [e1] at hx;exact hx
  refine qz (r:=qm.rep) (x:=p) hx ?_;refine jS (vs:=qm.rep.cells p) rfl λw2 hb2 hB2 hs2=>?_;refine lI (x:=p.Image) (hb2.cells 0 _ rfl) ?_;refine nwb λw3 hb3 hB3 hs3=>?_;have B3:=zC hB2 hB3;have h3:=EngT.of_ext h1.m B3;refine za7 h3.m hn (y9 (E:=jr) (y:=p.Image) hb3 rfl) (λa ha hs=>?_) zcf λw4 h4=>?_
  ·cases ha;have:=(h1.m.below w2.heap.size (.inr (.inl hs))).2;have:=hB2.size;omega
  ·have h14:=h3.trans h4;rw [qM (x:=(k:Int)+1) (by omega)];refine hI _ _ ⟨k+1,by simp,by omega,?_,?_⟩ (by dsimp only;omega)
   ·rw [tk];have e5:vZ E (λid=>decide (id>549755813888)) ((L.map (·.Image)).take k++[p.Image])=vZ (vZ E (λid=>decide (id>549755813888)) ((L.map (·.Image)).take k)) (λid=>decide (id>549755813888)) [p.Image]:=by
     unfold vZ zcj;rw [List.foldl_append]
    rw [e5];exact h1.trans h14
   ·exact (hr1.ext B3).chg h4.chg λj hj hs=>hne j hj hs
 ·have e:=oFq e;have hkl:k=L.length:=by omega
  rw [hkl,List.take_of_length_le (by rw [List.length_map];omega)] at h1;exact hK w1 h1
def zja (E:KE) (alt:Bool) (first:Int):KE:=vZ { E with T:=E.T.filter λp=>!q3k alt first p } (λid=>decide (id>549755813888)) ((E.T.filter (q3k alt first)).map (·.Image))
theorem zd3 (h:EngM w base g F E n) {w1:World} {q':Slc} {r:Slc} {T:Type} {El':El T} {xs:List T} (hr:Go.Vc.Own El' w1 w.heap.size r xs) (hne:∀k,r.blk=some k->q'.blk≠some k):∀k,r.blk=some k->¬vC g { F with q:=q' } k:=by
 intro k b c;have d:=hr.lt k b;have a:vC g F k->False:=λf=>by
  have:=(h.below k f).2;omega
 rcases c with e | e | (e | e) | e
 ·exact a (.inl e)
 ·exact a (.inr (.inl e))
 ·exact a (.inr (.inr (.inl (.inl e))))
 ·exact hne k b e
 ·exact a (.inr (.inr (.inr e)))
theorem qss (h:EngM w base g F E n) (hn:n<=100000) (alt:Bool) (first:Int) {K:Ub} (hK:∀F' w',EngT base g w F F' (zja E alt first) n w'->K w'):vQ (some ⟨g,0,none⟩) alt first w K:=by
 refine qg9 _ _ _ ?_;simp only [onPtr_some];refine qS (x:=some ⟨F.tg,0,none⟩) (h.blk.cells 2 _ rfl) ?_;refine q5t h.tb (le_trans h.tl hn) (le_trans h.hg (le_of_lt h.blk.lt)) alt first λr p q b d e a f=>?_;have c:=EngT.tab h d e f (le_trans (List.length_filter_le _ _) h.tl);refine q93 c.m hn b (λk i j=>?_) λl o=>hK _ l (c.trans o);exact zd3 h b a k i j
end
open Classical in
noncomputable def zn6 (S:St) (n:Int):Int×Bool:=if h:∃r:Int×Bool,qfx S.L n r.1 r.2 then h.choose else (0,false)
theorem zkr {m:Nat} {S:St} (hk:StOk m S) {n b:Int} {ok:Bool} (h:qfx S.L n b ok):zn6 S n=(b,ok):=by
 have a:∃r:Int×Bool,qfx S.L n r.1 r.2:=⟨(b,ok),h⟩;unfold zn6;rw [dif_pos a];obtain ⟨c,d⟩:=qfx.one hk a.choose_spec h;exact Prod.ext c d
noncomputable def kX (S:St) (k:qh):Int×Bool:=if k.Id=0 then zn6 S k.Number else (k.Id,(zy S.L k.Id).isSome)
noncomputable def q7s (E:KE) (k:qh) (v:qu):KE×KR :=
 if (kX E.S k).2=false then (E,qem k 7 [])
 else if (xK E { k with Id:=(kX E.S k).1 } (kX E.S k).1 v).2.2 then
  ({ (xK E { k with Id:=(kX E.S k).1 } (kX E.S k).1 v).1 with S:=(xK E { k with Id:=(kX E.S k).1 } (kX E.S k).1 v).1.S.use (kX E.S k).1 },(xK E { k with Id:=(kX E.S k).1 } (kX E.S k).1 v).2.1)
 else ((xK E { k with Id:=(kX E.S k).1 } (kX E.S k).1 v).1,(xK E { k with Id:=(kX E.S k).1 } (kX E.S k).1 v).2.1)
section
variable {w w':World} {base g n:Nat} {F F':KF} {E E':KE}
theorem zje {m:Nat} {S:St} (hk:StOk m S) (hm:m<=1000) {n b:Int} {ok:Bool} (h:qfx S.L n b ok):-9223372036854775808<=b/\b<=9223372036854775807:=by
 rcases h with ⟨_,rfl,_⟩ | ⟨_,x,a,_⟩
 ·omega
 ·have:=hk.keys _ a;dsimp only at this;omega
theorem q9z (h:EngM w base g F E n) (hn:n<=1000) (k:qh) (hwk:YW (toL k)) {K:Int->Bool->Ub}
  (hK:∀w',Uc w w'->(-9223372036854775808<=(kX E.S k).1/\(kX E.S k).1<=9223372036854775807)->K (kX E.S k).1 (kX E.S k).2 w'):QN (some ⟨g,0,none⟩) k w K:=by
 refine qhr _ _ ?_;simp only [onPtr_some];refine nwb λu m o H=>?_;have l:=(h.ext o).drew;have c:=m.drew;have p:=o.drew;unfold kX at hK;refine lI (x:=k.Id) (m.cells 8 _ rfl) (cO (λe=>?_) λe=>?_)
 ·rw [if_pos (eq_of_beq e)] at hK;refine qS (x:=some ⟨F.sg,0,none⟩) (l.blk.cells 1 _ rfl) (lI (x:=k.Number) (c.cells 9 _ rfl) ?_);refine q6e l.st h.ok k.Number λb O t D a=>?_;rw [zkr h.ok D] at hK;exact hK t (zC p a) (zje h.ok hn D)
 ·rw [if_neg (beq_eq_false_iff_ne.1 e)] at hK;have q:-9223372036854775808<=k.Id/\k.Id<=9223372036854775807:=hwk 8;refine qS (x:=some ⟨F.sg,0,none⟩) (l.blk.cells 1 _ rfl) (lI (x:=k.Id) (c.cells 8 _ rfl) ⟨?_,?_⟩)
  ·refine qui l.st k.Id λt a=>?_;refine nwb λv y d I=>?_;have r:=(c.ext a).ext d;have J:=(l.ext a).ext d;refine ⟨r.cells 8 _ rfl,J.blk.cells 1 _ rfl,?_⟩;refine qD y (le_refl _) λw4 z j A=>?_;have f:Chg (λi=>i=t.heap.size) v w4:=Chg.of_grown j λk B=>by cases B;rfl
   have P:=a.size;have L:=c.lt;have M:w.heap.size<=u.drew.heap.size:=p.size;refine lI (x:=k.Id) ((r.chg f λe=>by omega).cells 8 _ rfl) ?_;exact hK w4 (b1o (vN p a d) f (by omega)) q
  ·refine nwb λt C a N=>?_;have s:=c.ext a;have G:=l.ext a;refine ⟨s.cells 8 _ rfl,G.blk.cells 1 _ rfl,?_⟩;refine qui G.st k.Id λv d=>?_;refine qD (C.ext d) (le_refl _) λw4 z j A=>?_;have f:Chg (λi=>i=u.drew.heap.size) v w4:=Chg.of_grown j λk B=>by cases B;rfl
   have L:=c.lt;have M:w.heap.size<=u.drew.heap.size:=p.size;refine lI (x:=k.Id) (((s.ext d).chg f λe=>by omega).cells 8 _ rfl) ?_;exact hK w4 (b1o (vN p a d) f (by omega)) q
theorem zc2 {m:Nat} {S:St} (hk:StOk m S) (id:Int):∀k,ka (S.use id) k->ka S k:=by
 rintro k ⟨p,c,d⟩;unfold St.use at c;split at c
 ·rename_i x f;obtain ⟨a,b⟩:=p;rcases (y4 hk.srt _ _ a b).1 c with ⟨rfl,rfl⟩ | ⟨_,e⟩
  ·exact ⟨(a,x),(xF hk.srt).1 f,d⟩
  ·exact ⟨(a,b),e,d⟩
 ·exact ⟨p,c,d⟩
theorem zd6 (h:EngM w base g F E n) (hn:n<=900) (hT:Tab w) (h4:4<=base) {k:qh} (hwk:YW (toL k)) (v:qu) {K:qg->Ub}
  (hK:∀r F' w',qlk w' r (q7s E k v).2->EngT base g w F F' (q7s E k v).1 (n+2) w'->(∀j,r.Reply.blk=some j->w.heap.size<=j/\¬vC g F' j)->K r w'):ZW (some ⟨g,0,none⟩) k v w K:=by
 refine qkj _ _ _ ?_;simp only [onPtr_some];refine nwb λw1 ad N ar=>nwb λw2 ae B au=>nwb λw3 O s av=>?_;have B3:=vN N B s;have P:=(ad.ext B).ext s;have af:=ae.ext s;have h3:=h.ext B3;have nE:∀{b:Nat},w.heap.size<=b->¬vC g F b:=λQ T=>by have:=(h.below _ T).2;omega
 have U:∀{b:Nat},w.heap.size<=b->¬F.LS b:=λQ T=>nE Q (.inr (.inr (.inr T)));have C:qea qB:=by decide
 have z1:=N.size;have z2:=B.size;have z3:=s.size;have aw:=O.lt;refine qz (r:=qh.rep) (x:=k) P.cells ?_;refine q9z h3 (by omega) k hwk λw4 f ah=>?_;unfold q7s at hK;generalize (kX E.S k).1=id at *;generalize (kX E.S k).2=is_ at *;have B4:=zC B3 f;have V:=P.ext f;have ai:=af.ext f;have W:=O.ext f;have z4:=f.size;cases is_
 ·simp only [if_true] at hK;refine cT rfl (qz (r:=qh.rep) (x:=k) V.cells ?_);refine Z5 (hT.ext B4) hwk 7 [] (by simp) λq w5 hq X D=>?_;have l:=W.ext X;refine zN (r:=qg.rep) (x:=⟨q,0,0,false⟩) l rfl rfl λw6 Y ax=>?_;exact hK _ F w6 ⟨hq.chg Y λa G e=>by have:=D a.block (slk.2 ⟨a,G,rfl⟩);omega,rfl,rfl,rfl⟩ (((EngT.of_ext h (zC B4 X)).up (by omega)).other l C (U (by omega)) (by omega) Y) (λj o=>⟨by have:=D j o;omega,λH=>by have:=(h.below _ H).2;have:=D j o;omega⟩)
 ·rw [if_neg (by decide)] at hK;refine cF rfl ?_;show stK ⟨w.heap.size,8,none⟩ _ _ _;refine qD V (by show (8+1:Nat)<=22;omega) λw5 I aj ay=>?_;have J:Chg (λi=>i=w.heap.size) w4 w5:=Chg.of_grown aj λk T=>by cases T;rfl
  have I:Blk w5 w.heap.size zg (qh.rep.cells { k with Id:=id }):=I;have B5:=b1o B4 J (le_refl _);have Z:=ai.chg J λe=>by omega
  have l:=W.chg J λe=>by omega
  have h5:=EngT.of_ext h B5;have az:=Z.lt;have a1:=l.lt;refine qz (r:=qh.rep) (x:={ k with Id:=id }) I.cells (qz (r:=qu.rep) (x:=v) Z.cells ?_);refine qry h5.m (by omega) (hT.ext B5) h4 (zdk hwk ah) id v λr M w6 aa h6 d=>?_;generalize xK E { k with Id:=id } id v=R at *;obtain ⟨E6,R6,ok⟩:=R;dsimp only at aa h6 hK ⊢;have ak:=h5.trans h6;have al:=l.chg h6.chg (nE (by omega));refine jS (vs:=qg.rep.cells r) rfl λw8 L u a2=>?_;have p:=ak.ext u;have y:=al.ext u;have z:=aa.ext u;have z5:=B5.size;have z8:=u.size;have z6:=h6.chg.size;have ab:∀{b:Nat},w.heap.size<=b->b<w5.heap.size->¬M.LS b:=λh1 h2 H=>by
   rcases h6.ls _ H with h7 | h7
   ·exact U h1 h7
   ·omega
  cases ok
  ·rw [if_neg (by decide)] at hK;refine cF rfl (qz (r:=qg.rep) (x:=r) L.cells ?_);refine zN (r:=qg.rep) (x:=r) y rfl rfl λw9 c a3=>?_;exact hK r M w9 ⟨z.1.chg c λa G e=>by have:=(d a.block (slk.2 ⟨a,G,rfl⟩)).1;omega,z.2⟩ ((p.up (by omega)).other y C (ab (by omega) (by omega)) (by omega) c) (λj o=>⟨by have:=(d j o).1;omega,(d j o).2⟩)
  ·rw [if_pos rfl] at hK;refine cT rfl (qS (x:=some ⟨M.sg,0,none⟩) (p.m.blk.cells 1 _ rfl) ?_);refine zio p.m.st p.m.ok (by omega) id λw9 am c=>?_;have h9:=p.trans (EngT.store p.m am (zoa p.m.ok id) (by omega) c λj o=>.inl (zc2 p.m.ok id j o));have nS:∀{b:Nat} {t:TypeId} {vs:List Value},Blk w8 b t vs->t≠zU->¬onS M.sg M.sr b:=λQ ht H=>by
    rcases H with e | e
    ·exact Q.ne_t p.m.st.blk ht e
    ·exact p.m.st.map.ne_blk Q e.symm
   have an:=L.chg c (nS L (by decide));have ac:=y.chg c (nS y (by decide));have z9:=c.size;refine qz (r:=qg.rep) (x:=r) an.cells ?_;refine zN (r:=qg.rep) (x:=r) ac rfl rfl λao A aq=>?_;refine hK r M ao ⟨?_,z.2⟩ (h9.other ac C (ab (by omega) (by omega)) (by omega) A) (λj o=>⟨by have:=(d j o).1;omega,(d j o).2⟩);have ap:Rd qo w9 r.Reply R6.reply:=z.1.chg c λa G H=>?_
   ·exact ap.chg A λa G e=>by have:=(d a.block (slk.2 ⟨a,G,rfl⟩)).1;omega
   ·exact (d a.block (slk.2 ⟨a,G,rfl⟩)).2 (.inr (.inl H))
end
def Sml (L:List Int):Prop:=∀x∈L,-4294967296<=x/\x<=4294967295
theorem Sml.set {L:List Int} (h:Sml L) (j:Nat) {x:Int} (hx:-4294967296<=x/\x<=4294967295):Sml (L.set j x):=λy a=>by
 rcases List.mem_or_eq_of_mem_set a with b | rfl
 ·exact h y b
 ·exact hx
theorem zg6 {v:List UInt8} {n:Nat} (h:Yy v=some n):n<=4294967295:=by
 unfold Yy at h;split at h
 ·cases h
 ·obtain ⟨m,_,a⟩:=Option.bind_eq_some_iff.1 h;split at a
  ·cases a;assumption
  ·cases a
theorem zfl {v:List UInt8} {m:Int} (h:qon v=some m):-4294967296<=m/\m<=4294967295:=by
 have c:∀x:Int,zej x=true->-4294967296<=x/\x<=4294967295:=λx d=>by
  unfold zej at d;simp only [Bool.and_eq_true,decide_eq_true_eq] at d;omega
 unfold qon at h;split at h
 all_goals
  obtain ⟨n,_,b⟩:=Option.bind_eq_some_iff.1 h;split at b
  ·rename_i a;injection b with b
   rw [<-b];exact c _ a
  ·cases b
theorem zii {k k':List Int} {s:List UInt8} (hk:Sml k/\k.length=22) (h:qpz k s=some k'):Sml k'/\k'.length=22:=by
 have c:∀(j:Nat) {x:Int},(-4294967296<=x/\x<=4294967295)->Sml (k.set j x)/\(k.set j x).length=22:=λj x f=>⟨hk.1.set j f,by rw [List.length_set];exact hk.2⟩;unfold qpz at h;split at h
 ·split at h
  ·cases h
  ·split at h
   ·obtain ⟨m,d,rfl⟩:=Option.map_eq_some_iff.1 h;exact c _ (zfl d)
   ·split at h
    ·rename_i j _;unfold zci at h;split at h
     ·rename_i b;split at h
      ·cases h;have:=b.toNat_lt;exact c _ (by omega)
      ·cases h
     ·cases h
    ·split at h
     ·obtain ⟨m,d,rfl⟩:=Option.map_eq_some_iff.1 h;obtain ⟨a,g,e⟩:=Option.bind_eq_some_iff.1 d;have:=zg6 g;injection e with e
      exact c _ (by omega)
     ·cases h;exact hk
 ·cases h
theorem q9g:∀(l:List (List UInt8)) (k k':List Int),(Sml k/\k.length=22)->l.foldlM qpz k=some k'->Sml k'/\k'.length=22
 | [],k,k',hk,h=>by
  cases h;exact hk
 | s::l,k,k',hk,h=>by
  rw [List.foldlM_cons] at h;obtain ⟨k1,a,b⟩:=Option.bind_eq_some_iff.1 h;exact q9g l k1 k' (zii hk a) b
theorem qvg:Sml xx/\xx.length=22:=by
 refine ⟨?_,rfl⟩;intro x a;simp [xx] at a;omega
theorem ze9 (b:List UInt8):Sml (JM b).1/\(JM b).1.length=22:=by
 have a:Sml qcr/\qcr.length=22:=by
  refine ⟨λx c=>?_,rfl⟩;unfold qcr at c;have:=List.eq_of_mem_replicate c;omega
 unfold JM;split
 ·exact a
 ·split
  ·exact qvg
  ·split
   ·rename_i k d;exact q9g _ _ _ qvg d
   ·exact a
theorem zby (b:List UInt8):YW (toL (ofL (JM b).1)):=by
 obtain ⟨a,c⟩:=ze9 b;rw [zhb c];intro i;cases hx:(JM b).1[i]? with
 | none=>simp
 | some x =>
  have:=a x (List.mem_of_getElem? hx);simp only [getD_some];omega
noncomputable def goK (E:KE) (k:qh) (ts:List UInt8) (P:Slc) (v:qu):KE×KR :=
 if k.Action=112 then q7s E k v else qog E k ts P v
def Jd (c:List UInt8):qh:=ofL (JM (KG 59 c)).1
structure CmdOk (r:List UInt8):Prop where
 ok:(JM (KG 59 r)).2=0
 raw:(Jd r).Format≠100/\(Jd r).Zip≠122
 act:(Jd r).Action=116\/(Jd r).Action=84\/(Jd r).Action=113\/(Jd r).Action=112
noncomputable def zfb (E:KE) (k:qh) (ts:List UInt8) (P:Slc) (v:qu):KE×KR:=match E.ld with
 | some (C,s)=>qer E C s k ts P v
 | none=>goK E k ts P v
noncomputable def doK (E:KE) (r:List UInt8) (P:Slc) (v:qu):KE×KR:=zfb E (Jd r) (qa5 59 r) P v
section
variable {w w':World} {base g n:Nat} {F F':KF} {E E':KE}
theorem zln {s:Slc} {b:UInt8} {r:List UInt8} (h:Rd qo w s (b::r)) {a:Addr} (ha:s.a=some a):a.spot=none:=by
 have c:=h.at_ 0 b rfl 0 (.int .u8 (b.toNat:Int)) rfl;have e:((s.at_ qo.k 0).add 0).spot=a.spot:=by
  unfold Slc.at_;rw [ha];rfl
 cases hs:a.spot with
 | none=>rfl
 | some x =>
  exfalso;unfold World.cell? at c;rw [e,hs] at c;split at c
  ·cases c
  ·cases c
theorem zl1 (h:EngM w base g F E n) (hn:n<=900) (hT:Tab w) (h4:4<=base) (hq:E.quota<=100000) {c:Slc} {bs:List UInt8} (hbs:bs.length<=39999) (hc:Rd qo w c (71::bs))
  (hld:∀C s,E.ld=some (C,s)->s.over=false/\qft s+3*bs.length<=120000/\YW (toL E.first)) (hok:CmdOk bs) (v:qu) {K:qg->Ub}
  (hK:∀P r F' w',qlk w' r (doK E bs P v).2->EngT base g w F F' (doK E bs P v).1 (n+2) w'->(∀j,r.Reply.blk=some j->w.heap.size<=j/\¬vC g F' j)->(∀j,P.blk=some j->w.heap.size<=j)->K r w'):ko (some ⟨g,0,none⟩) c v w K:=by
 refine qmk _ _ _ ?_;refine nwb λD ap T a6=>nwb λw2 U G a7=>?_;have B2:=zC T G;have V:=ap.ext G;have z1:=T.size;have z2:=G.size;have a8:=U.lt;have a9:=V.lt;have nE:∀{b:Nat},w.heap.size<=b->¬vC g F b:=λW hk=>by have:=(h.below _ hk).2;omega
 have X:∀{b:Nat},w.heap.size<=b->¬F.LS b:=λW hk=>nE W (.inr (.inr (.inr hk)));have Y:qea qB:=by decide
 have H:∀(P:Slc) (r:qg) (R:KR) (F':KF) (E':KE) (Z:World) (vs:List Value),vs.length=4->Blk Z D.heap.size qB vs->EngT base g w F F' E' (n+2) Z->qlk Z r R->¬F'.LS D.heap.size ->
   (∀j,r.Reply.blk=some j->D.heap.size<j/\¬vC g F' j)->(∀j,P.blk=some j->w.heap.size<=j)->doK E bs P v=(E',R)->stK ⟨D.heap.size,0,none⟩ (qg.rep.cells r) Z λaa=>ldS qg.rep ⟨D.heap.size,0,none⟩ aa λaq=>K aq aa:=by
  intro P r R F' E' Z vs ar W hE hr au hf u hd;refine zN (r:=qg.rep) (x:=r) W rfl (by rw [ar];rfl) λI ac ba=>?_;refine hK P r F' I ?_ ?_ (λj d=>⟨by have:=(hf j d).1;omega,(hf j d).2⟩) u
  ·rw [hd];exact ⟨hr.1.chg ac λa ha e=>by have:=(hf a.block (slk.2 ⟨a,ha,rfl⟩)).1;omega,hr.2⟩
  ·rw [hd];exact hE.other W Y au (by omega) ac
 have ad:=hc.n;have ae:=hc.ext B2;have h2:EngT base g w F F E (n+2) w2:=(EngT.of_ext h B2).up (by omega);refine jpO λJ1 av=>?_;rw [length_cons] at ad;refine cF (by rw [ad];simp;omega) ?_;refine ae.ix (E:=qo) (i:=0) rfl (by decide) (by simp) λJ=>?_;refine lI (x:=((71:UInt8).toNat:Int)) (by simpa using J 0 _ rfl) ?_;refine cF rfl (av _ _ ?_);refine ae.slK (E:=qo) (k:=1) (l:=1) (m:=bs.length+1) rfl (.inr rfl) (.inl ⟨rfl,by rw [length_cons]⟩) (by omega) (by rw [length_cons];omega) λaf=>?_;have er:((71::bs).take (bs.length+1)).drop 1=bs:=by simp
 rw [er] at af;obtain ⟨a,ha⟩:∃a,c.a=some a:=Option.isSome_iff_exists.1 (hc.some_ (by simp));have ah:=zln hc ha;have ai:∃o,cut c.a 1 c.c qo.k=some ⟨a.block,o,none⟩:=by
  rw [ha];obtain ⟨ab,ao,bb⟩:=a;dsimp only at ah;subst ah;unfold cut;split
  ·exact ⟨_,rfl⟩
  ·exact ⟨_,rfl⟩
 obtain ⟨o,ho⟩:=ai;refine q66 af (g:=a.block) (o:=o) ho (by omega) λp q w4 aj hp aw bc ax=>?_;refine zca hp λw5 L=>?_;have M:YW (toL (Jd bs)):=zby (KG 59 bs);have N:∀P,doK E bs P v=zfb E (Jd bs) (qa5 59 bs) P v:=λP=>rfl;have bd:=q3h 59 bs;have ay:(qa5 59 bs).length<=40000:=by omega
 obtain ⟨hx,ak,a5⟩:=hok;rw [hx];have ek:ofL (JM (KG 59 bs)).1=Jd bs:=rfl;rw [ek];generalize Jd bs=k at *;generalize qa5 59 bs=ts at *;refine jS (vs:=qh.rep.cells k) rfl λw7 y O be=>?_;have B:Uc w2 w7:=vN aj L O;have B7:=zC B2 B;have Q:=V.ext B;have al:=U.ext B;have h7:=EngT.of_ext h B7;have am:=(aw.ext L).ext O;have z4:=aj.size;have z5:=L.size;have z7:=O.size;have bf:=B.size;refine cF rfl (jpO λJ2 az=>?_);have qe:∀j,q.blk=some j->¬vC g F j:=λj d=>nE (by have:=ax j d;omega);simp only [onPtr_some];have t:=h7.m;have S:=hT.stepK h h4 h7;have nF:∀{F2:KF} {E2:KE} {w2':World},EngT base g w7 F F2 E2 (n+2) w2'->¬F2.LS D.heap.size:=λhT hs=>by
  rcases hT.ls _ hs with h3 | h3
  ·exact X (by omega) h3
  ·omega
 have keep:∀{F2:KF} {E2:KE} {w2':World} {m:Nat},EngT base g w7 F F2 E2 m w2'->Blk w2' D.heap.size qB [(.slice none 0 0),(Ua 0),(Ua 0),(.bool false)]:=λhT=>al.chg hT.chg (t.not_in al Y (X (by omega)));cases hl:E.ld with
 | some Cs =>
  obtain ⟨C,s⟩:=Cs;obtain ⟨a1,bg,a2⟩:=hld C s hl;refine qS (x:=some ⟨F.lg,0,none⟩) (by have:=t.blk.cells 3 _ rfl;rw [hl] at this;exact this) (cT rfl ?_);refine lI (x:=k.Action) (y.cells 0 _ rfl) (cT (bne_iff_ne.2 (by omega)) ?_);refine qz (r:=qh.rep) (x:=k) y.cells (qz (r:=qu.rep) (x:=v) Q.cells ?_);refine q2n t hn S h4 hl a1 (by omega) am (λj d a3 hs=>qe j d (.inr (.inr (.inr hs)))) a2 M v λP r2 F9 I z A f u=>?_;refine H P r2 _ F9 _ I _ rfl (keep A) (h7.trans A) z (nF A) (λj d=>⟨by have:=(f j d).1;omega,(f j d).2⟩) (λj d=>by have:=u j d;omega) ?_;rw [N];unfold zfb;rw [hl]
 | none =>
 refine qS (x:=none) (by have:=t.blk.cells 3 _ rfl;rw [hl] at this;exact this) (cF rfl (az _ _ ?_));refine jpO λJ3 bh=>?_;refine lI (x:=k.Action) (y.cells 0 _ rfl) ?_;refine jpO λJ4 a4=>?_;have j4:k.Action≠112->J4 () w7:=by
  intro hw;refine a4 _ _ (qz (r:=qh.rep) (x:=k) y.cells (qz (r:=qu.rep) (x:=v) Q.cells ?_));refine q97 t hn S h4 hl hq ay am (λj d a3=>qe j d) M ak v λP r2 F9 I z A f u=>?_;refine H P r2 _ F9 _ I _ rfl (keep A) (h7.trans A) z (nF A) (λj d=>⟨by have:=(f j d).1;omega,(f j d).2⟩) (λj d=>by have:=u j d;omega) ?_;rw [N];unfold zfb;rw [hl];show goK E k ts P v=_;unfold goK;rw [if_neg hw]
 refine cO (λe=>j4 (by have:=eq_of_beq e;omega)) λe=>?_;have n1:=beq_eq_false_iff_ne.1 e;refine cO (λe=>j4 (by have:=eq_of_beq e;omega)) λe=>?_;have n2:=beq_eq_false_iff_ne.1 e;refine cO (λe=>j4 (by have:=eq_of_beq e;omega)) λe=>?_;have n3:=beq_eq_false_iff_ne.1 e;have an:k.Action=112:=by omega
 refine cT (by rw [an];rfl) ?_;refine qz (r:=qh.rep) (x:=k) y.cells (qz (r:=qu.rep) (x:=v) Q.cells ?_);refine zd6 t hn S h4 M v λr2 F9 I z A f=>?_;refine H ⟨none,0,0⟩ r2 _ F9 _ I _ rfl (keep A) (h7.trans A) z (nF A) (λj d=>⟨by have:=(f j d).1;omega,(f j d).2⟩) (λj d=>by cases d) ?_;rw [N];unfold zfb;rw [hl];show goK E k ts ⟨none,0,0⟩ v=_;unfold goK;rw [if_pos an]
end
def zor:qh:=⟨0,0,0,0,0,0,0,0,0,0,0,0,0,0,0,0,0,0,0,0,0,0⟩
def zkq (q:Int):KE:=⟨q,⟨q,0,0,0,[]⟩,[],none,zor⟩
section
variable {w w':World} {base g n:Nat} {F F':KF} {E E':KE}
theorem zgn {q:Int} {K:Option Addr->Int->Ub} (hE:YT q=1->K none 1 w)
  (hK:YT q=0->∀g F w',w.heap.size<=g->EngM w' w.heap.size g F (zkq q) 0->Uc w w'->K (some ⟨g,0,none⟩) 0 w'):qnu q w K:=by
 refine q0x _ ?_;refine zar (base:=w.heap.size) (λh=>cT rfl (hE h)) λsg sr w1 he hsg hsr hst hB1=>?_;refine cF rfl ?_;refine qy4 ?_;unfold qup;refine nwb λw2 ht2 hB2 hs2=>?_;refine nwb λw3 hg3 hB3 hs3=>?_;have B3:=vN hB1 hB2 hB3;have z1:=hB1.size;have z2:=hB2.size;have z3:=hB3.size;refine hK he w2.heap.size ⟨sg,sr,w1.heap.size,⟨none,0,0⟩,0,0,λ_=>False⟩ w3 (by omega) ⟨hg3,by omega,(hst.ext hB2).ext hB3,zmy he,⟨hsg,hsr⟩,⟨ht2.ext hB3,by omega,Go.Vc.Own.nil _ _ _⟩,le_refl _,(λC s h=>by cases h),(λ_ k h=>h),(λh=>h),⟨λh=>h,λh=>h⟩,(λk _ h=>h),λk _ h=>h⟩ B3
theorem q55 (h:EngM w base g F E n) {K:Option Addr->Ub} (hK:∀g' r' w',w.heap.size<=g'->w.heap.size<=r'->StM w' base g' r' E.S->Uc w w'->K (some ⟨g',0,none⟩) w'):QL (some ⟨g,0,none⟩) w K:=by
 refine qgl _ ?_;simp only [onPtr_some];exact qS (x:=some ⟨F.sg,0,none⟩) (h.blk.cells 1 _ rfl) (zdz h.st hK)
theorem q1n (h:EngM w base g F E n) (hn:n<=100000) {K:Option Addr->Ub} (hK:∀g' q' w',PlTM w' w.heap.size g' q' E.T->Uc w w'->K (some ⟨g',0,none⟩) w'):Qu (some ⟨g,0,none⟩) w K:=by
 refine qf0 _ ?_;simp only [onPtr_some];refine qS (x:=some ⟨F.tg,0,none⟩) (h.blk.cells 2 _ rfl) ?_;refine qlr _ ?_;simp only [onPtr_some];refine lSl (x:=F.q) (h.tb.blk.cells 0 _ rfl) ?_;refine qsk h.tb.own.rd (le_trans h.tl hn) λr i c a=>?_;refine nwb λd e b f=>?_;exact hK _ r d ⟨e,a.size,c.ext b⟩ (zC a b)
end
end Go.Proofs.YtjhgepnpnapnoaaGreatDoor
