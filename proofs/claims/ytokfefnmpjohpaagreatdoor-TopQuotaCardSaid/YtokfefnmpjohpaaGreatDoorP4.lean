import Derived.Test.YtokfefnmpjohpaaGreatDoorP3
import Derived.Test.YtokfefnmpjohpaaGreatDoorP1
import Derived.Lib.SlBytesConst
import Derived.Lib.AppendStr
set_option linter.unusedVariables false
namespace Go.Proofs.YtokfefnmpjohpaaGreatDoor
open Go.Vc Go.RowKit
set_option maxRecDepth 400000
open Builtin (copy_)
open _root_.Int (toNat_natCast)
open IntKind (i64 u32)
open Lib (indexByte)
open _root_.List (append_assoc length_append length_cons length_drop length_nil length_singleton length_take take_add_one take_length)
open _root_.Nat (le_refl le_trans mul_one zero_add zero_le)
open _root_.Option (getD_some)
def qvz:List UInt8:=[65,66,67,68,69,70,71,72,73,74,75,76,77,78,79,80,81,82,83,84,85,86,87,88,89,90,97,98,99,100,101,102,103,104,105,106,107,108,109,110,111,112,113,114,115,116,117,118,119,120,121,122,48,49,50,51,52,53,54,55,56,57,43,47]
def q9j (c:UInt8):Option Nat :=
 if 65<=c.toNat/\c.toNat<=90 then some (c.toNat-65) else if 97<=c.toNat/\c.toNat<=122 then some (c.toNat-97+26) else if 48<=c.toNat/\c.toNat<=57 then some (c.toNat-48+52) else if c.toNat=43 then some 62 else if c.toNat=47 then some 63 else none
theorem q8c {c:UInt8} {v:Nat} (h:q9j c=some v):v<64:=by
 unfold q9j at h
 repeat' split at h
 all_goals (first | (cases h;omega) | cases h)
def q9f (c:UInt8):Int:=match q9j c with | some v=>(v:Int) | none=>-1
theorem q8n {P:UInt8->Prop} (h:∀n,n<256->P (UInt8.ofNat n)) (c:UInt8):P c:=by
 have:=h c.toNat c.toNat_lt
 rwa [UInt8.ofNat_toNat] at this
theorem zcq (c:UInt8):indexByte qvz c=q9f c:=by
 have h:∀n,n<256->indexByte qvz (UInt8.ofNat n)=q9f (UInt8.ofNat n):=by decide +kernel
 exact q8n (P:=λc=>indexByte qvz c=q9f c) h c
structure B64 where
 w:List Nat
 f:Nat
 last:Bool
 bad:Bool
def q84:B64:=⟨[],0,false,false⟩
def q4l:B64:=⟨[],0,false,true⟩
def qc0 (w:List Nat):Nat:=w.foldl (λa x=>64*a+x) 0
def be3 (v:Nat):List UInt8:=[UInt8.ofNat (v/2^16),UInt8.ofNat (v/2^8),UInt8.ofNat v]
def qwr (w:List Nat):List UInt8:=(be3 (qc0 w*2^(6*(4-w.length)))).take (w.length*6/8)
def qig (w:List Nat):Bool:=decide (qc0 w%2^(w.length*6%8)=0)
def yC (s:B64):List UInt8×B64:=if s.w.length+s.f<4 then ([],s) else (qwr s.w,⟨[],0,decide (0<s.f),false⟩)
def Yy (s:B64) (c:UInt8):Option (List UInt8×B64) :=
 if s.last then none
 else if c.toNat=61 then (if s.w.length+s.f<2\/qig s.w=false then none else some (yC { s with f:=s.f+1 }))
 else match q9j c with
  | none=>none
  | some v=>if 0<s.f then none else some (yC { s with w:=s.w++[v] })
def vL (s:B64) (c:UInt8):Nat×List UInt8×B64 :=
 if s.bad then (3,[],q4l) else match Yy s c with
  | none=>(3,[],q4l)
  | some (o,s')=>(0,o,s')
def qaa (s:B64):Nat×List UInt8×B64 :=
 if s.bad\/s.w.length+s.f=1\/0<s.f\/qig s.w=false then (3,[],q4l) else (0,qwr s.w,q84)
structure B64Ok (s:B64):Prop where
 n:s.w.length+s.f<4
 v:∀x∈s.w,x<64
 two:0<s.f->2<=s.w.length
theorem zaa (w:List Nat) (x:Nat):qc0 (w++[x])=64*qc0 w+x:=by simp [qc0]
theorem q74:∀(w:List Nat) (a n:Nat),a<64^n->(∀x∈w,x<64)->w.foldl (λa x=>64*a+x) a<64^(n+w.length)
 | [],a,n,h,_=>by simpa using h
 | x::w,a,n,h,hw=>by
  have hx:=hw x (by simp);have:=q74 w (64*a+x) (n+1) (by rw [Nat.pow_succ];omega) λy hy=>hw y (by simp [hy]);rw [List.foldl_cons,length_cons,show n+(w.length+1)=n+1+w.length by omega];exact this
theorem qs5 (w:List Nat) (h:∀x∈w,x<64):qc0 w<64^w.length:=by
 have:=q74 w 0 0 (by decide) h
 rwa [zero_add] at this
theorem qyr:B64Ok q4l:=⟨by decide,by simp [q4l],by simp [q4l]⟩
theorem q77:B64Ok q84:=⟨by decide,by simp [q84],by simp [q84]⟩
theorem qxj {s:B64} (h1:s.w.length+s.f<=4) (h2:∀x∈s.w,x<64) (h3:0<s.f->2<=s.w.length):B64Ok (yC s).2:=by
 unfold yC;split
 ·exact ⟨by assumption,h2,h3⟩
 ·exact ⟨by simp,by simp,by simp⟩
theorem q9w {s:B64} (h:B64Ok s) (c:UInt8):B64Ok (vL s c).2.2:=by
 unfold vL;split
 ·exact qyr
 ·cases hp:Yy s c with
  | none=>exact qyr
  | some r =>
   obtain ⟨o,s'⟩:=r;show B64Ok s';unfold Yy at hp;split at hp
   ·cases hp
   ·split at hp
    ·split at hp
     ·cases hp
     ·rename_i hc;have:=Option.some.inj hp;have e:s'=(yC { s with f:=s.f+1 }).2:=by rw [this]
      rw [e];refine qxj (by have:=h.n;show s.w.length+(s.f+1)<=4;omega) h.v λ_=>?_;show 2<=s.w.length;by_cases hf:0<s.f
      ·exact h.two hf
      ·omega
    ·cases hv:q9j c with
     | none=>rw [hv] at hp;cases hp
     | some v =>
      rw [hv] at hp;dsimp only at hp;split at hp
      ·cases hp
      ·rename_i hf;have:=Option.some.inj hp;have e:s'=(yC { s with w:=s.w++[v] }).2:=by rw [this]
       rw [e];refine qxj (by have:=h.n;show (s.w++[v]).length+s.f<=4;rw [length_append,length_singleton];omega) (λx hx=>?_) λh0=>absurd h0 hf;rcases List.mem_append.1 hx with hx | hx
       ·exact h.v x hx
       ·rw [List.mem_singleton] at hx;subst hx;exact q8c hv
theorem zbh (w:List Nat) (h:w.length<=4):(qwr w).length=w.length*6/8:=by
 unfold qwr;rw [length_take];show min _ 3=_;omega
def q5r (s:B64):List Value:=[.int .u32 (qc0 s.w:Int),.int .i64 ((s.w.length+s.f:Nat):Int),.int .i64 (s.f:Int),.bool s.last,.bool s.bad]
def ZR (w:World) (g:Nat) (s:B64):Prop:=Blk w g Jn (q5r s)
section
variable {w:World} {g:Nat} {s:B64}
theorem qtd {bs:List UInt8} {c:UInt8} {i:Int} (hi:i=c.toNat) {K:Int->Ub} (hK:K (indexByte bs c) w):x9 (qS bs) i w K:=by
 subst hi;refine Calls.mono (Tryz.strings_IndexByte (qS bs) c.toNat w) ?_;rintro e w' ⟨rfl,rfl⟩;refine ⟨_,rfl,?_⟩;rw [show ((c.toNat:Int)).toNat.toUInt8=c by simp];exact hK
theorem q0z {n:Nat} (h:n<=4):64^n<=16777216:=le_trans (Nat.pow_le_pow_right (by decide) h) (by decide)
theorem qrk (h:ZR w g s) (hn:s.w.length+s.f<=4) (hv:∀x∈s.w,x<64) {K:Slc->Ub} (hK:∀t w',Rd qm w' t (qwr s.w)->(∀k,t.blk=some k->w.heap.size<=k)->ZR w' g s->Uc w w'->K t w'):xE (some ⟨g,0,none⟩) w K:=by
 refine qay _ ?_;simp only [onPtr_some];have hvl:=Nat.lt_of_lt_of_le (qs5 s.w hv) (q0z (n:=s.w.length) (by omega));have hd:ZR w.drew g s:=h.ext (bdw w);have hdd:ZR w.drew.drew g s:=hd.ext (bdw _);refine lI (x:=(qc0 s.w:Int)) (hd.cells 0 _ rfl) (lI (x:=((s.w.length+s.f:Nat):Int)) (hd.cells 1 _ rfl) (lI (x:=(s.f:Int)) (hd.cells 2 _ rfl) ?_));have es:i64.wrap ((6:Int)*(i64.wrap ((i64.wrap ((4:Int)-((s.w.length+s.f:Nat):Int)))+(s.f:Int))))=((6*(4-s.w.length):Nat):Int):=by
  rw [qP (x:=(4:Int)-((s.w.length+s.f:Nat):Int)) (by omega),qP (x:=(4:Int)-((s.w.length+s.f:Nat):Int)+(s.f:Int)) (by omega),qP (by omega)];omega
 rw [es];refine ⟨by omega,by decide,by decide,?_⟩;refine lI (x:=((s.w.length+s.f:Nat):Int)) (hdd.cells 1 _ rfl) (lI (x:=(s.f:Int)) (hdd.cells 2 _ rfl) ⟨by decide,?_⟩);have hpw:qc0 s.w*2^(6*(4-s.w.length))<2^24:=by
  have h1:=qs5 s.w hv;have e:(64:Nat)^s.w.length=2^(6*s.w.length):=by rw [Nat.pow_mul]
  rw [e] at h1;have h2:qc0 s.w*2^(6*(4-s.w.length))<2^(6*s.w.length)*2^(6*(4-s.w.length)):=Nat.mul_lt_mul_of_pos_right h1 (Nat.pow_pos (by decide));rw [<-Nat.pow_add,show 6*s.w.length+6*(4-s.w.length)=24 by omega] at h2;exact h2
 have ev:u32.wrap ((qc0 s.w:Int)*2^(min ((6*(4-s.w.length):Nat):Int).toNat u32.bits))=((qc0 s.w*2^(6*(4-s.w.length)):Nat):Int):=by
  rw [toNat_natCast,show min (6*(4-s.w.length)) u32.bits=6*(4-s.w.length) by show min _ 32=_;omega,qi3];exact jE .u32 (show _<2^32 by omega)
 rw [ev];obtain ⟨V,hV⟩:∃V,V=qc0 s.w*2^(6*(4-s.w.length)):=⟨_,rfl⟩;rw [<-hV,show min ((16:Int)).toNat u32.bits=16 by decide,show min ((8:Int)).toNat u32.bits=8 by decide,qtw,qtw,quz,quz,quz];refine nwb λw1 h1 hB1 hs1=>?_;have hBw1:=bT (bT (bdw w) (bdw _)) hB1;have h11:ZR w1 g s:=h.ext hBw1;refine ⟨h11.cells 2 _ rfl,h11.cells 1 _ rfl,?_⟩;have el:i64.wrap ((i64.wrap ((i64.wrap (((s.w.length+s.f:Nat):Int)-(s.f:Int)))*(6:Int))).tdiv (8:Int))=((s.w.length*6/8:Nat):Int):=by
  rw [qP (x:=((s.w.length+s.f:Nat):Int)-(s.f:Int)) (by omega),show ((s.w.length+s.f:Nat):Int)-(s.f:Int)=(s.w.length:Int) by omega,qP (x:=(s.w.length:Int)*6) (by omega),show (s.w.length:Int)*6=((s.w.length*6:Nat):Int) by simp,show (8:Int)=((8:Nat):Int) from rfl,<-Int.ofNat_tdiv,qP (by omega)]
 rw [el];have hr:Rd qm w1 ⟨some ⟨w.drew.drew.heap.size,0,none⟩,3,3⟩ (be3 V):=Go.Vc.rd_lits (E:=qm) (ys:=be3 V) h1 (by show 3<=maxLen;simp [maxLen]) rfl;refine hr.slK (l:=0) (m:=s.w.length*6/8) rfl (.inl ⟨rfl,rfl⟩) (.inr rfl) (by omega) (by show _<=3;omega) λhp=>?_;rw [List.drop_zero,hV] at hp;refine hK _ w1 hp (λk hk=>?_) h11 hBw1;obtain ⟨a,ha,rfl⟩:=slk.1 hk;obtain ⟨a',ha',e⟩:=Go.Vc.cut_block (show cut (some ⟨w.drew.drew.heap.size,0,none⟩) 0 3 1=some a from ha);cases ha';rw [e];exact le_refl _
theorem qrt (h:ZR w g s) (hn:s.w.length+s.f<=4) (hv:∀x∈s.w,x<64) {K:Bool->Ub} (hK:K (qig s.w) w.drew):xC (some ⟨g,0,none⟩) w K:=by
 refine qa2 _ ?_;simp only [onPtr_some];have hvl:=Nat.lt_of_lt_of_le (qs5 s.w hv) (q0z (n:=s.w.length) (by omega));have hd:ZR w.drew g s:=h.ext (bdw w);refine lI (x:=(qc0 s.w:Int)) (hd.cells 0 _ rfl) (lI (x:=((s.w.length+s.f:Nat):Int)) (hd.cells 1 _ rfl) (lI (x:=(s.f:Int)) (hd.cells 2 _ rfl) ⟨by decide,?_⟩));have el:((i64.wrap ((i64.wrap (((s.w.length+s.f:Nat):Int)-(s.f:Int)))*(6:Int))).tmod (8:Int))=((s.w.length*6%8:Nat):Int):=by
  rw [qP (x:=((s.w.length+s.f:Nat):Int)-(s.f:Int)) (by omega),show ((s.w.length+s.f:Nat):Int)-(s.f:Int)=(s.w.length:Int) by omega,qP (x:=(s.w.length:Int)*6) (by omega),show (s.w.length:Int)*6=((s.w.length*6:Nat):Int) by simp,show (8:Int)=((8:Nat):Int) from rfl,<-Int.ofNat_tmod]
 rw [el];refine ⟨by omega,?_⟩;have hm:s.w.length*6%8<8:=Nat.mod_lt _ (by decide);have hp:2^(s.w.length*6%8)<=2^8:=Nat.pow_le_pow_right (by decide) (by omega);have hp0:0<2^(s.w.length*6%8):=Nat.pow_pos (by decide);have em:u32.wrap ((u32.wrap ((1:Int)*2^(min ((s.w.length*6%8:Nat):Int).toNat u32.bits)))-(1:Int))=((2^(s.w.length*6%8)-1:Nat):Int):=by
  rw [toNat_natCast,show min (s.w.length*6%8) u32.bits=s.w.length*6%8 by show min _ 32=_;omega,show (1:Int)=((1:Nat):Int) from rfl,qi3,Nat.one_mul];generalize 2^(s.w.length*6%8)=q at hp hp0 ⊢;rw [jE .u32 (show q<2^32 by omega),show (q:Int)-((1:Nat):Int)=((q-1:Nat):Int) by omega];exact jE .u32 (show q-1<2^32 by omega)
 rw [em,q0o .u32 (show _<2^32 by omega) (show _<2^32 by omega),Nat.and_two_pow_sub_one_eq_mod];have:((((qc0 s.w%2^(s.w.length*6%8):Nat):Int))==(0:Int))=qig s.w:=by
  unfold qig;generalize qc0 s.w%2^(s.w.length*6%8)=q;rw [Bool.eq_iff_iff];simp
 rw [this];exact hK
theorem q9g {c:UInt8} (h:ZR w g s) (hs:B64Ok s) (hb:s.bad=false) {K:Slc->Bool->Ub} (hN:Yy s c=none->∀w',Uc w w'->K ⟨none,0,0⟩ false w')
  (hY:∀o s' t w',Yy s c=some (o,s')->Rd qm w' t o->(∀k,t.blk=some k->w.heap.size<=k)->ZR w' g s'->Chg (λk=>k=g) w w'->K t true w'):yS (some ⟨g,0,none⟩) (c.toNat:Int) w K:=by
 refine qd6 _ _ ?_;simp only [onPtr_some];have hn:=hs.n;have hgl:=h.lt;refine qtd (bs:=qvz) rfl ?_;rw [zcq];refine jpO λJ1 hJ1=>?_;have fin:∀s1 w2,s1.w.length+s1.f=s.w.length+s.f+1->s1.last=false->s1.bad=false->(∀x∈s1.w,x<64)->Blk w2 g Jn [.int .u32 (qc0 s1.w:Int),.int .i64 ((s.w.length+s.f:Nat):Int),.int .i64 (s1.f:Int),.bool s1.last,.bool s1.bad]->Chg (λk=>k=g) w w2->Yy s c=some (yC s1)->J1 () w2:=by
  intro s1 w2 hl hla hba hv hb2 hc2 hp;refine hJ1 _ _ ?_;refine lI (x:=((s.w.length+s.f:Nat):Int)) (hb2.cells 1 _ rfl) ?_;rw [q4,qP (by omega),show ((s.w.length+s.f:Nat):Int)+1=((s1.w.length+s1.f:Nat):Int) by omega];refine qw hb2 (by simp) λw3 hb3 hg3 hs3=>?_;have hc3:Chg (λk=>k=g) w2 w3:=Go.Vc.Chg.gg hg3;have hd3:ZR w3 g s1:=hb3;refine lI (x:=((s1.w.length+s1.f:Nat):Int)) (hd3.cells 1 _ rfl) ?_;have hc03:=hc2.trans hc3 λi _ hi=>hi;refine cO (λe=>?_) λe=>?_
  ·have e:=oTq e;refine hY [] s1 ⟨none,0,0⟩ w3 ?_ (Rd.nil _ _) (λk hk=>by cases hk) hd3 hc03;rw [hp];unfold yC;rw [if_pos (by omega)]
  ·have e:=oFq e;refine qrk hd3 (by omega) hv λt w4 ht htb hd4 hB4=>?_;refine lI (x:=(s1.f:Int)) (hd4.cells 2 _ rfl) ?_;refine x5 hd4 rfl λw5 hd5 hc5 hs5=>?_;have hs13:=hc03.size;refine hY (qwr s1.w) ⟨[],0,decide (0<s1.f),false⟩ t w5 ?_ (ht.chg hc5 λa ha e=>?_) (λk hk=>by have:=htb k hk;omega) ?_ ?_
   ·rw [hp];unfold yC;rw [if_neg (by omega)]
   ·have:=htb a.block (slk.2 ⟨a,ha,rfl⟩);omega
   ·have:decide ((s1.f:Int)>0)=decide (0<s1.f):=by rw [decide_eq_decide];omega
    rw [this] at hd5;exact hd5
   ·exact (hc03.trans (Chg.of_ext (S:=λk=>k=g) hB4) λi _ hi=>hi).trans hc5 λi _ hi=>hi
 unfold Yy at hN hY fin;refine xP (x:=s.last) (h.cells 3 _ rfl) (cO (λe=>?_) λe1=>?_)
 ·have e:s.last=true:=e;rw [if_pos e] at hN;exact hN rfl w (Below.refl _ _)
 have e1:s.last=false:=e1;rw [if_neg (by rw [e1];decide)] at hN hY fin;refine cO (λe=>?_) λe2=>?_
 ·have e:c.toNat=61:=by have:=eq_of_beq e;omega
  rw [if_pos e] at hN hY fin;refine jpO λJ2 hJ2=>?_;refine lI (x:=((s.w.length+s.f:Nat):Int)) (h.cells 1 _ rfl) (cO (λe3=>?_) λe3=>?_)
  ·have e3:=oTq e3;rw [if_pos (.inl (by omega))] at hN;exact hN rfl w (Below.refl _ _)
  have e3:=oFq e3;refine qrt h (by omega) hs.v (cO (λe4=>?_) λe4=>?_)
  ·have e4:qig s.w=false:=by simpa using e4
   rw [if_pos (.inr e4)] at hN;exact hN rfl _ (bdw w)
  have e4:qig s.w=true:=by simpa using e4
  rw [if_neg (by rw [e4];simp;omega)] at fin;refine hJ2 _ _ ?_;have hd:ZR w.drew g s:=h.ext (bdw w);refine lI (x:=(s.f:Int)) (hd.cells 2 _ rfl) ?_;rw [q4,qP (by omega)];refine qw hd (by simp [q5r]) λw3 hb3 hg3 hs3=>?_;have hc3:Chg (λk=>k=g) w.drew w3:=Go.Vc.Chg.gg hg3;refine fin { s with f:=s.f+1 } w3 (by dsimp only;omega) e1 hb hs.v hb3 ((Chg.of_ext (S:=λk=>k=g) (bdw w)).trans hc3 λi _ hi=>hi) rfl
 ·have e2:c.toNat≠61:=λh=>by rw [h] at e2;cases e2
  rw [if_neg e2] at hN hY fin;refine jpO λJ3 hJ3=>?_;unfold q9f;cases hv:q9j c with
  | none =>
   rw [hv] at hN;refine cT (by decide) (hJ3 _ _ (cT rfl ?_));exact hN rfl w (Below.refl _ _)
  | some v =>
   rw [hv] at hN hY fin;dsimp only at hN hY fin ⊢;have hvl:=q8c hv;refine cF (dFq (by omega)) (lI (x:=(s.f:Int)) (h.cells 2 _ rfl) (hJ3 _ _ ?_));refine cO (λe=>?_) λe=>?_
   ·have e:=oTq e;rw [if_pos (by omega)] at hN;exact hN rfl w (Below.refl _ _)
   ·have e:=oFq e;rw [if_neg (by omega)] at fin;have hvn:=Nat.lt_of_lt_of_le (qs5 s.w hs.v) (le_trans (Nat.pow_le_pow_right (show 0<64 by decide) (show s.w.length<=3 by omega)) (show (64:Nat)^3<=262144 by decide));refine lI (x:=(qc0 s.w:Int)) (h.cells 0 _ rfl) ⟨by decide,?_⟩;have ev:jX .or .u32 (u32.wrap ((qc0 s.w:Int)*2^(min (6:Int).toNat u32.bits))) (u32.wrap (v:Int))=((qc0 (s.w++[v]):Nat):Int):=by
     rw [show min ((6:Int)).toNat u32.bits=6 by decide,qi3,jE .u32 (x:=qc0 s.w*2^6) (by show _<2^32;omega),jE .u32 (x:=v) (by show _<2^32;omega),qzn .u32 (by show _<2^32;omega) (by show _<2^32;omega),zaa];congr 1;rw [Nat.or_comm,Nat.mul_comm,zg8 (by omega)];omega
    rw [show q9f c=(v:Int) by unfold q9f;rw [hv],ev,q4];refine qw h (by simp [q5r]) λw3 hb3 hg3 hs3=>?_;have hc3:Chg (λk=>k=g) w w3:=Go.Vc.Chg.gg hg3;refine fin { s with w:=s.w++[v] } w3 (by dsimp only;rw [length_append,length_singleton];omega) e1 hb (λx hx=>?_) hb3 hc3 rfl;rcases List.mem_append.1 hx with hx | hx
    ·exact hs.v x hx
    ·rw [List.mem_singleton] at hx;subst hx;exact hvl
theorem q8o {c:UInt8} (h:ZR w g s) (hs:B64Ok s) {K:Slc->Int->Ub}
  (hK:∀t w',Rd qm w' t (vL s c).2.1->(∀k,t.blk=some k->w.heap.size<=k)->ZR w' g (vL s c).2.2->Chg (λk=>k=g) w w'->K t ((vL s c).1:Nat) w'):yz (some ⟨g,0,none⟩) (c.toNat:Int) w K:=by
 refine qc9 _ _ ?_;simp only [onPtr_some];refine jpO λJ1 hJ1=>?_;unfold vL at hK;have bad:(vL s c=(3,[],q4l))->∀w2,ZR w2 g s->Chg (λk=>k=g) w w2->J1 () w2:=by
  intro hp w2 h2 hc2;unfold vL at hp;rw [hp] at hK;refine hJ1 _ _ (x5 h2 rfl λw3 h3 hc3 hs3=>?_);exact hK ⟨none,0,0⟩ w3 (Rd.nil _ _) (λk hk=>by cases hk) h3 (hc2.trans hc3 λi _ hi=>hi)
 refine xP (x:=s.bad) (h.cells 4 _ rfl) (cO (λe=>?_) λe=>?_)
 ·have e:s.bad=false:=by simpa using e
  rw [if_neg (by rw [e];decide)] at hK;refine q9g h hs e (λhp w2 hB2=>cF rfl (bad ?_ w2 (h.ext hB2) (Chg.of_ext hB2))) (λo s' t w2 hp ht htb hd hc=>cT rfl ?_)
  ·unfold vL;rw [if_neg (by rw [e];decide),hp]
  ·rw [hp] at hK;exact hK t w2 ht htb hd hc
 ·have e:s.bad=true:=by simpa using e
  refine bad ?_ w h (Chg.refl _ _);unfold vL;rw [if_pos e]
theorem q95 (h:ZR w g s) (hs:B64Ok s) {K:Slc->Int->Ub}
  (hK:∀t w',Rd qm w' t (qaa s).2.1->(∀k,t.blk=some k->w.heap.size<=k)->ZR w' g (qaa s).2.2->Chg (λk=>k=g) w w'->K t ((qaa s).1:Nat) w'):yY (some ⟨g,0,none⟩) w K:=by
 refine qek _ ?_;simp only [onPtr_some];have hn:=hs.n;have hgl:=h.lt;refine jpO λJ1 hJ1=>jpO λJ2 hJ2=>?_;unfold qaa at hK;have key:∀(bb:Bool) w2,(bb=true↔s.bad=true\/s.w.length+s.f=1\/0<s.f\/qig s.w=false)->ZR w2 g s->Uc w w2->J2 (bb,()) w2:=by
  intro bb w2 hbb h2 hB2;refine hJ2 _ _ (cO (λe=>?_) λe=>?_)
  ·rw [if_pos (hbb.1 e)] at hK;refine x5 h2 rfl λw3 h3 hc3 hs3=>?_;exact hK ⟨none,0,0⟩ w3 (Rd.nil _ _) (λk hk=>by cases hk) h3 ((Chg.of_ext (S:=λk=>k=g) hB2).trans hc3 λi _ hi=>hi)
  ·rw [if_neg λh=>by rw [hbb.2 h] at e;cases e] at hK;refine hJ1 _ _ (qrk h2 (by omega) hs.v λt w3 ht htb h3 hB3=>?_);refine qav _ ?_;simp only [onPtr_some];refine x5 h3 rfl λw4 h4 hc4 hs4=>?_;have hs2:=hB2.size;refine hK t w4 (ht.chg hc4 λa ha e=>?_) (λk hk=>by have:=htb k hk;omega) h4 (((Chg.of_ext (S:=λk=>k=g) hB2).trans (Chg.of_ext (S:=λk=>k=g) hB3) λi _ hi=>hi).trans hc4 λi _ hi=>hi);have:=htb a.block (slk.2 ⟨a,ha,rfl⟩);omega
 have hrf:=Below.refl w.heap.size w;refine xP (x:=s.bad) (h.cells 4 _ rfl) (cO (λe=>key _ w ?_ h hrf) λe1=>?_)
 ·have e:s.bad=true:=e;simp [e]
 have e1:s.bad=false:=e1;refine lI (x:=((s.w.length+s.f:Nat):Int)) (h.cells 1 _ rfl) (cO (λe=>key _ w ?_ h hrf) λe2=>?_)
 ·have e:s.w.length+s.f=1:=by have:=eq_of_beq e;omega
  simp [e]
 have e2:s.w.length+s.f≠1:=λh=>by rw [h] at e2;cases e2
 refine lI (x:=(s.f:Int)) (h.cells 2 _ rfl) (cO (λe=>key _ w ?_ h hrf) λe3=>?_)
 ·have e:=oTq e;exact iff_of_true rfl (.inr (.inr (.inl (by omega))))
 have e3:=oFq e3;refine qrt h (by omega) hs.v (key _ _ ?_ (h.ext (bdw w)) (bdw w));rw [e1];constructor
 ·intro h;exact .inr (.inr (.inr (by simpa using h)))
 ·rintro (h | h | h | h)
  ·cases h
  ·exact absurd h e2
  ·omega
  ·rw [h];rfl
end
def xh (l:List UInt8):List Value:=l.map λb=>Value.int .u8 (b.toNat:Int)
theorem qij (l:List UInt8):Zd qm l=xh l:=by
 unfold Zd xh
 induction l with
 | nil=>rfl
 | cons x r ih=>rw [List.flatMap_cons,ih];rfl
theorem QT (l:List UInt8):(xh l).length=l.length:=by simp [xh]
theorem q1v (l:List UInt8):∀v∈xh l,qz2 v=true:=by
 intro v hv;unfold xh at hv;obtain ⟨b,_,rfl⟩:=List.mem_map.1 hv;rfl
theorem q5z {w:World} {a:Addr} {l:List UInt8} (h:∀(i:Nat) x,l[i]?=some x->w.cell? (a.add i)=some (.int .u8 (x.toNat:Int))):(loadCells a l.length).run PG w=.ok (xh l).toArray w:=by
 have:=run_loadCells_list (P:=PG) w a (xh l) (λj v hj=>by
  unfold xh at hj;rw [List.getElem?_map] at hj;cases hb:l[j]? with
  | none=>rw [hb] at hj;cases hj
  | some b =>
   rw [hb] at hj;cases hj;exact h j b hb)
 rwa [QT] at this
theorem zf6 {w:World} {g o dn dc n:Nat} {t:TypeId} {cur:List Value} {x:Slc} {ys:List UInt8} {K:Int->Ub} (hb:Blk w g t cur) (hx:Rd qm w x ys) (hn:n=min ys.length dn) (hf:o+n<=cur.length)
  (hK:∀w',Blk w' g t (putL cur o (xh (ys.take n)))->Chg (λk=>k=g) w w'->w'.heap.size=w.heap.size->K (n:Int) w') :
  jv PG (copy_ #[qg,qg] zd #[.slice (some ⟨g,o,none⟩) dn dc,.slice x.a x.n x.c]) (Kind.int .i64) w K:=by
 have htl:(ys.take n).length=n:=by rw [length_take];omega
 have hst:(storeCells ⟨g,o,none⟩ (xh (ys.take n)) 0).run PG w=.ok () (wr w ⟨g,o,none⟩ (xh (ys.take n))) :=
  qb0 (xh (ys.take n)) 0 w (q1v _) (λj hj=>by
   rw [QT,htl] at hj;rw [zero_add,q4];refine ⟨⟨cur[o+j]'(by omega),hb.cell (o+j) (List.getElem?_eq_getElem (by omega))⟩,hb.frozen _⟩)
 refine ⟨(n:Int),wr w ⟨g,o,none⟩ (xh (ys.take n)),?_,hK _ (zcs hb) (Go.Vc.Chg.gg (q1g w ⟨g,o,none⟩ _)) (size_wr _ _ _)⟩;have hu:PG.underlying qg=some (.slice qN):=by kernel_rfl
 have hi:=zc.hi;have hs:zc.i.size=1:=zc.hs;have hi':PG.info? qN=some zc.i:=hi;have hxn:=hx.n;have hmin:Nat.min ys.length dn=n:=hn.symm;cases ha:x.a with
 | none =>
  have hy:=hx.none_nil ha;subst hy;have hn0:n=0:=by rw [hn];simp
  subst hn0;simp [copy_,run_underlying hu,Builtin.lenOf,Builtin.firstCells,sizeOf,typeInfo,hi',hxn,storeCells,wr,kH,xh,Kind.enc,goInt]
 | some a =>
  have hload:=q5z (w:=w) (a:=a) (l:=ys.take n) (λi y hy=>by
   have hi2:i<n:=by rw [<-htl];exact (List.getElem?_eq_some_iff.1 hy).1
   rw [List.getElem?_take_of_lt hi2] at hy;have:=q6m hx hy;simp only [Slc.at_,ha,getD_some,mul_one] at this;exact this)
  rw [htl] at hload;simp [copy_,run_underlying hu,Builtin.lenOf,Builtin.firstCells,sizeOf,typeInfo,hi',hs,hxn,hmin,hload,hst,Kind.enc,goInt]
theorem qy9 {w:World} {b g c:Nat} {xs:List UInt8} {s:Slc} (h:Go.Vc.Own qm w b s xs) (hs:s.a=some ⟨g,0,none⟩):∃cur,Blk w g qN cur/\cur.length=s.c/\cur.take xs.length=xh xs/\xs.length<=s.c/\s.c<=maxLen/\b<=g/\s.n=xs.length:=by
 rcases h.form with ⟨rfl,rfl⟩ | ⟨g',cur,e,hg,hb,h1,h2,h3,h4⟩
 ·cases hs
 ·rw [e] at hs;have hg':g'=g:=congrArg Addr.block (Option.some.inj hs);subst hg';refine ⟨cur,hb,by rw [h3];exact mul_one _,?_,h1,h2,hg,by rw [e]⟩;rw [<-qij,<-h4];show _=cur.take (xs.length*1);rw [mul_one]
theorem q73 {w w':World} {b g:Nat} {xs ys:List UInt8} {s:Slc} {cur:List Value} {k:Nat} (h:Go.Vc.Own qm w b s xs) (hs:s.a=some ⟨g,0,none⟩) (hc:Blk w g qN cur) (hk:k+ys.length<=xs.length) (hw:Blk w' g qN (putL cur k (xh ys))) :
  Go.Vc.Own qm w' b s (xs.take k++ys++xs.drop (k+ys.length)):=by
 obtain ⟨cur',hb,hl,ht,h1,h2,h3,h4⟩:=qy9 (c:=0) h hs;have e:cur'=cur:=by
  unfold Blk at hb hc;rw [hb] at hc;injection hc with hc
  injection hc with hc _ _
  simpa using hc
 subst e;have hlen:(xs.take k++ys++xs.drop (k+ys.length)).length=xs.length:=by simp;omega
 obtain ⟨a,n,c⟩:=s;dsimp only at hs hl h1 h2 h4;subst hs h4;have:=Go.Vc.Own.of_blk (E:=qm) (xs:=xs.take k++ys++xs.drop (k+ys.length)) (c:=c) h3 hw (by omega) h2 (by rw [Kf,hl];exact (mul_one _).symm) (by
  rw [qij,hlen];show (putL cur' k (xh ys)).take (xs.length*1)=_;rw [mul_one];refine List.ext_getElem? λm=>?_;by_cases hm:m<xs.length
  ·rw [List.getElem?_take_of_lt hm,Kg _ _ _ _ (by rw [QT];omega),QT];have hcm:cur'[m]?=(xh xs)[m]?:=by rw [<-ht,List.getElem?_take_of_lt hm]
   have hbm:∀l:List UInt8,(xh l)[m]?=(l[m]?).map λb=>Value.int .u8 (b.toNat:Int):=λl=>by unfold xh;rw [List.getElem?_map]
   by_cases hin:k<=m/\m<k+ys.length
   ·rw [if_pos hin,hbm,append_assoc,List.getElem?_append_right (by rw [length_take];omega),length_take,Nat.min_eq_left (by omega),List.getElem?_append_left (by omega)];unfold xh;rw [List.getElem?_map]
   ·rw [if_neg hin,hcm,hbm,hbm];congr 1;by_cases hmk:m<k
    ·rw [append_assoc,List.getElem?_append_left (by rw [length_take];omega),List.getElem?_take_of_lt hmk]
    ·rw [append_assoc,List.getElem?_append_right (by rw [length_take];omega),length_take,Nat.min_eq_left (by omega),List.getElem?_append_right (by omega),List.getElem?_drop];congr 1;omega
  ·rw [List.getElem?_eq_none (by rw [length_take];omega),List.getElem?_eq_none (by rw [QT];omega)])
 rw [hlen] at this;exact this
structure LdK where
 k:qb
 most:Nat
 need:Nat
structure LdS where
 d:B64
 b:List UInt8
 err:Nat
 over:Bool
def zbn (C:LdK) (n:Nat):Nat:=if n>C.most then 6 else if C.k.Zip=0/\C.k.Format≠100/\n>C.need then 5 else 0
def qr8 (s:LdS) (e:Nat):LdS:=if s.err=0/\e≠0 then { s with b:=[],err:=e } else s
def qsj (C:LdK) (s:LdS) (r:Nat×List UInt8×B64):LdS :=
 if r.1≠0 then qr8 { s with d:=r.2.2 } r.1 else qr8 { s with d:=r.2.2,b:=s.b++r.2.1 } (zbn C (s.b++r.2.1).length)
def qok (C:LdK) (s:LdS) (c:UInt8):LdS:=if s.err≠0 then s else qsj C s (vL s.d c)
def vr (C:LdK) (s:LdS) (text:List UInt8):LdS:=text.foldl (qok C) s
def qna (C:LdK) (s:LdS):LdS:=if s.err≠0 then s else qsj C s (qaa s.d)
theorem qqv (C:LdK) (s:LdS) (a b:List UInt8):vr C s (a++b)=vr C (vr C s a) b:=List.foldl_append
theorem qyf (C:LdK) (s:LdS) (c:UInt8):(qok C s c).over=s.over:=by
 unfold qok qsj qr8
 repeat' split
 all_goals rfl
theorem q6s (s:B64) (hs:B64Ok s) (c:UInt8):(vL s c).2.1.length<=3:=by
 unfold vL;split
 ·simp
 ·cases hp:Yy s c with
  | none=>simp
  | some r =>
   obtain ⟨o,s'⟩:=r;show o.length<=3;have fin:∀s1:B64,some (yC s1)=some (o,s')->o.length<=3:=by
    intro s1 h;have:o=(yC s1).1:=by rw [Option.some.inj h]
    rw [this];unfold yC;split
    ·simp
    ·unfold qwr;rw [length_take];exact Nat.min_le_right _ 3
   unfold Yy at hp;split at hp
   ·cases hp
   ·split at hp
    ·split at hp
     ·cases hp
     ·exact fin _ hp
    ·split at hp
     ·cases hp
     ·split at hp
      ·cases hp
      ·exact fin _ hp
theorem zbl (C:LdK) (s:LdS) (r:Nat×List UInt8×B64):(qsj C s r).b.length<=s.b.length+r.2.1.length:=by
 unfold qsj qr8
 repeat' split
 all_goals simp
theorem zdx {C:LdK} {s:LdS} (h:s.err≠0) (c:UInt8):qok C s c=s:=by unfold qok;rw [if_pos h]
theorem zcu {C:LdK} {s:LdS} (h:s.err≠0) (l:List UInt8):vr C s l=s:=by
 induction l with
 | nil=>rfl
 | cons c l ih=>show vr C (qok C s c) l=s;rw [zdx h];exact ih
def vG (gd:Nat) (C:LdK) (p:Slc) (held err:Nat) (over:Bool):List Value:=.pointer (some ⟨gd,0,none⟩)::(qb.rep.cells C.k++[.int .i64 (C.most:Int),.int .i64 (C.need:Int),.slice p.a p.n p.c,.int .i64 (held:Int),.int .i64 (err:Int),.bool over])
def PcS (w:World) (B:Nat) (S:Nat->Prop) (p:Slc) (bs:List UInt8):Prop :=
 (bs=[]/\p=⟨none,0,0⟩)\/∃x,Go.Vc.Own vy w B p [x]/\Go.Vc.Own qm w B x bs/\bs≠[]/\(∀k,p.blk=some k->S k)/\(∀k,x.blk=some k->S k)
structure LdA (w:World) (B g gd:Nat) (C:LdK) (s:LdS) (S:Nat->Prop):Prop where
 ex:∃p:Slc,Blk w g ju (vG gd C p s.b.length s.err s.over)/\PcS w B S p s.b
 d:ZR w gd s.d
 ok:B64Ok s.d
 sg:S g
 sd:S gd
 lt:∀k,S k->B<=k/\k<w.heap.size
section
variable {w:World} {B g gd:Nat} {C:LdK} {s:LdS} {S:Nat->Prop}
theorem PcS.chg {w':World} {p:Slc} {bs:List UInt8} {T:Nat->Prop} (h:PcS w B S p bs) (hc:Chg T w w') (hT:∀k,S k->¬T k):PcS w' B S p bs:=by
 rcases h with h | ⟨x,h1,h2,h3,h4,h5⟩
 ·exact .inl h
 ·exact .inr ⟨x,h1.chg hc λk hk=>hT k (h4 k hk),h2.chg hc λk hk=>hT k (h5 k hk),h3,h4,h5⟩
theorem LdA.chg {w':World} {T:Nat->Prop} (h:LdA w B g gd C s S) (hc:Chg T w w') (hT:∀k,S k->¬T k):LdA w' B g gd C s S:=by
 obtain ⟨⟨p,h1,h2⟩,h3,h4,h5,h6,h7⟩:=h;exact ⟨⟨p,h1.chg hc (hT g h5),h2.chg hc hT⟩,Blk.chg h3 hc (hT gd h6),h4,h5,h6,λk hk=>⟨(h7 k hk).1,Nat.lt_of_lt_of_le (h7 k hk).2 hc.size⟩⟩
theorem LdA.ext {w':World} (h:LdA w B g gd C s S) (hB:Uc w w'):LdA w' B g gd C s S:=h.chg (Chg.of_ext (S:=λ_=>False) hB) λk _ hf=>hf
end
section
variable {w:World}
theorem q8y {W H:Nat} {K:Bool->Ub} (hW1:1<=W) (hW2:W<=16384) (hH1:1<=H) (hH2:H<=16384) (hA:W*H<=67108864) (hK:K true w):ZP (W:Int) (H:Int) w K:=by
 refine qhe _ _ ?_;refine cF (zbm (by omega)) (cT (dTq (by omega)) (cT (dTq (by omega)) (cT (dTq (by omega)) (cT (dTq (by omega)) ?_))));rw [show (W:Int)*(H:Int)=((W*H:Nat):Int) by simp,qP (by omega),dTq (by omega)];exact hK
theorem qw8 {W H:Nat} {K:qa->Int->Ub} (hW1:1<=W) (hW2:W<=16384) (hH1:1<=H) (hH2:H<=16384) (hA:W*H<=67108864)
  (hK:∀(t:Slc) (gm:Nat) w',Go.Vc.Own qm w' w.heap.size t (List.replicate (4*W*H) 0)->t.a=some ⟨gm,0,none⟩->w.heap.size<=gm->Uc w w'->K ⟨W,H,t⟩ 0 w'):qa4 (W:Int) (H:Int) w K:=by
 refine qt7 _ _ ?_;refine nwb λw1 h1 hB1 hs1=>q8y hW1 hW2 hH1 hH2 hA (cF rfl ?_);have e:i64.wrap ((i64.wrap ((4:Int)*(W:Int)))*(H:Int))=((4*W*H:Nat):Int):=by
  have h4:4*W*H=4*(W*H):=Nat.mul_assoc _ _ _;rw [qP (x:=(4:Int)*(W:Int)) (by omega),show (4:Int)*(W:Int)*(H:Int)=((4*W*H:Nat):Int) by simp,qP (by omega)]
 rw [e];have h4:4*W*H=4*(W*H):=Nat.mul_assoc _ _ _;refine qz5 zc (x0:=(0:UInt8)) rfl (n:=4*W*H) rfl rfl (by rw [xL];omega) (by unfold maxLen;omega) λw4 ho hB4=>?_;refine zM (r:=qa.rep) (x:=⟨W,H,⟨some ⟨w1.heap.size,0,none⟩,4*W*H,4*W*H⟩⟩) (h1.ext hB4) rfl rfl λw5 hc5 hs5=>?_;refine hK _ w1.heap.size w5 ((ho.chg hc5 λk hk e=>?_).base (by omega)) rfl (by omega) (b1o (bT hB1 hB4) hc5 (le_refl _));have:=(ho.lt k hk).1;omega
end
theorem qqh (n:Nat):xh (List.replicate n 0)=List.replicate n (.int .u8 0):=by
 unfold xh;rw [List.map_replicate];rfl
theorem mkB {n m:Nat} {l c:Int} (hl:l=n) (hc:c=m) (hnm:n<=m) (hm:m<=100000000000) {w:World} {K:Slc->Ub}
  (hK:∀w',Go.Vc.Own qm w' w.heap.size ⟨some ⟨w.heap.size,0,none⟩,n,m⟩ (List.replicate n 0)->Uc w w'->K ⟨some ⟨w.heap.size,0,none⟩,n,m⟩ w'):qwx PG qg (Ua l) (Ua c) w K:=by
 subst hl hc;have hr:=run_make (P:=PG) w qg qm.t zc.i zc.z zc.ht zc.hi zc.hz .i64 .i64 (n:Int) (m:Int) (by omega) (by omega) (by rw [xL];omega) (by omega);refine ⟨⟨some ⟨w.heap.size,0,none⟩,n,m⟩,_,by simpa using hr,hK _ ?_ ((Below.refl _ w).alloc (le_refl _) _)⟩;have hcur:(madeCells zc.z.cells ((m:Int).toNat*zc.i.size)).toList=List.replicate m (.int .u8 0):=by
  have hs:zc.i.size=1:=zc.hs;rw [hs,toNat_natCast,mul_one];refine List.ext_getElem? λj=>?_;have hz:zc.z.cells=#[.int .u8 0]:=rfl;rw [hz];by_cases hj:j<m
  ·rw [Array.getElem?_toList,List.getElem?_replicate,if_pos hj];simp [madeCells,hj];rw [Nat.mod_one];rfl
  ·rw [List.getElem?_eq_none (by simp [madeCells];omega),List.getElem?_eq_none (by simp;omega)]
 have hb:Blk (w.alloc (.cells (madeCells zc.z.cells ((m:Int).toNat*zc.i.size)) qm.t)) w.heap.size qm.t (List.replicate m (.int .u8 0)):=by
  have:=Blk.new w qm.t (madeCells zc.z.cells ((m:Int).toNat*zc.i.size)).toList;rw [hcur,<-hcur,Array.toArray_toList] at this;rw [hcur] at this;exact this
 have:=Go.Vc.Own.of_blk (E:=qm) (xs:=List.replicate n (0:UInt8)) (c:=m) (base:=w.heap.size) (le_refl _) hb (by simpa using hnm) (by unfold maxLen;omega) (by rw [List.length_replicate];exact (mul_one _).symm) (by
  rw [qij,qqh,List.length_replicate];show (List.replicate m _).take (n*1)=_;rw [mul_one,List.take_replicate,Nat.min_eq_left hnm])
 simpa using this
section
variable {w:World} {B g gd:Nat} {C:LdK} {s:LdS} {S:Nat->Prop}
theorem q43 (h:LdA w B g gd C s S) (hBw:B<=w.heap.size) {t:Slc} {xs:List UInt8} (ht:Rd qm w t xs) (htS:∀k,t.blk=some k->¬S k) (hsm:s.b.length+xs.length<=32768) {K:Int->Ub}
  (hK:∀S' w',LdA w' B g gd C { s with b:=s.b++xs } S'->(∀k,S' k->S k\/w.heap.size<=k)->Chg S w w'->K ((zbn C (s.b++xs).length:Nat):Int) w'):xW (some ⟨g,0,none⟩) t w K:=by
 obtain ⟨⟨p0,hb0,hp0⟩,hd0,hok,hsg,hsd,hlt⟩:=h;refine qhq _ _ ?_;simp only [onPtr_some];rw [ht.n];refine lpR (λ(st:Int×Unit) w1=>∃(i:Nat) (p:Slc) (S1:Nat->Prop),st.1=i/\i<=xs.length/\Blk w1 g ju (vG gd C p s.b.length s.err s.over)/\PcS w1 B S1 p (s.b++xs.take i)/\ZR w1 gd s.d/\(∀k,S k->S1 k)/\(∀k,S1 k->S k\/w.heap.size<=k)/\(∀k,S1 k->B<=k/\k<w1.heap.size)/\Chg S w w1) (λst=>xs.length-st.1.toNat)
  ⟨0,p0,S,rfl,by omega,hb0,by rw [List.take_zero,List.append_nil];exact hp0,hd0,λk hk=>hk,λk hk=>.inl hk,hlt,Chg.refl _ _⟩ ?_
 rintro ⟨i,u⟩ w1 ⟨i,p,S1,rfl,hi,hb1,hp1,hd1,hS1,hS1',hlt1,hc1⟩ I hI;dsimp only;have hw1:=hc1.size;refine cO (λhl=>?_) λhl=>?_
 ·have hl:=oTq hl;have hil:i<xs.length:=by omega
  obtain ⟨c,hc,_⟩:=Go.Vc.get_of (xs:=xs) (k:=i) hil;have ht1:=ht.chg hc1 λa ha=>htS a.block (slk.2 ⟨a,ha,rfl⟩);refine ht1.ix (i:=(i:Int)) rfl (by omega) (by omega) λ_=>?_;rw [toNat_natCast];refine lI (x:=(c.toNat:Int)) (q6m ht1 hc) ?_;refine jpO λJ2 hJ2=>?_;have app:∀(x q:Slc) (S2:Nat->Prop) w2,Blk w2 g ju (vG gd C q s.b.length s.err s.over)->Go.Vc.Own vy w2 B q [x]->Go.Vc.Own qm w2 B x (s.b++xs.take i)->(∀k,q.blk=some k->S2 k)->(∀k,x.blk=some k->S2 k)->ZR w2 gd s.d->(∀k,S k->S2 k)->(∀k,S2 k->S k\/w.heap.size<=k)->(∀k,S2 k->B<=k/\k<w2.heap.size)->Chg S w w2->J2 () w2:=by
   intro x q S2 w2 hb2 hq hx hqS hxS hd2 hS2 hS2' hlt2 hc2;refine hJ2 _ _ ?_;have hw2:=hc2.size;have hBd:=bdw w2;have hb2d:=hb2.ext hBd;have hqd:=hq.ext hBd;have hxd:=hx.ext hBd;refine lSl (x:=q) (hb2d.cells 25 _ rfl) (lSl (x:=q) (hb2d.cells 25 _ rfl) ?_);have hqn:q.n=1:=hq.rd.n;have e0:i64.wrap (((q.n:Nat):Int)-1)=0:=by rw [hqn];decide
   rw [e0];refine hqd.rd.ix (i:=0) (k:=1) rfl (by omega) (by simp) λhcell=>?_;refine lSl (x:=x) (by
    have:=hqd.rd.at_ 0 x rfl 0 _ rfl;have h2:w2.drew.cell? (q.at_ vy.k 0)=some (.slice x.a x.n x.c):=by simpa using this
    exact h2) ?_
   have hsz:w2.drew.heap.size=w2.heap.size:=rfl;refine zfn (c:=c) rfl hxd (by omega) (by rw [length_append,length_take];omega) λr w4 hr hc4 hrb=>?_;have hq4:=hqd.chg hc4 λk hk e=>XK hqd hxd (by decide) k hk e;have hb4:=hb2d.chg hc4 λe=>qF hxd hb2d (by decide) g e rfl;have hd4:ZR w4 gd s.d:=Blk.chg (hd2.ext hBd) hc4 λe=>qF hxd (hd2.ext hBd) (by decide) gd e rfl;refine hq4.st0 (i:=0) (x:=x) (y:=r) rfl rfl λw5 hq5 hg5 hs5=>?_;have hc5:Chg (λk=>q.blk=some k) w4 w5:=Chg.of_grown hg5 λk hk=>hk;have hr5:=hr.chg hc5 λk hk e=>XK hq4 hr (by decide) k e hk;have hb5:=hb4.chg hc5 λe=>qF hq4 hb4 (by decide) g e rfl;have hd5:ZR w5 gd s.d:=Blk.chg hd4 hc5 λe=>qF hq4 hd4 (by decide) gd e rfl;have hs4:=hc4.size;have hs5':=hc5.size;have hc25:Chg S2 w2 w5:=((Chg.of_ext (S:=S2) hBd).trans hc4 λk hk e=>hxS k e).trans hc5 λk hk e=>hqS k e;rw [qP (by omega)];refine hI _ _ ⟨i+1,q,λk=>S2 k\/r.blk=some k,rfl,by omega,hb5,.inr ⟨r,hq5,?_,?_,λk hk=>.inl (hqS k hk),λk hk=>.inr hk⟩,hd5,λk hk=>.inl (hS2 k hk),λk hk=>?_,λk hk=>?_,?_⟩ (by simp;omega)
   ·have:xs.take (i+1)=xs.take i++[c]:=by rw [take_add_one,hc];rfl
    rw [this,<-append_assoc];exact hr5
   ·rw [take_add_one,hc];simp
   ·rcases hk with hk | hk
    ·exact hS2' k hk
    ·rcases hrb with e | ⟨k',e,hge⟩
     ·rw [e] at hk;exact hS2' k (hxS k hk)
     ·rw [e] at hk;cases hk;right;omega
   ·rcases hk with hk | hk
    ·exact ⟨(hlt2 k hk).1,by have:=(hlt2 k hk).2;omega⟩
    ·have:=hr5.lt k hk;exact ⟨this.1,this.2⟩
   ·exact hc2.trans hc25 λk hk hS=>by
     rcases hS2' k hS with h | h
     ·exact h
     ·omega
  refine lSl (x:=p) (hb1.cells 25 _ rfl) (jpO λJ3 hJ3=>?_);rcases hp1 with ⟨hnil,rfl⟩ | ⟨x,hq,hx,hne,hqS,hxS⟩
  ·refine cT rfl (hJ3 _ _ (cT rfl ?_));have hBd:=bdw w1;have hb1d:=hb1.ext hBd;refine lSl (x:=⟨none,0,0⟩) (hb1d.cells 25 _ rfl) ?_;refine mkB (n:=0) (m:=32768) rfl rfl (by omega) (by omega) λw7 hx7 hB7=>?_;have hB17:=bT hBd hB7;have hb7:=hb1.ext hB17;refine ⟨hb7.cells 25 _ rfl,nwb λw8 h8 hB8 hs8=>⟨(hb7.ext hB8).cells 25 _ rfl,?_⟩⟩;have hB18:=bT hB17 hB8;have hw8:=hB18.size;refine jx qkj (E:=vy) (base:=B) (Go.Vc.Own.nil vy w8 B) (yg (E:=vy) (y:=⟨some ⟨w1.drew.heap.size,0,none⟩,0,32768⟩) h8 rfl) (by omega) (by rw [qtp];simp) (by simp [maxLen]) λq w9 hq9 hg9 hqb=>?_;have hc9:Chg (λk=>False) w8 w9:=Chg.of_grown hg9 λk hk=>by cases hk
   have hB9:Uc w8 w9:=hc9.ext λ_ _ hf=>hf;have hb9:=(hb7.ext hB8).ext hB9;have hq9:Go.Vc.Own vy w9 B q [⟨some ⟨w1.drew.heap.size,0,none⟩,0,32768⟩]:=hq9;have hx9:=(hx7.ext hB8).ext hB9;rw [q4];refine qw hb9 (by simp [vG,qb.rep]) λw10 hb10 hg10 hs10=>?_;have hc10:Chg (λk=>k=g) w9 w10:=Go.Vc.Chg.gg hg10;have hb10:Blk w10 g ju (vG gd C q s.b.length s.err s.over):=hb10;have hB19:=bT hB18 hB9;have hw9:=hB19.size;have hw10:=hc10.size;refine app _ q (λk=>S1 k\/q.blk=some k\/k=w1.drew.heap.size) w10 hb10 (hq9.chg hc10 λk hk=>qF hq9 hb9 (by decide) k hk) ?_ (λk hk=>.inr (.inl hk)) (λk hk=>.inr (.inr (by cases hk;rfl))) (Blk.chg (hd1.ext hB19) hc10 λe=>by subst e;exact (hd1.ext hB19).ne_t hb9 (by decide) rfl) (λk hk=>.inl (hS1 k hk)) (λk hk=>?_) (λk hk=>?_) ?_
   ·rw [hnil];refine (hx9.chg hc10 λk hk=>qF hx9 hb9 (by decide) k hk).base ?_;show B<=w1.heap.size;omega
   ·rcases hk with hk | hk | hk
    ·exact hS1' k hk
    ·right;rcases hqb with e | e
     ·rw [e] at hk;cases hk
     ·rw [e] at hk;cases hk;omega
    ·right;have:w1.drew.heap.size=w1.heap.size:=rfl;omega
   ·rcases hk with hk | hk | hk
    ·exact ⟨(hlt1 k hk).1,by have:=(hlt1 k hk).2;omega⟩
    ·have:=(hq9.lt k hk);exact ⟨this.1,by omega⟩
    ·have h1:w1.drew.heap.size=w1.heap.size:=rfl;have:=(hx9.lt k (by rw [hk];rfl)).2;exact ⟨by omega,by omega⟩
   ·refine (hc1.trans (Chg.of_ext (S:=S) hB19) λk _ hk=>hk).trans hc10 λk _ hk=>?_;subst hk;exact hsg
  ·have hqn:p.n=1:=hq.rd.n;have hxn:x.n=(s.b++xs.take i).length:=hx.rd.n;rw [length_append,length_take] at hxn;refine cF (by rw [hqn];rfl) ?_;have e0:i64.wrap (((p.n:Nat):Int)-1)=0:=by rw [hqn];decide
   refine lSl (x:=p) (hb1.cells 25 _ rfl) ?_;rw [e0];refine hq.rd.ix (i:=0) (k:=1) rfl (by omega) (by simp) λhcell=>?_;refine lSl (x:=x) (by
    have:=hq.rd.at_ 0 x rfl 0 _ rfl;have h2:w1.cell? (p.at_ vy.k 0)=some (.slice x.a x.n x.c):=by simpa using this
    exact h2) (hJ3 _ _ (cF ?_ (app x p S1 w1 hb1 hq hx hqS hxS hd1 hS1 hS1' hlt1 hc1)))
   dsimp only;exact zbm (by omega)
 ·have hl:=oFq hl;obtain rfl:i=xs.length:=by omega
  rw [take_length] at hp1;refine lI (x:=(s.b.length:Int)) (hb1.cells 26 _ rfl) ?_;rw [q4,qP (by omega),show ((s.b.length:Nat):Int)+((xs.length:Nat):Int)=(((s.b++xs).length:Nat):Int) by simp];refine qw hb1 (by simp [vG,qb.rep]) λw2 hb2 hg2 hs2=>?_;have hb2:Blk w2 g ju (vG gd C p (s.b++xs).length s.err s.over):=hb2;have hc2:Chg (λk=>k=g) w1 w2:=Go.Vc.Chg.gg hg2;have hp2:PcS w2 B S1 p (s.b++xs):=by
   rcases hp1 with h | ⟨x,h1,h2,h3,h4,h5⟩
   ·exact .inl h
   ·exact .inr ⟨x,h1.chg hc2 λk hk=>qF h1 hb1 (by decide) k hk,h2.chg hc2 λk hk=>qF h2 hb1 (by decide) k hk,h3,h4,h5⟩
  have hd2:ZR w2 gd s.d:=Blk.chg hd1 hc2 λe=>by subst e;exact hd1.ne_t hb1 (by decide) rfl
  have hA2:LdA w2 B g gd C { s with b:=s.b++xs } S1:=⟨⟨p,hb2,hp2⟩,hd2,hok,hS1 g hsg,hS1 gd hsd,λk hk=>⟨(hlt1 k hk).1,Nat.lt_of_lt_of_le (hlt1 k hk).2 hc2.size⟩⟩;have hC2:Chg S w w2:=hc1.trans hc2 λk _ hk=>by subst hk;exact hsg
  have hBd:=bdw w2;have hBdd:=bT hBd (bdw w2.drew);have hb2d:=hb2.ext hBd;have hb2dd:=hb2.ext hBdd;have hKd:=hK S1 w2.drew (hA2.ext hBd) hS1' (hC2.trans (Chg.of_ext (S:=S) hBd) λk _ hk=>hk);have hKdd:=hK S1 w2.drew.drew (hA2.ext hBdd) hS1' (hC2.trans (Chg.of_ext (S:=S) hBdd) λk _ hk=>hk);unfold zbn at hKd hKdd;refine lI (x:=(((s.b++xs).length:Nat):Int)) (hb2d.cells 26 _ rfl) (lI (x:=(C.most:Int)) (hb2d.cells 23 _ rfl) ?_);refine cO (λe=>?_) λe=>?_
  ·have e:=oTq e;rw [if_pos (by omega)] at hKd;exact hKd
  have e:=oFq e;rw [if_neg (by omega)] at hKdd;refine lI (x:=C.k.Zip) (hb2dd.cells 3 _ rfl) (cO (λez=>?_) λez=>?_)
  ·have ez:C.k.Zip=0:=eq_of_beq ez;refine lI (x:=C.k.Format) (hb2dd.cells 6 _ rfl) (cO (λef=>?_) λef=>?_)
   ·have ef:C.k.Format≠100:=by simpa using ef
    refine lI (x:=(((s.b++xs).length:Nat):Int)) (hb2dd.cells 26 _ rfl) (lI (x:=(C.need:Int)) (hb2dd.cells 24 _ rfl) (cO (λen=>?_) λen=>?_))
    ·have en:=oTq en;rw [if_pos ⟨ez,ef,by omega⟩] at hKdd;exact hKdd
    ·have en:=oFq en;rw [if_neg λh=>en (by have:=h.2.2;omega)] at hKdd;exact hKdd
   ·have ef:C.k.Format=100:=by simpa using ef
    rw [if_neg λh=>h.2.1 ef] at hKdd;exact hKdd
  ·have ez:C.k.Zip≠0:=by simpa using ez
   rw [if_neg λh=>ez h.1] at hKdd;exact hKdd
theorem quv (h:LdA w B g gd C s S) {e:Nat} {K:Ub} (hK:∀w',LdA w' B g gd C (qr8 s e) S->Chg S w w'->K w'):jg (some ⟨g,0,none⟩) (e:Int) w K:=by
 obtain ⟨⟨p,hb,hp⟩,hd,hok,hsg,hsd,hlt⟩:=h;refine qhi _ _ ?_;simp only [onPtr_some];refine jpO λJ1 hJ1=>?_;unfold qr8 at hK;have no:¬(s.err=0/\e≠0)->K w:=λhn=>by
  rw [if_neg hn] at hK;exact hK w ⟨⟨p,hb,hp⟩,hd,hok,hsg,hsd,hlt⟩ (Chg.refl _ _)
 refine lI (x:=(s.err:Int)) (hb.cells 27 _ rfl) (cO (λe1=>hJ1 _ _ ?_) λe1=>hJ1 _ _ (cF rfl (no λh=>?_)))
 ·have e1:s.err=0:=by have:=eq_of_beq e1;omega
  refine cO (λe2=>?_) λe2=>no λh=>?_
  ·have e2:e≠0:=λh=>by rw [h] at e2;cases e2
   rw [if_pos ⟨e1,e2⟩] at hK;rw [q4];refine qw hb (by simp [vG,qb.rep]) λw2 hb2 hg2 hs2=>?_;refine Xu _ ?_;simp only [onPtr_some];rw [q4];refine qw hb2 (by simp [vG,qb.rep,putL]) λw3 hb3 hg3 hs3=>?_;rw [q4];refine qw hb3 (by simp [vG,qb.rep,putL]) λw4 hb4 hg4 hs4=>?_;have hc:Chg (λk=>k=g) w w4:=((Go.Vc.Chg.gg hg2).trans (Go.Vc.Chg.gg hg3) λi _ hi=>hi).trans (Go.Vc.Chg.gg hg4) λi _ hi=>hi;have hb4:Blk w4 g ju (vG gd C ⟨none,0,0⟩ 0 e s.over):=hb4;have hd4:ZR w4 gd s.d:=Blk.chg hd hc λe=>by subst e;exact hd.ne_t hb (by decide) rfl
   exact hK w4 ⟨⟨⟨none,0,0⟩,hb4,.inl ⟨rfl,rfl⟩⟩,hd4,hok,hsg,hsd,λk hk=>⟨(hlt k hk).1,Nat.lt_of_lt_of_le (hlt k hk).2 hc.size⟩⟩ (hc.mono λk _ hk=>by subst hk;exact hsg)
  ·rw [qu8 (by have:=h.2;omega)] at e2;cases e2
 ·rw [h.1] at e1;cases e1
end
section
variable {w:World} {B g gd:Nat} {C:LdK} {s:LdS} {S:Nat->Prop}
theorem LdA.setD {w':World} {d':B64} (h:LdA w B g gd C s S) (hd':ZR w' gd d') (hok:B64Ok d') (hc:Chg (λk=>k=gd) w w'):LdA w' B g gd C { s with d:=d' } S:=by
 obtain ⟨⟨p,h1,h2⟩,h3,h4,h5,h6,h7⟩:=h;refine ⟨⟨p,h1.chg hc λe=>by subst e;exact h1.ne_t h3 (by decide) rfl,?_⟩,hd',hok,h5,h6,λk hk=>⟨(h7 k hk).1,Nat.lt_of_lt_of_le (h7 k hk).2 hc.size⟩⟩;rcases h2 with h | ⟨x,a1,a2,a3,a4,a5⟩
 ·exact .inl h
 ·exact .inr ⟨x,a1.chg hc λk hk=>qF a1 h3 (by decide) k hk,a2.chg hc λk hk=>qF a2 h3 (by decide) k hk,a3,a4,a5⟩
theorem qx4 (h:LdA w B g gd C s S) (hBw:B<=w.heap.size) {r:Nat×List UInt8×B64} {t:Slc} {w2:World} (ht:Rd qm w2 t r.2.1) (htb:∀k,t.blk=some k->w.heap.size<=k) (hd:ZR w2 gd r.2.2) (hok:B64Ok r.2.2) (hc:Chg (λk=>k=gd) w w2) (hsm:s.b.length+r.2.1.length<=32768) {K:Ub}
  (hK:∀S' w',LdA w' B g gd C (qsj C s r) S'->(∀k,S' k->S k\/w.heap.size<=k)->Chg S w w'->K w') :
  cond ((r.1:Int)==(0:Int)) (xW (some ⟨g,0,none⟩) t w2 λt37 w4=>jg (some ⟨g,0,none⟩) t37 w4 λw5=>K w5) (jg (some ⟨g,0,none⟩) (r.1:Int) w2 λw6=>K w6):=by
 have h2:=h.setD hd hok hc;have hs:=hc.size;have hC:Chg S w w2:=hc.mono λk _ hk=>by subst hk;exact h.sd
 unfold qsj at hK;refine cO (λe=>?_) λe=>?_
 ·have e:r.1=0:=by have:=eq_of_beq e;omega
  rw [if_neg (by omega)] at hK;refine q43 h2 (by omega) ht (λk hk hS=>by have:=htb k hk;have:=(h.lt k hS).2;omega) hsm λS' w4 h4 hS' hc4=>?_;refine quv h4 λw5 h5 hc5=>?_;refine hK S' w5 h5 (λk hk=>?_) ((hC.trans hc4 λk _ hk=>hk).trans hc5 λk hk hS=>?_)
  ·rcases hS' k hk with h | h
   ·exact .inl h
   ·right;omega
  ·rcases hS' k hS with h | h
   ·exact h
   ·omega
 ·have e:r.1≠0:=λh=>by rw [h] at e;cases e
  rw [if_pos e] at hK;refine quv h2 λw5 h5 hc5=>?_;exact hK S w5 h5 (λk hk=>.inl hk) (hC.trans hc5 λk _ hk=>hk)
def qas (s:LdS):Nat:=4*s.b.length+3*(s.d.w.length+s.d.f)
theorem q5n (s:B64):4*(yC s).1.length+3*((yC s).2.w.length+(yC s).2.f)<=3*(s.w.length+s.f):=by
 unfold yC;split
 ·show 4*0+3*(s.w.length+s.f)<=_;omega
 ·have h:(qwr s.w).length<=3:=by
   unfold qwr;rw [length_take];exact Nat.min_le_right _ 3
  show 4*(qwr s.w).length+3*(0+0)<=_;omega
theorem q6j (s:B64) (c:UInt8):4*(vL s c).2.1.length+3*((vL s c).2.2.w.length+(vL s c).2.2.f)<=3*(s.w.length+s.f)+3:=by
 unfold vL;split
 ·show 4*0+3*(0+0)<=_;omega
 ·cases hp:Yy s c with
  | none =>
   show 4*0+3*(0+0)<=_;omega
  | some r =>
   obtain ⟨o,s'⟩:=r;show 4*o.length+3*(s'.w.length+s'.f)<=_;have fin:∀s1:B64,some (yC s1)=some (o,s')->s1.w.length+s1.f=s.w.length+s.f+1->4*o.length+3*(s'.w.length+s'.f)<=3*(s.w.length+s.f)+3:=by
    intro s1 h h1;have e:=Option.some.inj h;have h2:=q5n s1;rw [e] at h2;dsimp only at h2;omega
   unfold Yy at hp;split at hp
   ·cases hp
   ·split at hp
    ·split at hp
     ·cases hp
     ·exact fin _ hp (by show s.w.length+(s.f+1)=_;omega)
    ·split at hp
     ·cases hp
     ·split at hp
      ·cases hp
      ·exact fin _ hp (by show (s.w++[_]).length+s.f=_;simp;omega)
theorem q1o (C:LdK) (s:LdS) (c:UInt8):qas (qok C s c)<=qas s+3:=by
 unfold qok;split
 ·omega
 ·have h:=q6j s.d c;unfold qsj qr8 qas;generalize vL s.d c=r at h
  repeat' split
  all_goals (simp only [length_append,length_nil];omega)
theorem q9a (h:LdA w B g gd C s S) (hBw:B<=w.heap.size) (hov:s.over=false) {t:Slc} {ts:List UInt8} (ht:Rd qm w t ts) (htS:∀k,t.blk=some k->ts≠[]->¬S k) (hsm:qas s+3*ts.length<=120000) {K:Int->Ub}
  (hK:∀S' w',LdA w' B g gd C (vr C s ts) S'->(vr C s ts).over=false->qas (vr C s ts)<=qas s+3*ts.length->(∀k,S' k->S k\/w.heap.size<=k)->Chg S w w'->K (((vr C s ts).err:Nat):Int) w'):J9 (some ⟨g,0,none⟩) t w K:=by
 refine qjw _ _ ?_;simp only [onPtr_some];obtain ⟨p0,hb0,_⟩:=h.ex;refine xP (x:=s.over) (hb0.cells 28 _ rfl) (cF hov (jpO λJ1 hJ1=>?_));have tell:∀S1 w1 i,i<=ts.length->LdA w1 B g gd C (vr C s (ts.take i)) S1->(vr C s (ts.take i)).over=false->qas (vr C s (ts.take i))<=qas s+3*i->(∀k,S1 k->S k\/w.heap.size<=k)->Chg S w w1->(i=ts.length\/(vr C s (ts.take i)).err≠0)->J1 () w1:=by
  intro S1 w1 i hi h1 ho hl hS1 hc1 hor;refine hJ1 _ _ ?_;have e:vr C s ts=vr C s (ts.take i):=by
   rcases hor with rfl | he
   ·rw [take_length]
   ·conv=>lhs;rw [<-List.take_append_drop i ts,qqv,zcu he]
  rw [e] at hK;obtain ⟨p1,hb1,_⟩:=h1.ex;exact lI (x:=(((vr C s (ts.take i)).err:Nat):Int)) (hb1.cells 27 _ rfl) (hK S1 w1 h1 ho (by omega) hS1 hc1)
 rw [ht.n];refine lpR (λ(st:Int×Unit) w1=>∃(i:Nat) (S1:Nat->Prop),st.1=i/\i<=ts.length/\LdA w1 B g gd C (vr C s (ts.take i)) S1/\(vr C s (ts.take i)).over=false/\qas (vr C s (ts.take i))<=qas s+3*i/\(∀k,S1 k->S k\/w.heap.size<=k)/\Chg S w w1) (λst=>ts.length-st.1.toNat)
  ⟨0,S,rfl,by omega,h,hov,le_refl _,λk hk=>.inl hk,Chg.refl _ _⟩ ?_
 rintro ⟨i,u⟩ w1 ⟨i,S1,rfl,hi,h1,ho1,hl1,hS1,hc1⟩ I hI;dsimp only;have hw1:=hc1.size;refine cO (λhlt=>?_) λhge=>?_
 ·have hlt:=oTq hlt;have hil:i<ts.length:=by omega
  obtain ⟨c,hc,_⟩:=Go.Vc.get_of (xs:=ts) (k:=i) hil;have htn:ts≠[]:=λh=>by rw [h] at hil;simp at hil
  have ht1:=ht.chg hc1 λa ha=>htS a.block (slk.2 ⟨a,ha,rfl⟩) htn;refine ht1.ix (i:=(i:Int)) rfl (by omega) (by omega) λ_=>?_;rw [toNat_natCast];refine lI (x:=(c.toNat:Int)) (q6m ht1 hc) ?_;obtain ⟨s1,hs1⟩:∃s1,s1=vr C s (ts.take i):=⟨_,rfl⟩;have hsucc:vr C s (ts.take (i+1))=qok C s1 c:=by
   rw [take_add_one,hc,qqv,<-hs1];rfl
  rw [<-hs1] at h1 ho1 hl1;obtain ⟨p1,hb1,_⟩:=h1.ex;refine lI (x:=(s1.err:Int)) (hb1.cells 27 _ rfl) (cO (λe=>?_) λe=>?_)
  ·have e:s1.err≠0:=λh=>by rw [h] at e;cases e
   rw [hs1] at h1 ho1 hl1 e;exact tell S1 w1 i hi h1 ho1 hl1 hS1 hc1 (.inr e)
  ·have e:s1.err=0:=by
    rcases Nat.eq_zero_or_pos s1.err with h | h
    ·exact h
    ·rw [qu8 (by omega)] at e;cases e
   refine qK (x:=some ⟨gd,0,none⟩) (hb1.cells 0 _ rfl) ?_;refine q8o h1.d h1.ok λt3 w3 ht3 htb3 hd3 hc3=>?_;have hpl:=q6s s1.d h1.ok c;have hpb:4*s1.b.length<=qas s1:=by unfold qas;omega
   have hac:qok C s1 c=qsj C s1 (vL s1.d c):=by unfold qok;rw [if_neg (by omega)]
   have:=qx4 h1 (by omega) ht3 htb3 hd3 (q9w h1.ok c) hc3 (by omega) (K:=λw5=>I ((i64.wrap ((i:Int)+(1:Int))),()) w5) λS' w5 h5 hS' hc5=>by
    rw [qP (by omega)];rw [<-hac] at h5;refine hI _ _ ⟨i+1,S',rfl,by omega,by rw [hsucc];exact h5,by rw [hsucc,qyf];exact ho1,?_,λk hk=>?_,hc1.trans hc5 λk hk hS=>?_⟩ (by simp;omega)
    ·rw [hsucc];have:=q1o C s1 c;omega
    ·rcases hS' k hk with h | h
     ·exact hS1 k h
     ·right;omega
    ·rcases hS1 k hS with h | h
     ·exact h
     ·omega
   exact this
 ·have hge:=oFq hge;obtain rfl:i=ts.length:=by omega
  exact tell S1 w1 ts.length (le_refl _) h1 ho1 hl1 hS1 hc1 (.inl rfl)
theorem q47 (h:LdA w B g gd C s S) {K:Int->Ub} (hK:K ((s.b.length:Nat):Int) w):Zt (some ⟨g,0,none⟩) w K:=by
 refine qht _ ?_;simp only [onPtr_some];obtain ⟨p,hb,_⟩:=h.ex;exact lI (x:=(s.b.length:Int)) (hb.cells 26 _ rfl) hK
def ve (k:qb):Nat×Nat :=
 if k.Medium≠100\/(k.Zip≠0/\k.Zip≠122) then (8,0)
 else if k.Format=100 then (0,0)
 else if k.Format≠24/\k.Format≠32 then (8,0)
 else if k.W<1\/k.W>16384\/k.H<1\/k.H>16384 then (1,0)
 else (0,k.Format.toNat/8*k.W.toNat*k.H.toNat)
theorem quy {n:Int} {K:Bool->Ub} (hK:K (decide (1<=n/\n<=16384)) w):XW n w K:=by
 refine qqk _ ?_;refine cO (λe=>?_) λe=>?_
 ·have e:=oTq e;have:decide (1<=n/\n<=16384)=decide (n<=16384):=by rw [decide_eq_decide];omega
  rw [this] at hK;exact hK
 ·have e:=oFq e;rw [dFq (by omega)] at hK;exact hK
theorem q6g {k:qb} {K:Int->Int->Ub} (hK:∀w',Uc w w'->K ((ve k).2:Nat) ((ve k).1:Nat) w'):qgj k w K:=by
 refine qso _ ?_;refine nwb λw1 h1 hB1 hs1=>jpO λJ1 hJ1=>jpO λJ2 hJ2=>?_;have hk:=hK w1 hB1;unfold ve at hk;have key:∀bb:Bool,(bb=true↔k.Medium≠100\/(k.Zip≠0/\k.Zip≠122))->J2 (bb,()) w1:=by
  intro bb hbb;refine hJ2 _ _ (cO (λe=>?_) λe=>?_)
  ·rw [if_pos (hbb.1 e)] at hk;exact hk
  rw [if_neg λh=>by rw [hbb.2 h] at e;cases e] at hk;refine lI (x:=k.Format) (h1.cells 5 _ rfl) (cO (λe=>?_) λe5=>?_)
  ·rw [if_pos (eq_of_beq e)] at hk;exact hk
  have e5:k.Format≠100:=by simpa using e5
  rw [if_neg e5] at hk;refine jpO λJ3 hJ3=>?_;have key2:∀bb:Bool,(bb=true↔k.Format≠24/\k.Format≠32)->J3 (bb,()) w1:=by
   intro bb hbb;refine hJ3 _ _ (cO (λe=>?_) λe=>?_)
   ·rw [if_pos (hbb.1 e)] at hk;exact hk
   have hf:¬(k.Format≠24/\k.Format≠32):=λh=>by rw [hbb.2 h] at e;cases e
   rw [if_neg hf] at hk;refine lI (x:=k.W) (h1.cells 6 _ rfl) (quy (cO (λe=>?_) λe=>?_))
   ·have e:¬(1<=k.W/\k.W<=16384):=λh=>by rw [dTq h] at e;cases e
    rw [if_pos (by omega)] at hk;exact hk
   have e1:1<=k.W/\k.W<=16384:=by simpa using e
   refine lI (x:=k.H) (h1.cells 7 _ rfl) (quy (cO (λe=>?_) λe=>?_))
   ·have e:¬(1<=k.H/\k.H<=16384):=λh=>by rw [dTq h] at e;cases e
    rw [if_pos (by omega)] at hk;exact hk
   have e2:1<=k.H/\k.H<=16384:=by simpa using e
   rw [if_neg (by omega)] at hk;refine hJ1 _ _ (lI (x:=k.Format) (h1.cells 5 _ rfl) ⟨by decide,lI (x:=k.W) (h1.cells 6 _ rfl) (lI (x:=k.H) (h1.cells 7 _ rfl) ?_)⟩);obtain ⟨W,hW⟩:∃W:Nat,k.W=W:=⟨k.W.toNat,by omega⟩;obtain ⟨H,hH⟩:∃H:Nat,k.H=H:=⟨k.H.toNat,by omega⟩;obtain ⟨f,hF⟩:∃f:Nat,k.Format=f:=⟨k.Format.toNat,by omega⟩;have hf8:f/8<=4:=by omega
   rw [hW,hH,hF] at hk ⊢;have h3:f/8*W<=4*16384:=Nat.mul_le_mul hf8 (by omega);have h4:f/8*W*H<=4*16384*16384:=Nat.mul_le_mul h3 (by omega);have ev:i64.wrap ((i64.wrap ((i64.wrap ((f:Int).tdiv (8:Int)))*(W:Int)))*(H:Int))=((f/8*W*H:Nat):Int):=by
    rw [show (8:Int)=((8:Nat):Int) from rfl,<-Int.ofNat_tdiv,qP (x:=((f/8:Nat):Int)) (by omega),show ((f/8:Nat):Int)*(W:Int)=((f/8*W:Nat):Int) by simp,qP (x:=((f/8*W:Nat):Int)) (by omega),show ((f/8*W:Nat):Int)*(H:Int)=((f/8*W*H:Nat):Int) by simp,qP (by omega)]
   rw [ev];exact hk
  refine lI (x:=k.Format) (h1.cells 5 _ rfl) (cO (λe=>?_) λe=>?_)
  ·have e:k.Format≠24:=by simpa using e
   refine lI (x:=k.Format) (h1.cells 5 _ rfl) (key2 _ ?_);simp [e]
  ·have e:k.Format=24:=by simpa using e
   exact key2 _ (by simp [e])
 refine lI (x:=k.Medium) (h1.cells 1 _ rfl) (cO (λe=>?_) λe=>?_)
 ·have e:k.Medium≠100:=by simpa using e
  exact key _ (by simp [e])
 have e:k.Medium=100:=by simpa using e
 refine lI (x:=k.Zip) (h1.cells 2 _ rfl) (cO (λe2=>?_) λe2=>?_)
 ·have e2:k.Zip≠0:=by simpa using e2
  refine lI (x:=k.Zip) (h1.cells 2 _ rfl) (key _ ?_);simp [e,e2]
 ·have e2:k.Zip=0:=by simpa using e2
  exact key _ (by simp [e,e2])
end
def qpt (k:qb) (room:Int):Nat :=
 if room<0\/room>1073741824 then 1
 else if (ve k).1≠0 then (ve k).1
 else if k.Format≠100/\4*k.W*k.H>room then 6 else 0
def ld0:LdS:=⟨q84,[],0,false⟩
theorem qxl {k:qb} (h:(ve k).1=0):(k.Format=100/\(ve k).2=0)\/(k.Format≠100/\(k.Format=24\/k.Format=32)/\∃W H:Nat,k.W=W/\k.H=H/\1<=W/\W<=16384/\1<=H/\H<=16384/\(ve k).2=k.Format.toNat/8*W*H):=by
 unfold ve at h ⊢;split at h
 ·cases h
 ·rename_i h1;rw [if_neg h1];split at h
  ·rename_i h2;rw [if_pos h2];exact .inl ⟨h2,rfl⟩
  ·rename_i h2;rw [if_neg h2];split at h
   ·cases h
   ·rename_i h3;rw [if_neg h3];split at h
    ·cases h
    ·rename_i h4;rw [if_neg h4];exact .inr ⟨h2,by omega,k.W.toNat,k.H.toNat,by omega,by omega,by omega,by omega,by omega,by omega,rfl⟩
def pxF (per:Nat) (b:List UInt8) (i:Nat):List UInt8:=(b.drop (per*i)).take per++[0,0,0,255].drop per
def qes (per n:Nat) (b:List UInt8):List UInt8:=(List.range n).flatMap (pxF per b)
theorem zeh {per:Nat} {b:List UInt8} {i:Nat} (hp:per<=4) (h:per*i+per<=b.length):(pxF per b i).length=4:=by
 unfold pxF;rw [length_append,length_take,length_drop,length_drop];show min per (b.length-per*i)+(4-per)=4;omega
theorem qtc (per n:Nat) (b:List UInt8):qes per (n+1) b=qes per n b++pxF per b n:=by
 unfold qes;rw [List.range_succ,List.flatMap_append];simp
theorem qxr {per:Nat} {b:List UInt8} (hp:per<=4):∀n,per*n<=b.length->(qes per n b).length=4*n
 | 0,_=>rfl
 | n+1,h=>by
  have e:per*(n+1)=per*n+per:=by rw [Nat.mul_add,mul_one]
  rw [qtc,length_append,qxr hp n (by omega),zeh hp (by omega)];omega
section
variable {w:World}
theorem q8r {k:qb} {room:Int} {K:Option Addr->Int->Ub} (hE:qpt k room≠0->∀w',Uc w w'->K none ((qpt k room:Nat):Int) w')
  (hO:qpt k room=0->∀g gd w',LdA w' w.heap.size g gd ⟨k,room.toNat,(ve k).2⟩ ld0 (λi=>i=g\/i=gd)->Uc w w'->K (some ⟨g,0,none⟩) 0 w'):qnn k room w K:=by
 refine qws _ _ ?_;refine nwb λw1 h1 hB1 hs1=>jpO λJ1 hJ1=>?_;unfold qpt at hE hO;refine cO (λe=>?_) λe1=>cO (λe=>?_) λe2=>hJ1 _ _ ?_
 ·have e:=oTq e;rw [if_pos (.inl e)] at hE;exact hE (by decide) w1 hB1
 ·have e:=oTq e;rw [if_pos (.inr e)] at hE;exact hE (by decide) w1 hB1
 have e1:=oFq e1;have e2:=oFq e2;rw [if_neg (by omega)] at hE hO;refine qx (r:=qb.rep) (x:=k) h1.cells ?_;refine q6g λw3 hB3=>?_;have hB13:=bT hB1 hB3;have h13:=h1.ext hB3;refine jpO λJ2 hJ2=>?_;refine cO (λe=>?_) λe=>?_
 ·have e:(ve k).1≠0:=λh=>by rw [h] at e;cases e
  rw [if_pos e] at hE;exact hE e w3 hB13
 have e0:(ve k).1=0:=by
  rcases Nat.eq_zero_or_pos (ve k).1 with h | h
  ·exact h
  ·rw [qu8 (by omega)] at e;cases e
 rw [if_neg (by omega)] at hE hO;have made:¬(k.Format≠100/\4*k.W*k.H>room)->J2 () w3:=by
  intro hn;rw [if_neg hn] at hO;refine hJ2 _ _ ?_;have hBd:=bdw w3;refine qx (r:=qb.rep) (x:=k) (h13.ext hBd).cells ?_;refine qft ?_;unfold Kk;refine nwb λw5 h5 hB5 hs5=>?_;have hB35:=bT hBd hB5;refine ⟨(h13.ext hB35).cells,nwb λw6 h6 hB6 hs6=>?_⟩;have hs13:=hB13.size;have hz:w3.drew.heap.size=w3.heap.size:=rfl;have hd:ZR w6 w3.drew.heap.size q84:=h5.ext hB6;refine hO rfl w5.heap.size w3.drew.heap.size w6 ⟨⟨⟨none,0,0⟩,?_,.inl ⟨rfl,rfl⟩⟩,hd,q77,.inl rfl,.inr rfl,λi hi=>?_⟩ (bT (bT hB13 hB35) hB6)
  ·have hr:((room.toNat:Nat):Int)=room:=by omega
   have:vG w3.drew.heap.size ⟨k,room.toNat,(ve k).2⟩ ⟨none,0,0⟩ ld0.b.length ld0.err ld0.over=[(.pointer (some ⟨w3.drew.heap.size,0,none⟩)),(.int .u8 k.Action),(.int .u8 k.Medium),(.int .u8 k.Zip),(.int .u8 k.What),(Ua k.Quiet),(Ua k.Format),(Ua k.W),(Ua k.H),(Ua k.Id),(Ua k.Number),(Ua k.Place),(Ua k.More),(Ua k.X),(Ua k.Y),(Ua k.PW),(Ua k.PH),(Ua k.DX),(Ua k.DY),(Ua k.Rows),(Ua k.Cols),(Ua k.Z),(Ua k.Stay),(Ua room),(Ua (((ve k).2:Nat):Int)),(.slice none 0 0),(Ua 0),(Ua 0),(.bool false)]:=by
    unfold vG;rw [hr];rfl
   rw [this];exact h6
  ·rcases hi with rfl | rfl
   ·exact ⟨by omega,by omega⟩
   ·exact ⟨by omega,by omega⟩
 refine lI (x:=k.Format) (h13.cells 5 _ rfl) (cO (λef=>?_) λef=>?_)
 ·have ef:k.Format≠100:=by simpa using ef
  rcases qxl e0 with ⟨h,_⟩ | ⟨_,_,W,H,hW,hH,a1,a2,a3,a4,_⟩
  ·exact absurd h ef
  refine lI (x:=k.W) (h13.cells 6 _ rfl) (lI (x:=k.H) (h13.cells 7 _ rfl) ?_);have hWH:W*H<=16384*16384:=Nat.mul_le_mul a2 a4;have h4:4*W*H=4*(W*H):=Nat.mul_assoc _ _ _;have em:4*k.W*k.H=((4*W*H:Nat):Int):=by rw [hW,hH];simp
  have ev:i64.wrap ((i64.wrap ((4:Int)*k.W))*k.H)=((4*W*H:Nat):Int):=by
   rw [hW,hH,qP (x:=(4:Int)*(W:Int)) (by omega),show (4:Int)*(W:Int)*(H:Int)=((4*W*H:Nat):Int) by simp,qP (by omega)]
  rw [ev];rw [em] at hE made;refine cO (λe=>?_) λe=>made λh=>?_
  ·have e:=oTq e;rw [if_pos ⟨ef,e⟩] at hE;exact hE (by decide) w3 hB13
  ·exact oFq e h.2
 ·have ef:k.Format=100:=by simpa using ef
  exact made λh=>h.1 ef
theorem qyg {W H per:Nat} {b:Slc} {bs:List UInt8} (hper:per=3\/per=4) (hW1:1<=W) (hW2:W<=16384) (hH1:1<=H) (hH2:H<=16384) (hA:W*H<=67108864) (hb:Rd qm w b bs) (hl:bs.length<=1000000000) {K:qa->Int->Ub}
  (hS:bs.length<per*W*H->∀w',Uc w w'->K ⟨0,0,⟨none,0,0⟩⟩ 2 w') (hL:bs.length>per*W*H->∀w',Uc w w'->K ⟨0,0,⟨none,0,0⟩⟩ 5 w')
  (hO:bs.length=per*W*H->∀s w',Go.Vc.Own qm w' w.heap.size s (qes per (W*H) bs)->Uc w w'->K ⟨W,H,s⟩ 0 w'):Yh (W:Int) (H:Int) (per:Int) b w K:=by
 refine qss _ _ _ _ ?_;refine nwb λw1 h1 hB1 hs1=>?_;refine qw8 hW1 hW2 hH1 hH2 hA λtm gm w2 htm hta hgm hB2=>?_;refine nwb λw3 h3 hB3 hs3=>x5 h3 rfl λw4 h4 hc4 hs4=>?_;have hB24:Uc w2 w4:=b1o hB3 hc4 (le_refl _);have hB14:=bT hB2 hB24;have hB4:=bT hB1 hB14;have htm4:=(htm.ext hB3).chg hc4 λk hk=>qF (htm.ext hB3) h3 (by decide) k hk;have h14:=h1.ext hB14;have hp4:3<=per/\per<=4:=by omega
 have hpm:per*W*H=per*(W*H):=Nat.mul_assoc _ _ _;have h4m:4*W*H=4*(W*H):=Nat.mul_assoc _ _ _;have hpA:per*(W*H)<=4*(W*H):=Nat.mul_le_mul_right _ hp4.2;have htb:tm.blk=some gm:=by unfold Slc.blk;rw [hta];rfl
 have hsz2:=hB2.size;refine jpO λJ1 hJ1=>?_;have bad:∀e:Nat,e≠0->(∀w',Uc w w'->K ⟨0,0,⟨none,0,0⟩⟩ (e:Int) w')->J1 ((e:Int),()) w4:=λe he hk=>hJ1 _ _ (cT (qu8 (by omega)) (zM (r:=qa.rep) (x:=⟨0,0,⟨none,0,0⟩⟩) h14 rfl rfl λw5 hc5 hs5=>hk w5 (b1o hB4 hc5 (le_refl _))));have good:bs.length=per*W*H->J1 (0,()) w4:=by
  intro hbl;refine hJ1 _ _ (cF rfl ?_);have ewh:i64.wrap ((W:Int)*(H:Int))=((W*H:Nat):Int):=by rw [show (W:Int)*(H:Int)=((W*H:Nat):Int) by simp,qP (by omega)]
  rw [ewh];refine lpR (λ(st:Int×Unit) w5=>∃i:Nat,st.1=i/\i<=W*H/\Go.Vc.Own qm w5 w1.heap.size tm (qes per i bs++List.replicate (4*(W*H-i)) 0)/\Chg (λk=>k=gm) w4 w5) (λst=>W*H-st.1.toNat)
   ⟨0,rfl,by omega,by rw [Nat.sub_zero,<-h4m];exact htm4,Chg.refl _ _⟩ ?_
  rintro ⟨i,u⟩ w5 ⟨i,rfl,hi,hT,hC⟩ I hI;dsimp only;have keep:∀{k tt:Nat} {cs:List Value},tt≠qN->Blk w4 k tt cs->Blk w5 k tt cs:=λ{k tt cs} hne hbk=>hbk.chg hC λe=>by
   subst e;obtain ⟨cs',hcs'⟩:=htm4.blk_t htb;exact hbk.ne_t hcs' hne rfl
  have hm5:=keep (by decide) h4;have hB5:Uc w w5:=b1o hB4 hC (by have:=hB1.size;omega);refine cO (λhlt=>?_) λhge=>?_
  ·have hlt:=oTq hlt;have hil:i<W*H:=by omega
   have hpi:per*i+per<=bs.length:=by
    have:=Nat.mul_le_mul_left per (show i+1<=W*H from hil);rw [Nat.mul_add,mul_one] at this;omega
   have hfl:=qxr (b:=bs) hp4.2 i (by omega);obtain ⟨R,hR⟩:∃R:List UInt8,R=List.replicate (4*(W*H-(i+1))) 0:=⟨_,rfl⟩;have hrep:List.replicate (4*(W*H-i)) (0:UInt8)=[0,0,0,0]++R:=by
    rw [hR,show 4*(W*H-i)=4+4*(W*H-(i+1)) by omega,<-List.replicate_append_replicate];rfl
   rw [hrep] at hT;obtain ⟨A,hA'⟩:∃A,A=qes per i bs:=⟨_,rfl⟩;rw [<-hA'] at hT hfl;refine lSl (x:=tm) (hm5.cells 2 _ rfl) ?_;rw [qP (x:=(4:Int)*(i:Int)) (by omega),qP (x:=(4:Int)*(i:Int)+3) (by omega),show (4:Int)*(i:Int)+3=((4*i+3:Nat):Int) by simp];refine hT.rd.ix (i:=((4*i+3:Nat):Int)) rfl (by omega) (by simp only [length_append,length_cons,length_nil];omega) λ_=>?_;rw [toNat_natCast];refine hT.st0 (i:=4*i+3) (x:=0) (y:=255) (by rw [List.getElem?_append_right (by omega),hfl,show 4*i+3-4*i=3 by omega];rfl) rfl λw6 hT6 hg6 hs6=>?_;have hc6:Chg (λk=>k=gm) w5 w6:=by rw [htb] at hg6;exact Go.Vc.Chg.gg hg6
   have hset:(A++([0,0,0,0]++R)).set (4*i+3) 255=A++([0,0,0,255]++R):=by
    rw [List.set_append_right _ _ (by omega),hfl,show 4*i+3-4*i=3 by omega];rfl
   rw [hset] at hT6;have hBd:=bdw w6;have hT6d:=hT6.ext hBd;have hm6:Blk w6 w2.heap.size qq _:=hm5.chg hc6 λe=>by
    obtain ⟨cs',hcs'⟩:=hT.blk_t htb;subst e;exact hm5.ne_t hcs' (by decide) rfl
   have hB6d:Uc w w6.drew:=bT (b1o hB5 hc6 (by have:=hB1.size;omega)) hBd;refine lSl (x:=tm) ((hm6.ext hBd).cells 2 _ rfl) ?_;have hll:(A++([0,0,0,255]++R)).length=4*i+(4+R.length):=by
    rw [length_append,length_append,hfl];rfl
   rw [show (4:Int)*(i:Int)=((4*i:Nat):Int) by simp];obtain ⟨cur,hcur,hcl,hct,hc1,hc2,hc3',hc4'⟩:=qy9 (c:=0) hT6d hta;refine hT6d.rd.slK (l:=4*i) (m:=(A++([0,0,0,255]++R)).length) rfl (.inr rfl) (.inl ⟨rfl,rfl⟩) (by omega) (le_refl _) λ_=>?_;have hbd:=hb.ext hB6d;have ep:i64.wrap ((per:Int)*(i:Int))=((per*i:Nat):Int):=by rw [show (per:Int)*(i:Int)=((per*i:Nat):Int) by simp,qP (by omega)]
   have ep2:i64.wrap (((per*i:Nat):Int)+(per:Int))=((per*i+per:Nat):Int):=by rw [qP (by omega)];simp
   rw [ep,ep2];refine hbd.slK (l:=per*i) (m:=per*i+per) rfl (.inr rfl) (.inr rfl) (by omega) hpi λhpt=>?_;have hpe:(bs.take (per*i+per)).drop (per*i)=(bs.drop (per*i)).take per:=by rw [List.drop_take,Nat.add_sub_cancel_left]
   rw [hpe] at hpt;have hptl:((bs.drop (per*i)).take per).length=per:=by rw [length_take,length_drop];omega
   have hcut:cut tm.a (4*i) tm.c qm.k=some ⟨gm,4*i,none⟩:=by
    unfold cut;rw [if_neg (by omega),hta];show some ((⟨gm,0,none⟩:Addr).add (4*i*1))=_;rw [q4,mul_one,zero_add]
   rw [hcut];refine zf6 (n:=per) hcur hpt (by rw [hptl,hll];show per=min per (4*i+(4+R.length)-4*i);omega) (by omega) λw7 hb7 hc7 hs7=>?_;have htk:((bs.drop (per*i)).take per).take per=(bs.drop (per*i)).take per:=List.take_of_length_le (by omega);rw [htk] at hb7;have hT7:=q73 (ys:=(bs.drop (per*i)).take per) (k:=4*i) hT6d hta hcur (by rw [hptl,hll];omega) hb7;rw [hptl] at hT7;have hfin:(A++([0,0,0,255]++R)).take (4*i)++(bs.drop (per*i)).take per++(A++([0,0,0,255]++R)).drop (4*i+per)=qes per (i+1) bs++R:=by
    rw [qtc,<-hA',List.take_append_of_le_length (by omega),List.take_of_length_le (by omega),List.drop_append,hfl,show 4*i+per-4*i=per by omega,List.drop_of_length_le (show A.length<=4*i+per by omega),List.nil_append,List.drop_append_of_le_length (show per<=4 by omega)];unfold pxF;simp [append_assoc]
   rw [hfin,hR] at hT7;rw [qP (by omega)];exact hI _ _ ⟨i+1,rfl,by omega,hT7,((hC.trans hc6 λk _ hk=>hk).trans (Chg.of_ext (S:=λk=>k=gm) hBd) λk _ hk=>hk).trans hc7 λk _ hk=>hk⟩ (by simp;omega)
  ·have hge:=oFq hge;obtain rfl:i=W*H:=by omega
   rw [Nat.sub_self,Nat.mul_zero,List.replicate_zero,List.append_nil] at hT;refine qx (r:=qa.rep) (x:=⟨W,H,tm⟩) hm5.cells ?_;have h15:=keep (by decide) h14;refine zM (r:=qa.rep) (x:=⟨W,H,tm⟩) h15 rfl rfl λwb hcb hsb=>?_;exact hO hbl tm wb ((hT.chg hcb λk hk=>qF hT h15 (by decide) k hk).base hB1.size) (b1o hB5 hcb (le_refl _))
 have en:i64.wrap ((i64.wrap ((per:Int)*(W:Int)))*(H:Int))=((per*W*H:Nat):Int):=by
  have h5:per*W<=4*16384:=Nat.mul_le_mul hp4.2 hW2;rw [show (per:Int)*(W:Int)=((per*W:Nat):Int) by simp,qP (x:=((per*W:Nat):Int)) (by omega),show ((per*W:Nat):Int)*(H:Int)=((per*W*H:Nat):Int) by simp,qP (by omega)]
 rw [hb.n,en];refine cF rfl (cO (λe=>?_) λe=>cO (λe2=>?_) λe2=>?_)
 ·have e:=oTq e;exact bad 2 (by decide) (hS (by omega))
 ·have e2:=oTq e2;exact bad 5 (by decide) (hL (by omega))
 ·have e:=oFq e;have e2:=oFq e2;exact good (by omega)
end
def qpc (w:World) (base:Nat) (m:qa) (r:Nat×Nat×Nat×List UInt8):Prop:=m.W=(r.2.1:Int)/\m.H=(r.2.2.1:Int)/\Go.Vc.Own qm w base m.P r.2.2.2
structure CfgOk (C:LdK):Prop where
 nw:qpt C.k (C.most:Int)=0
 need:C.need=(ve C.k).2
 most:C.most<=100000
 raw:C.k.Format≠100/\C.k.Zip≠122
theorem CfgOk.needs {C:LdK} (h:CfgOk C):(ve C.k).1=0:=by
 have:=h.nw;have hm:=h.most;unfold qpt at this;rw [if_neg (by omega)] at this;split at this
 ·rename_i h1;exact absurd this h1
 ·omega
theorem CfgOk.sides {C:LdK} (h:CfgOk C) (hf:C.k.Format≠100):∃W H per:Nat,C.k.W=W/\C.k.H=H/\1<=W/\W<=16384/\1<=H/\H<=16384/\(C.k.Format=24/\per=3\/C.k.Format=32/\per=4)/\C.need=per*W*H/\4*(W*H)<=C.most:=by
 rcases qxl h.needs with ⟨h1,_⟩ | ⟨_,h24,W,H,hW,hH,a1,a2,a3,a4,hn⟩
 ·exact absurd h1 hf
 ·have h6:¬(C.k.Format≠100/\4*C.k.W*C.k.H>(C.most:Int)):=by
   intro hc;have:=h.nw;have hm:=h.most;unfold qpt at this;rw [if_neg (by omega),if_neg (by have:=h.needs;omega),if_pos hc] at this;cases this
  have em:4*C.k.W*C.k.H=((4*(W*H):Nat):Int):=by rw [hW,hH,Int.mul_assoc];simp
  rw [em] at h6;have h6':4*(W*H)<=C.most:=by
   rcases Nat.lt_or_ge C.most (4*(W*H)) with hc | hc
   ·exact absurd ⟨hf,by omega⟩ h6
   ·exact hc
  rcases h24 with e | e
  ·exact ⟨W,H,3,hW,hH,a1,a2,a3,a4,.inl ⟨e,rfl⟩,by rw [h.need,hn,e];rfl,h6'⟩
  ·exact ⟨W,H,4,hW,hH,a1,a2,a3,a4,.inr ⟨e,rfl⟩,by rw [h.need,hn,e];rfl,h6'⟩
def qrh (C:LdK) (b:List UInt8):Nat×Nat×Nat×List UInt8 :=
 if b.length<C.need then (2,0,0,[])
 else if b.length>C.need then (5,0,0,[])
 else (0,C.k.W.toNat,C.k.H.toNat,qes (if C.k.Format=24 then 3 else 4) (C.k.W.toNat*C.k.H.toNat) b)
def q2w (s:LdS):LdS:={ s with over:=true }
def qm8 (C:LdK) (s:LdS):Nat×Nat×Nat×List UInt8 :=
 if s.over then (7,0,0,[]) else if (qna C (q2w s)).err≠0 then ((qna C (q2w s)).err,0,0,[]) else qrh C (qna C (q2w s)).b
def zf3 (C:LdK) (s:LdS):LdS:=if s.over then s else { qna C (q2w s) with b:=[] }
section
variable {w:World} {B g gd:Nat} {C:LdK} {s:LdS} {S:Nat->Prop}
theorem qpc.zero (w:World) (base e:Nat):qpc w base ⟨0,0,⟨none,0,0⟩⟩ (e,0,0,[]):=⟨rfl,rfl,Go.Vc.Own.nil _ _ _⟩
theorem qz4 {W H:Nat} {b:Slc} {bs:List UInt8} (hW1:1<=W) (hW2:W<=16384) (hH1:1<=H) (hH2:H<=16384) (hA:W*H<=67108864) (hb:Rd qm w b bs) (hl:bs.length<=1000000000) (hn:¬bs.length<3*W*H) {K:qa->Int->Ub}
  (hL:bs.length>3*W*H->∀w',Uc w w'->K ⟨0,0,⟨none,0,0⟩⟩ 5 w') (hO:bs.length=3*W*H->∀s w',Go.Vc.Own qm w' w.heap.size s (qes 3 (W*H) bs)->Uc w w'->K ⟨W,H,s⟩ 0 w'):Vp (W:Int) (H:Int) b w K:=by
 refine qmr _ _ _ ?_;refine nwb λw1 h1 hB1 hs1=>?_;refine qyg (per:=3) (by omega) hW1 hW2 hH1 hH2 hA (hb.ext hB1) hl (λh=>absurd h hn) (λh w2 hB2=>?_) (λh s w2 hs hB2=>?_)
 ·exact zM (r:=qa.rep) (x:=⟨0,0,⟨none,0,0⟩⟩) (h1.ext hB2) rfl rfl λw3 hc3 hs3=>hL h w3 (b1o (bT hB1 hB2) hc3 (le_refl _))
 ·exact zM (r:=qa.rep) (x:=⟨W,H,s⟩) (h1.ext hB2) rfl rfl λw3 hc3 hs3=>hO h s w3 ((hs.chg hc3 λk hk=>qF hs (h1.ext hB2) (by decide) k hk).base hB1.size) (b1o (bT hB1 hB2) hc3 (le_refl _))
theorem qwu {W H:Nat} {b:Slc} {bs:List UInt8} (hW1:1<=W) (hW2:W<=16384) (hH1:1<=H) (hH2:H<=16384) (hA:W*H<=67108864) (hb:Rd qm w b bs) (hl:bs.length<=1000000000) (hn:¬bs.length<4*W*H) {K:qa->Int->Ub}
  (hL:bs.length>4*W*H->∀w',Uc w w'->K ⟨0,0,⟨none,0,0⟩⟩ 5 w') (hO:bs.length=4*W*H->∀s w',Go.Vc.Own qm w' w.heap.size s (qes 4 (W*H) bs)->Uc w w'->K ⟨W,H,s⟩ 0 w'):X8 (W:Int) (H:Int) b w K:=by
 refine qk7 _ _ _ ?_;refine nwb λw1 h1 hB1 hs1=>?_;refine qyg (per:=4) (by omega) hW1 hW2 hH1 hH2 hA (hb.ext hB1) hl (λh=>absurd h hn) (λh w2 hB2=>?_) (λh s w2 hs hB2=>?_)
 ·exact zM (r:=qa.rep) (x:=⟨0,0,⟨none,0,0⟩⟩) (h1.ext hB2) rfl rfl λw3 hc3 hs3=>hL h w3 (b1o (bT hB1 hB2) hc3 (le_refl _))
 ·exact zM (r:=qa.rep) (x:=⟨W,H,s⟩) (h1.ext hB2) rfl rfl λw3 hc3 hs3=>hO h s w3 ((hs.chg hc3 λk hk=>qF hs (h1.ext hB2) (by decide) k hk).base hB1.size) (b1o (bT hB1 hB2) hc3 (le_refl _))
theorem q25 {p:Slc} {held err:Nat} {over:Bool} (hb:Blk w g ju (vG gd C p held err over)) (hC:CfgOk C) {b:Slc} {bs:List UInt8} (hr:Rd qm w b bs) (hrl:∀k,b.blk=some k->k<w.heap.size) (hl:bs.length<=1000000) {K:qa->Int->Ub}
  (hK:∀m w',qpc w' w.heap.size m (qrh C bs)->Uc w w'->K m ((qrh C bs).1:Nat) w'):Qv (some ⟨g,0,none⟩) b w K:=by
 refine qgv _ _ ?_;simp only [onPtr_some];have hmost:=hC.most;refine nwb λw1 h1 hB1 hs1=>jpO λJ1 hJ1=>?_;have hb1:=hb.ext hB1;refine lI (x:=C.k.Format) (hb1.cells 6 _ rfl) (jpO λJ2 hJ2=>?_);unfold qrh at hK;have told:∀(m:qa) (e:Nat) (r:Nat×Nat×Nat×List UInt8) w2,qpc w2 (w.heap.size+1) m r->Uc w1 w2->(∀w',qpc w' w.heap.size m r->Uc w w'->K m (e:Int) w') ->
   stK ⟨w.heap.size,0,none⟩ (qa.rep.cells m) w2 λw4=>ldS qa.rep ⟨w.heap.size,0,none⟩ w4 λr=>K r (e:Int) w4:=by
  intro m e r w2 hm hB2 hk;refine zM (r:=qa.rep) (x:=m) (h1.ext hB2) rfl rfl λw4 hc4 hs4=>?_;exact hk w4 ⟨hm.1,hm.2.1,(hm.2.2.chg hc4 λk hk e=>by have:=(hm.2.2.lt k hk).1;omega).base (by omega)⟩ (b1o (bT hB1 hB2) hc4 (le_refl _))
 refine cO (λe=>absurd (eq_of_beq e) hC.raw.1) λe=>?_
 ·have e:=hC.raw.1;obtain ⟨W,H,per,hW,hH,a1,a2,a3,a4,hper,hneed,hmo⟩:=hC.sides e;have hpm:per*W*H=per*(W*H):=Nat.mul_assoc _ _ _;have hWn:C.k.W.toNat=W:=by rw [hW];rfl
  have hHn:C.k.H.toNat=H:=by rw [hH];rfl
  have hpe:(if C.k.Format=24 then 3 else 4:Nat)=per:=by
   rcases hper with ⟨h1,h2⟩ | ⟨h1,h2⟩
   ·rw [if_pos h1,h2]
   ·rw [if_neg (by omega),h2]
  rw [hWn,hHn,hpe] at hK;have hA:W*H<=67108864:=by omega
  have go:∀f:Value,(∀w2,Uc w1 w2->¬bs.length<C.need->jl Go.Proofs.YtokfefnmpjohpaaGreatDoor.C f [(Ua (W:Int)),(Ua (H:Int)),(.slice b.a b.n b.c)] [(Kind.struct qa.rep),(Kind.int .i64)] w2 λ(t45:qa) (t45_1:Int) w3=>stK ⟨w.heap.size,0,none⟩ (qa.rep.cells t45) w3 λw4=>ldS qa.rep ⟨w.heap.size,0,none⟩ w4 λr=>K r t45_1 w4)->J2 (f,()) w1:=by
   intro f hf;refine hJ2 _ _ ?_;refine lI (x:=(C.need:Int)) (hb1.cells 24 _ rfl) ?_;rw [hr.n];refine cO (λe2=>?_) λe2=>?_
   ·have e2:=oTq e2;rw [if_pos (by omega)] at hK;exact told ⟨0,0,⟨none,0,0⟩⟩ 2 (2,0,0,[]) w1 (qpc.zero _ _ _) (Below.refl _ _) λw' hm hB=>hK _ w' hm hB
   ·have e2:=oFq e2;refine hJ1 _ _ ?_;have hbd:=hb1.ext (bdw w1);refine lI (x:=(W:Int)) (by rw [<-hW];exact hbd.cells 7 _ rfl) (lI (x:=(H:Int)) (by rw [<-hH];exact hbd.cells 8 _ rfl) ?_);exact hf w1.drew (bdw w1) (by omega)
  have hs1':=hB1.size;refine cO (λe24=>go _ λw2 hB2 hn=>Go.Vc.callR_plain (by kernel_rfl) ?_) λe24=>go _ λw2 hB2 hn=>Go.Vc.callR_plain (by kernel_rfl) ?_
  ·have e24:C.k.Format=24:=eq_of_beq e24;have hp:per=3:=by omega
   subst hp;have hcall:Vp (W:Int) (H:Int) b w2 λt45 t45_1 w3=>stK ⟨w.heap.size,0,none⟩ (qa.rep.cells t45) w3 λw4=>ldS qa.rep ⟨w.heap.size,0,none⟩ w4 λr=>K r t45_1 w4:=by
    refine qz4 a1 a2 a3 a4 hA (hr.ext (bT hB1 hB2)) (by omega) (by omega) (λh w3 hB3=>?_) (λh s3 w3 hs3 hB3=>?_)
    ·rw [if_neg hn,if_pos (by omega)] at hK;exact told ⟨0,0,⟨none,0,0⟩⟩ 5 (5,0,0,[]) w3 (qpc.zero _ _ _) (bT hB2 hB3) λw' hm hB=>hK _ w' hm hB
    ·rw [if_neg hn,if_neg (by omega)] at hK;have hs2:=hB2.size;exact told ⟨W,H,s3⟩ 0 (0,W,H,qes 3 (W*H) bs) w3 ⟨rfl,rfl,hs3.base (by omega)⟩ (bT hB2 hB3) λw' hm hB=>hK _ w' hm hB
   refine Calls.mono hcall ?_;rintro ev w' ⟨r0,r1,rfl,hk⟩;exact ⟨r0,r1,rfl,hk⟩
  ·have e24:C.k.Format≠24:=by simpa using e24
   have hp:per=4:=by omega
   subst hp;have hcall:X8 (W:Int) (H:Int) b w2 λt45 t45_1 w3=>stK ⟨w.heap.size,0,none⟩ (qa.rep.cells t45) w3 λw4=>ldS qa.rep ⟨w.heap.size,0,none⟩ w4 λr=>K r t45_1 w4:=by
    refine qwu a1 a2 a3 a4 hA (hr.ext (bT hB1 hB2)) (by omega) (by omega) (λh w3 hB3=>?_) (λh s3 w3 hs3 hB3=>?_)
    ·rw [if_neg hn,if_pos (by omega)] at hK;exact told ⟨0,0,⟨none,0,0⟩⟩ 5 (5,0,0,[]) w3 (qpc.zero _ _ _) (bT hB2 hB3) λw' hm hB=>hK _ w' hm hB
    ·rw [if_neg hn,if_neg (by omega)] at hK;have hs2:=hB2.size;exact told ⟨W,H,s3⟩ 0 (0,W,H,qes 4 (W*H) bs) w3 ⟨rfl,rfl,hs3.base (by omega)⟩ (bT hB2 hB3) λw' hm hB=>hK _ w' hm hB
   refine Calls.mono hcall ?_;rintro ev w' ⟨r0,r1,rfl,hk⟩;exact ⟨r0,r1,rfl,hk⟩
end
theorem q9v (C:LdK) (s:LdS) (r:Nat×List UInt8×B64):(qsj C s r).over=s.over:=by
 unfold qsj qr8
 repeat' split
 all_goals rfl
theorem q9e (C:LdK) (s:LdS):(qna C s).over=s.over:=by
 unfold qna;split
 ·rfl
 ·exact q9v _ _ _
theorem quf (s:B64) (hs:B64Ok s):(qaa s).2.1.length<=3:=by
 unfold qaa;split
 ·simp
 ·have h1:=hs.n;have h2:=zbh s.w (by omega);dsimp only;omega
theorem q8p (s:B64):B64Ok (qaa s).2.2:=by
 unfold qaa;split
 ·exact qyr
 ·exact q77
theorem zce (C:LdK) (s:LdS) (hs:B64Ok s.d):(qna C s).b.length<=s.b.length+3:=by
 unfold qna;split
 ·omega
 ·have h1:=zbl C s (qaa s.d);have h2:=quf s.d hs;omega
section
variable {w:World} {B g gd:Nat} {C:LdK} {s:LdS} {S:Nat->Prop}
theorem q8l (h:LdA w B g gd C s S) (hBw:B<=w.heap.size) (hC:CfgOk C) (hsm:s.b.length<=32000) {K:qa->Int->Ub}
  (hK:∀m S' w',LdA w' B g gd C (zf3 C s) S'->qpc w' w.heap.size m (qm8 C s)->(∀k,m.P.blk=some k->¬S' k)->(∀k,S' k->S k\/w.heap.size<=k)->Chg S w w'->K m (((qm8 C s).1:Nat):Int) w'):ZN (some ⟨g,0,none⟩) w K:=by
 refine qi6 _ ?_;simp only [onPtr_some];refine nwb λw1 h1 hB1 hs1=>?_;have hA1:=h.ext hB1;obtain ⟨p0,hb0,hp0⟩:=hA1.ex;have hgw:∀k,S k->k≠w.heap.size:=λk hk e=>by have:=(h.lt k hk).2;omega
 refine xP (x:=s.over) (hb0.cells 28 _ rfl) ?_;unfold qm8 zf3 at hK;refine cO (λe=>?_) λe=>?_
 ·have e:s.over=true:=e;rw [if_pos e,if_pos e] at hK;refine zM (r:=qa.rep) (x:=⟨0,0,⟨none,0,0⟩⟩) h1 rfl rfl λw2 hc2 hs2=>?_;exact hK _ S w2 (hA1.chg hc2 λk hk=>hgw k hk) (qpc.zero _ _ _) (λk hk=>by cases hk) (λk hk=>.inl hk) ((Chg.of_ext (S:=S) hB1).trans hc2 λk hk e=>by omega)
 have e:s.over=false:=e;rw [if_neg (by rw [e];decide),if_neg (by rw [e];decide)] at hK;rw [q4];refine qw hb0 (by simp [vG,qb.rep]) λw3 hb3 hg3 hs3=>?_;have hc3:Chg (λk=>k=g) w1 w3:=Go.Vc.Chg.gg hg3;have hb3:Blk w3 g ju (vG gd C p0 s.b.length s.err true):=hb3;obtain ⟨s0,hs0⟩:∃s0,s0=q2w s:=⟨_,rfl⟩;have hd3:ZR w3 gd s.d:=Blk.chg hA1.d hc3 λe=>by subst e;exact hA1.d.ne_t hb0 (by decide) rfl
 have hA3:LdA w3 B g gd C s0 S:=by
  rw [hs0];refine ⟨⟨p0,hb3,?_⟩,hd3,h.ok,h.sg,h.sd,λk hk=>⟨(h.lt k hk).1,by have:=(h.lt k hk).2;have:=hB1.size;have:=hc3.size;omega⟩⟩;rcases hp0 with h | ⟨x,a1,a2,a3,a4,a5⟩
  ·exact .inl h
  ·exact .inr ⟨x,a1.chg hc3 λk hk=>qF a1 hb0 (by decide) k hk,a2.chg hc3 λk hk=>qF a2 hb0 (by decide) k hk,a3,a4,a5⟩
 have h13:Blk w3 w.heap.size qq _:=h1.chg hc3 λe=>hgw g h.sg e.symm;have hC03:Chg S w w3:=(Chg.of_ext (S:=S) hB1).trans hc3 λk _ hk=>by subst hk;exact h.sg
 have hsz3:w.heap.size+1<=w3.heap.size:=by have:=hc3.size;omega
 have hs0b:s0.b=s.b:=by rw [hs0];rfl
 have hs0e:s0.err=s.err:=by rw [hs0];rfl
 rw [<-hs0] at hK;refine jpO λJ1 hJ1=>?_;have main:∀S' w4,LdA w4 B g gd C (qna C s0) S'->(∀k,S' k->S k\/w3.heap.size<=k)->Chg S w3 w4->J1 () w4:=by
  intro S' w4 h4 hS' hc4;refine hJ1 _ _ ?_;have hlen:(qna C s0).b.length<=32003:=by
   have:=zce C s0 hA3.ok;rw [hs0b] at this;omega
  obtain ⟨E,hE⟩:∃E,E=qna C s0:=⟨_,rfl⟩;have hEo:E.over=true:=by rw [hE,q9e,hs0];rfl
  rw [<-hE] at h4 hK hlen;have h14:Blk w4 w.heap.size qq _:=h13.chg hc4 λhk=>hgw _ hk rfl;have hs4:=hc4.size;have hwS':∀k,S' k->k≠w.heap.size:=λk hk e=>by
   rcases hS' k hk with h | h
   ·exact hgw k h e
   ·omega
  obtain ⟨p,hb,hp⟩:=h4.ex;refine lSl (x:=p) (hb.cells 25 _ rfl) ?_;have cat:∀(K:Slc->Ub),(∀o w5,Go.Vc.Own qm w5 w4.heap.size o E.b->Uc w4 w5->K o w5)->jY p w4 K:=by
   intro K hk;rcases hp with ⟨h1,rfl⟩ | ⟨x,a1,a2,a3,a4,a5⟩
   ·refine qoq (p:=⟨none,0,0⟩) (ss:=[]) (xss:=[]) (Rd.nil zgp w4) ⟨rfl,λi s xs hs=>by simp at hs⟩ (by simp) (by simp) λr w5 hr hB5=>?_;rw [h1] at hk;exact hk r w5 hr hB5
   ·have hrd:Rd zgp w4 p [x]:=a1.rd;refine qoq (p:=p) (ss:=[x]) (xss:=[E.b]) hrd ⟨rfl,λi s xs hs hx=>?_⟩ (by simp;omega) (by simp) λr w5 hr hB5=>?_
    ·match i,hs,hx with
     | 0,hs,hx=>cases hs;cases hx;exact a2.rd
     | i+1,hs,hx=>simp at hs
    ·refine hk r w5 ?_ hB5;simpa using hr
  refine cat _ λo w5 ho hB5=>?_;refine Xu _ ?_;simp only [onPtr_some];have hb5:=hb.ext hB5;rw [q4];refine qw hb5 (by simp [vG,qb.rep]) λw6' hb6' hg6' hs6'=>?_;rw [q4];refine qw hb6' (by simp [vG,qb.rep,putL]) λw6 hb6 hg6 hs6=>?_;have hc6:Chg (λk=>k=g) w5 w6:=(Go.Vc.Chg.gg hg6').trans (Go.Vc.Chg.gg hg6) λi _ hi=>hi;have hb6:Blk w6 g ju (vG gd C ⟨none,0,0⟩ 0 E.err E.over):=hb6;have hd6:ZR w6 gd E.d:=Blk.chg (Blk.ext h4.d hB5) hc6 λe=>by subst e;exact (Blk.ext h4.d hB5).ne_t hb5 (by decide) rfl
  have hs5:=hB5.size;have hs6z:=hc6.size;have hA6:LdA w6 B g gd C { E with b:=[] } S':=⟨⟨⟨none,0,0⟩,hb6,.inl ⟨rfl,rfl⟩⟩,hd6,h4.ok,h4.sg,h4.sd,λk hk=>⟨(h4.lt k hk).1,by have:=(h4.lt k hk).2;omega⟩⟩;have ho6:=ho.chg hc6 λk hk e=>by have:=(ho.lt k hk).1;have:=(h4.lt g h4.sg).2;omega
  have h16:Blk w6 w.heap.size qq _:=(h14.ext hB5).chg hc6 λe=>hwS' g h4.sg e.symm;have hC6:Chg S w w6:=by
   refine ((hC03.trans hc4 λk _ hk=>hk).trans (Chg.of_ext (S:=S) hB5) λk _ hk=>hk).trans hc6 λk _ hk=>?_;subst hk;exact h.sg
  have hgrow:∀k,S' k->S k\/w.heap.size<=k:=λk hk=>by
   rcases hS' k hk with h | h
   ·exact .inl h
   ·right;omega
  refine lI (x:=(E.err:Int)) (hb6.cells 27 _ rfl) ?_;have told:∀(m:qa) (e:Nat) (r:Nat×Nat×Nat×List UInt8) w9,qpc w9 w6.heap.size m r->Uc w6 w9->(∀S' w',LdA w' B g gd C { E with b:=[] } S'->qpc w' w.heap.size m r->(∀k,m.P.blk=some k->¬S' k)->(∀k,S' k->S k\/w.heap.size<=k)->Chg S w w'->K m (e:Int) w') ->
    stK ⟨w.heap.size,0,none⟩ (qa.rep.cells m) w9 λw10=>LdA w10 B g gd C { E with b:=[] } S'->ldS qa.rep ⟨w.heap.size,0,none⟩ w10 λr=>K r (e:Int) w10:=by
   intro m e r w9 hm hB9 hk;refine x5 (h16.ext hB9) rfl λw10 hb10 hc10 hs10 hA10=>?_;refine qx (r:=qa.rep) (x:=m) hb10.cells ?_;refine hk S' w10 hA10 ⟨hm.1,hm.2.1,(hm.2.2.chg hc10 λk hk e=>by have:=(hm.2.2.lt k hk).1;omega).base (by omega)⟩ (λk hk hS=>by have h1:=(hm.2.2.lt k hk).1;have h2:=(hA6.lt k hS).2;omega) hgrow ((hC6.trans (Chg.of_ext (S:=S) hB9) λk _ hk=>hk).trans hc10 λk hk e=>by omega)
  have keepA:∀{w9 w10},Uc w6 w9->Chg (λk=>k=w.heap.size) w9 w10->LdA w10 B g gd C { E with b:=[] } S':=λhB9 hc10=>(hA6.ext hB9).chg hc10 λk hk=>hwS' k hk;refine cO (λe2=>?_) λe2=>?_
  ·have e2:E.err≠0:=λh=>by rw [h] at e2;cases e2
   rw [if_pos e2] at hK;have hBd:=bdw w6;refine lI (x:=(E.err:Int)) ((hb6.ext hBd).cells 27 _ rfl) ?_;refine x5 (h16.ext hBd) rfl λw7 hb7 hc7 hs7=>?_;have hA7:=keepA hBd hc7;obtain ⟨p7,hb7',_⟩:=hA7.ex;refine ⟨hb7'.cells 27 _ rfl,qx (r:=qa.rep) (x:=⟨0,0,⟨none,0,0⟩⟩) hb7.cells ?_⟩;exact hK _ S' w7 hA7 (qpc.zero _ _ _) (λk hk=>by cases hk) hgrow ((hC6.trans (Chg.of_ext (S:=S) hBd) λk _ hk=>hk).trans hc7 λk hk e=>by omega)
  have e2:E.err=0:=by
   rcases Nat.eq_zero_or_pos E.err with h | h
   ·exact h
   ·rw [qu8 (by omega)] at e2;cases e2
  rw [if_neg (by omega)] at hK;refine jpO λJ2 hJ2=>?_;have img:∀(b:Slc) (bs:List UInt8) w8,Go.Vc.Own qm w8 w4.heap.size b bs->bs.length<=1000000->Uc w6 w8->(∀m S' w',LdA w' B g gd C { E with b:=[] } S'->qpc w' w.heap.size m (qrh C bs)->(∀k,m.P.blk=some k->¬S' k)->(∀k,S' k->S k\/w.heap.size<=k)->Chg S w w'->K m (((qrh C bs).1:Nat):Int) w')->J2 (b,()) w8:=by
   intro b bs w8 hbo hbl hB8 hk;refine hJ2 _ _ ?_;refine q25 (hb6.ext hB8) hC hbo.rd (λk hk=>(hbo.lt k hk).2) hbl λm w9 hm hB9=>?_;have hB69:=bT hB8 hB9;have:=told m (qrh C bs).1 (qrh C bs) w9 ⟨hm.1,hm.2.1,hm.2.2.base hB8.size⟩ hB69 (λS' w'=>hk m S' w');refine x5 (h16.ext hB69) rfl λw10 hb10 hc10 hs10=>?_;refine qx (r:=qa.rep) (x:=m) hb10.cells ?_;have hm':=hm.2.2.base (base':=w6.heap.size) hB8.size;exact hk m S' w10 (keepA hB69 hc10) ⟨hm.1,hm.2.1,(hm'.chg hc10 λk hk e=>by have:=(hm'.lt k hk).1;omega).base (by omega)⟩ (λk hk hS=>by have h1:=(hm'.lt k hk).1;have h2:=(hA6.lt k hS).2;omega) hgrow ((hC6.trans (Chg.of_ext (S:=S) hB69) λk _ hk=>hk).trans hc10 λk hk e=>by omega)
  refine lI (x:=C.k.Zip) (hb6.cells 3 _ rfl) (cO (λez=>absurd (eq_of_beq ez) hC.raw.2) λez=>?_);exact img o E.b w6 ho6 (by omega) (Below.refl _ _) hK
 refine lI (x:=(s.err:Int)) (hb3.cells 27 _ rfl) (cO (λe2=>?_) λe2=>?_)
 ·have e2:s.err=0:=by have:=eq_of_beq e2;omega
  have hee:qna C s0=qsj C s0 (qaa s0.d):=by unfold qna;rw [if_neg (by omega)]
  refine qK (x:=some ⟨gd,0,none⟩) (hb3.cells 0 _ rfl) ?_;refine q95 hA3.d hA3.ok λt w4 ht htb hd hc=>?_;have hbl:=quf s0.d hA3.ok;refine qx4 hA3 (by omega) ht htb hd (q8p s0.d) hc (by rw [hs0b];omega) (K:=λw5=>J1 () w5) λS' w5 h5 hS' hc5=>?_;rw [<-hee] at h5;exact main S' w5 h5 hS' hc5
 ·have e2:s.err≠0:=λh=>by rw [h] at e2;cases e2
  have hee:qna C s0=s0:=by unfold qna;rw [if_pos (by omega)]
  refine main S w3 (by rw [hee];exact hA3) (λk hk=>.inl hk) (Chg.refl _ _)
end
structure KE where
 quota:Int
 S:St
 T:List Pl
 ld:Option (LdK×LdS)
 first:qb
structure KF where
 sg:Nat
 sr:Nat
 tg:Nat
 q:Slc
 lg:Nat
 gd:Nat
 LS:Nat->Prop
def qp3 (F:KF) (E:KE):List Value:=.int .i64 E.quota::.pointer (some ⟨F.sg,0,none⟩)::.pointer (some ⟨F.tg,0,none⟩)::.pointer (if E.ld.isSome then some ⟨F.lg,0,none⟩ else none)::qb.rep.cells E.first
def vX (S:St) (k:Nat):Prop:=∃p∈S.L,p.2.v.m.P.blk=some k
structure EngM (w:World) (base g:Nat) (F:KF) (E:KE) (n:Nat):Prop where
 blk:Blk w g zH (qp3 F E)
 hg:base<=g
 st:StM w base F.sg F.sr E.S
 ok:StOk n E.S
 hs:base<=F.sg/\base<=F.sr
 tb:PlTM w base F.tg F.q E.T
 tl:E.T.length<=n
 lo:∀C s,E.ld=some (C,s)->LdA w base F.lg F.gd C s F.LS/\CfgOk C
 nl:E.ld=none->∀k,¬F.LS k
 dg:¬F.LS g
 ds:¬F.LS F.sg/\¬F.LS F.sr
 dt:∀k,plS F.tg F.q k->¬F.LS k
 di:∀k,vX E.S k->¬F.LS k
def kw (g:Nat) (F:KF) (k:Nat):Prop:=k=g\/onS F.sg F.sr k\/plS F.tg F.q k\/F.LS k
structure EngT (base g:Nat) (w:World) (F F':KF) (E':KE) (n':Nat) (w':World):Prop where
 m:EngM w' base g F' E' n'
 old:∀k,kw g F' k->kw g F k\/w.heap.size<=k
 chg:Chg (kw g F) w w'
 ls:∀k,F'.LS k->F.LS k\/w.heap.size<=k
def qdw (T:List Pl) (ids:List Int):List Pl:=ids.foldl (λT i=>T.filter λp=>!(p.Image==i)) T
def jT (E:KE):Nat:=match E.ld with
 | some (_,s)=>s.b.length
 | none=>0
def q45 (x:Int):List UInt8:=if x=0 then [79,75] else if x=6 then [69,78,79,83,80,67] else if x=7 then [69,78,79,69,78,84] else [69,73,78,86,65,76]
def qvi (k:qb) (x:Int) (word:List UInt8):List UInt8:=qne (toL k) (if word=[] then q45 x else word)
namespace KE
def reserve (E:KE) (n:Int):KE×Int :=
 if n<0 then (E,1) else if n>E.quota then (E,6)
 else ({ E with S:=(E.S.reserve (wi (n+jT E))).1,T:=qdw E.T (E.S.reserve (wi (n+jT E))).2.1 },(E.S.reserve (wi (n+jT E))).2.2)
def idle (E:KE):KE:={ E with ld:=none,S:={ E.S with res:=0 } }
end KE
section
variable {w w':World} {base g n:Nat} {F F':KF} {E E':KE}
theorem EngM.below (h:EngM w base g F E n):∀k,kw g F k->base<=k/\k<w.heap.size:=by
 rintro k (rfl | (rfl | rfl) | hk | hk)
 ·exact ⟨h.hg,h.blk.lt⟩
 ·exact ⟨h.hs.1,h.st.blk.lt⟩
 ·exact ⟨h.hs.2,h.st.map.lt⟩
 ·exact h.tb.lt k hk
 ·cases hl:E.ld with
  | none=>exact absurd hk (h.nl hl k)
  | some x=>exact (h.lo x.1 x.2 hl).1.lt k hk
theorem EngT.refl (h:EngM w base g F E n):EngT base g w F F E n w:=⟨h,λk hk=>.inl hk,Chg.refl _ _,λk hk=>.inl hk⟩
theorem EngT.trans {w1 w2:World} {F1 F2:KF} {E1 E2:KE} {n1 n2:Nat} (h:EngT base g w F F1 E1 n1 w1) (h2:EngT base g w1 F1 F2 E2 n2 w2):EngT base g w F F2 E2 n2 w2:=by
 have hs:=h.chg.size;refine ⟨h2.m,λk hk=>?_,h.chg.trans h2.chg λk hk hS=>?_,λk hk=>?_⟩
 ·rcases h2.old k hk with h3 | h3
  ·exact h.old k h3
  ·right;omega
 ·rcases h.old k hS with h3 | h3
  ·exact h3
  ·omega
 ·rcases h2.ls k hk with h3 | h3
  ·exact h.ls k h3
  ·right;omega
theorem EngM.ext (h:EngM w base g F E n) (hB:Uc w w'):EngM w' base g F E n :=
 ⟨h.blk.ext hB,h.hg,h.st.ext hB,h.ok,h.hs,h.tb.ext hB,h.tl,λC s hl=>⟨(h.lo C s hl).1.ext hB,(h.lo C s hl).2⟩,h.nl,h.dg,h.ds,h.dt,h.di⟩
theorem EngT.ext {w1 w2:World} {F1:KF} {E1:KE} {n1:Nat} (h:EngT base g w F F1 E1 n1 w1) (hB:Uc w1 w2):EngT base g w F F1 E1 n1 w2 :=
 ⟨h.m.ext hB,h.old,h.chg.trans (Chg.of_ext (S:=kw g F) hB) λk _ hS=>hS,h.ls⟩
theorem EngT.of_ext (h:EngM w base g F E n) (hB:Uc w w'):EngT base g w F F E n w':=(EngT.refl h).ext hB
theorem EngM.drew (h:EngM w base g F E n):EngM w.drew base g F E n:=h.ext (kB w)
theorem EngM.mono (h:EngM w base g F E n) {m:Nat} (hm:n<=m) (hok:StOk m E.S):EngM w base g F E m:=⟨h.blk,h.hg,h.st,hok,h.hs,h.tb,le_trans h.tl hm,h.lo,h.nl,h.dg,h.ds,h.dt,h.di⟩
theorem EngM.g_tg (h:EngM w base g F E n):g≠F.tg:=h.blk.ne_t h.tb.blk (by decide)
theorem EngM.g_q (h:EngM w base g F E n):∀k,F.q.blk=some k->k≠g:=qF h.tb.own h.blk (by decide)
theorem EngM.g_sg (h:EngM w base g F E n):g≠F.sg:=h.blk.ne_t h.st.blk (by decide)
theorem EngM.g_sr (h:EngM w base g F E n):g≠F.sr:=λe=>h.st.map.ne_blk h.blk e.symm
theorem EngM.tg_sg (h:EngM w base g F E n):F.tg≠F.sg:=h.tb.blk.ne_t h.st.blk (by decide)
theorem EngM.tg_sr (h:EngM w base g F E n):F.tg≠F.sr:=λe=>h.st.map.ne_blk h.tb.blk e.symm
theorem EngM.q_sg (h:EngM w base g F E n):∀k,F.q.blk=some k->k≠F.sg:=qF h.tb.own h.st.blk (by decide)
theorem EngM.q_sr (h:EngM w base g F E n):∀k,F.q.blk=some k->k≠F.sr:=λk hk e=>by
 obtain ⟨cs,hcs⟩:=h.tb.own.blk_t hk;exact h.st.map.ne_blk hcs e.symm
theorem EngM.img_tg (h:EngM w base g F E n) {p:Int×Im} (hp:p∈E.S.L) {k:Nat} (hk:p.2.v.m.P.blk=some k):k≠F.tg:=(h.st.img p hp).ne_b h.tb.blk (by decide) k hk
theorem EngM.img_g (h:EngM w base g F E n) {p:Int×Im} (hp:p∈E.S.L) {k:Nat} (hk:p.2.v.m.P.blk=some k):k≠g:=(h.st.img p hp).ne_b h.blk (by decide) k hk
theorem EngT.tab (h:EngM w base g F E n) {q':Slc} {T':List Pl} (ht:PlTM w' base F.tg q' T') (hq:∀k,q'.blk=some k->w.heap.size<=k) (hc:Chg (λk=>k=F.tg) w w') (hl:T'.length<=n) :
  EngT base g w F { F with q:=q' } { E with T:=T' } n w':=by
 have key:∀k,kw g { F with q:=q' } k->kw g F k\/w.heap.size<=k:=by
  rintro k (hk | hk | (hk | hk) | hk)
  ·exact .inl (.inl hk)
  ·exact .inl (.inr (.inl hk))
  ·exact .inl (.inr (.inr (.inl (.inl hk))))
  ·exact .inr (hq k hk)
  ·exact .inl (.inr (.inr (.inr hk)))
 refine ⟨⟨h.blk.chg hc h.g_tg,h.hg,h.st.keep hc (λe=>h.tg_sg e.symm) (λe=>h.tg_sr e.symm) λp hp k hk e=>h.img_tg hp hk e,h.ok,h.hs,ht,hl,
  λC s hld=>⟨(h.lo C s hld).1.chg hc λk hk e=>h.dt k (.inl e) hk,(h.lo C s hld).2⟩,h.nl,h.dg,h.ds,?_,h.di⟩,key,hc.mono λk _ e=>.inr (.inr (.inl (.inl e))),λk hk=>.inl hk⟩
 rintro k (hk | hk) hLS
 ·exact h.dt k (.inl hk) hLS
 ·have h1:=hq k hk;have h2:=(h.below k (.inr (.inr (.inr hLS)))).2;omega
theorem EngT.store (h:EngM w base g F E n) {S':St} {m:Nat} (hst:StM w' base F.sg F.sr S') (hok:StOk m S') (hnm:n<=m) (hc:Chg (onS F.sg F.sr) w w') (hi:∀k,vX S' k->vX E.S k\/w.heap.size<=k) :
  EngT base g w F F { E with S:=S' } m w':=by
 refine ⟨⟨h.blk.chg hc ?_,h.hg,hst,hok,h.hs,h.tb.chg hc ?_,le_trans h.tl hnm,λC s hld=>⟨(h.lo C s hld).1.chg hc ?_,(h.lo C s hld).2⟩,h.nl,h.dg,h.ds,h.dt,?_⟩,λk hk=>.inl hk,hc.mono λk _ hk=>.inr (.inl hk),λk hk=>.inl hk⟩
 ·rintro (e | e)
  ·exact h.g_sg e
  ·exact h.g_sr e
 ·rintro k (hk | hk) (e | e)
  ·exact h.tg_sg (hk.symm.trans e)
  ·exact h.tg_sr (hk.symm.trans e)
  ·exact h.q_sg k hk e
  ·exact h.q_sr k hk e
 ·rintro k hk (e | e)
  ·exact h.ds.1 (e ▸ hk)
  ·exact h.ds.2 (e ▸ hk)
 ·intro k hk hLS;rcases hi k hk with h1 | h1
  ·exact h.di k h1 hLS
  ·have:=(h.below k (.inr (.inr (.inr hLS)))).2;omega
theorem EngM.other (h:EngM w base g F E n) {b:Nat} {t:TypeId} {vs:List Value} (hb:Blk w b t vs) (ht:t≠zH/\t≠zD/\t≠jm/\t≠qA/\t≠qN) (hLS:¬F.LS b) (hc:Chg (λk=>k=b) w w'):EngM w' base g F E n:=by
 obtain ⟨t1,t2,t3,t4,t5⟩:=ht;refine ⟨h.blk.chg hc λe=>hb.ne_t h.blk t1 e.symm,h.hg,h.st.keep hc (λe=>hb.ne_t h.st.blk t2 e.symm) (λe=>h.st.map.ne_blk hb e) (λp hp k hk e=>(h.st.img p hp).ne_b hb (λe=>t5 e.symm) k hk e),h.ok,h.hs,h.tb.chg hc ?_,h.tl,
  λC s hl=>⟨(h.lo C s hl).1.chg hc λk hk e=>hLS (e ▸ hk),(h.lo C s hl).2⟩,h.nl,h.dg,h.ds,h.dt,h.di⟩
 rintro k (hk | hk) e
 ·exact hb.ne_t h.tb.blk t3 (e.symm.trans hk)
 ·exact qF h.tb.own hb (λe=>t4 e.symm) k hk e
theorem EngT.other {F1:KF} {E1:KE} {n1:Nat} {w1 w2:World} (h:EngT base g w F F1 E1 n1 w1) {b:Nat} {t:TypeId} {vs:List Value} (hb:Blk w1 b t vs) (ht:t≠zH/\t≠zD/\t≠jm/\t≠qA/\t≠qN) (hLS:¬F1.LS b) (hw:w.heap.size<=b) (hc:Chg (λk=>k=b) w1 w2) :
  EngT base g w F F1 E1 n1 w2:=⟨h.m.other hb ht hLS hc,h.old,h.chg.trans hc λk hk e=>by omega,h.ls⟩
theorem Qj (hT:Tab w) {k:qb} (hw:VX (toL k)) (x:Int) (word:List UInt8) (hwl:word.length<=100000) {e:Option Addr} {K:qc->Ub}
  (hK:∀q w',Rd qm w' q (qvi k x word)->Uc w w'->(∀j,q.blk=some j->w.heap.size<=j)->K ⟨q,0,0,false⟩ w'):zy e k x (qS word) w K:=by
 refine qfu _ _ _ _ ?_;refine nwb λw1 hk1 hB1 hs1=>nwb λw2 hr2 hB2 hs2=>?_;have B2:=zq hB1 hB2;have hk2:=hk1.ext hB2;refine jpO λJ hJ=>?_;have key:∀wd:List UInt8,wd=(if word=[] then q45 x else word)->J (qS wd,()) w2:=by
  intro wd hwd;refine hJ _ _ ?_;refine qx (r:=qb.rep) (x:=k) hk2.cells ?_;have hwdl:wd.length<=100000:=by
   rw [hwd];split
   ·unfold q45
    repeat' split
    all_goals (simp)
   ·exact hwl
  refine q48 (hT.ext B2) hw wd hwdl λq w3 hq hB3 hqb=>?_;have hr3:=hr2.ext hB3;have B3:=zq B2 hB3;have rl:=hr3.lt;refine qw (us:=[.slice q.a q.n q.c,.int .i64 0,.int .i64 0,.bool false]) hr3 (by simp) λw4 hr4 hg4 hs4=>?_;have hc4:Chg (λi=>i=w1.heap.size) w3 w4:=Chg.of_grown hg4 λk hk=>by cases hk;rfl
  have B4:Uc w w4:=B3.trans (hc4.below (by have:=B3.size;omega) λi hi e=>by have:=hB1.size;omega);refine qx (r:=qc.rep) (x:=⟨q,0,0,false⟩) hr4.cells ?_;refine hK q w4 ?_ B4 (λj hj=>le_trans B2.size (hqb j hj));have hq4:Rd qm w4 q (qne (toL k) wd):=hq.chg hc4 λa ha e=>by
   have:=hqb a.block (slk.2 ⟨a,ha,rfl⟩);have:=hr2.lt;omega
  unfold qvi;rw [<-hwd];exact hq4
 refine cO (λhw0=>?_) λhw0=>?_
 ·have hw0:=eq_of_beq hw0;rw [Ky] at hw0;have hw0:word=[]:=by rw [hw0,ByteArray.toList_eq]
  refine qt5 _ ?_;have kk:∀wd:List UInt8,wd=q45 x->J (qS wd,()) w2:=λwd h=>key wd (by rw [if_pos hw0,h]);unfold q45 at kk;refine cO (λe=>kk _ (by rw [if_pos (eq_of_beq e)])) λe=>?_;have n0:=beq_eq_false_iff_ne.1 e;refine cO (λe=>kk _ (by rw [if_neg n0,if_pos (eq_of_beq e)])) λe=>?_;have n6:=beq_eq_false_iff_ne.1 e;refine cO (λe=>kk _ (by rw [if_neg n0,if_neg n6,if_pos (eq_of_beq e)])) λe=>?_;exact kk _ (by rw [if_neg n0,if_neg n6,if_neg (beq_eq_false_iff_ne.1 e)])
 ·have hw0:=beq_eq_false_iff_ne.1 hw0;rw [Ky] at hw0;exact key word (by rw [if_neg (λh=>hw0 (by rw [h,ByteArray.toList_eq]))])
theorem q1e (h:EngM w base g F E n) {K:Int->Ub} (hK:K (jT E:Int) w):Qw (some ⟨g,0,none⟩) w K:=by
 refine qe6 _ ?_;simp only [onPtr_some];unfold jT at hK;cases hl:E.ld with
 | none =>
  rw [hl] at hK;refine qK (x:=none) (by have:=h.blk.cells 3 _ rfl;rw [hl] at this;exact this) (cT rfl hK)
 | some x =>
  obtain ⟨C,s⟩:=x;rw [hl] at hK;have hc:w.cell? ((⟨g,0,none⟩:Addr).add 3)=some (.pointer (some ⟨F.lg,0,none⟩)):=by have:=h.blk.cells 3 _ rfl;rw [hl] at this;exact this
  refine qK (x:=some ⟨F.lg,0,none⟩) hc (cF rfl (qK (x:=some ⟨F.lg,0,none⟩) hc ?_));exact q47 (h.lo C s hl).1 hK
theorem qw2 (h:EngM w base g F E n) (hn:n<=100000) {ids:Slc} {L:List Int} (hr:Rd zw w ids L) (hne:∀a,ids.a=some a->a.block≠F.tg) {K:Ub}
  (hK:∀q' w',EngT base g w F { F with q:=q' } { E with T:=qdw E.T L } n w'->K w'):kU (some ⟨g,0,none⟩) ids w K:=by
 refine qf4 _ _ ?_;have hl:ids.n=L.length:=hr.n;have hlm:L.length<=9223372036854775807:=by rw [<-hl];exact le_trans hr.nc hr.cm
 refine lpR (λ(st:Int×Unit) w1=>∃(k:Nat) (q1:Slc),st.1=(k:Int)/\k<=L.length/\EngT base g w F { F with q:=q1 } { E with T:=qdw E.T (L.take k) } n w1/\Rd zw w1 ids L) (λst=>L.length-st.1.toNat)
  ⟨0,F.q,rfl,zero_le _,EngT.refl h,hr⟩ ?_
 rintro ⟨i,u⟩ w1 ⟨k,q1,hi,hk,h1,hr1⟩ I hI;dsimp only at hi ⊢;subst hi;refine cO (λe=>?_) λe=>?_
 ·have e:=oTq e;have hlt:k<L.length:=by omega
  obtain ⟨x,hx⟩:∃x,L[k]?=some x:=⟨_,List.getElem?_eq_getElem hlt⟩;refine hr1.ix (E:=zw) (i:=(k:Int)) rfl (by omega) (by omega) λhc=>?_;have e1:L[(k:Int).toNat]'(by omega)=x:=(List.getElem?_eq_some_iff.1 (by simpa using hx)).2;rw [e1] at hc;refine lI (x:=x) (by simpa using hc 0 _ rfl) ?_;simp only [onPtr_some];refine qK (x:=some ⟨F.tg,0,none⟩) (h1.m.blk.cells 2 _ rfl) ?_;refine q15 h1.m.tb (le_trans h1.m.tl hn) (le_trans h1.m.hg (Nat.le_of_lt h1.m.blk.lt)) x λm q2 w2 ht hq hc2=>?_;have h2:=EngT.tab h1.m ht hq hc2 (le_trans (List.length_filter_le _ _) h1.m.tl);rw [qP (x:=(k:Int)+1) (by omega)];refine hI _ _ ⟨k+1,q2,by simp,by omega,?_,hr1.chg hc2 λa ha=>hne a ha⟩ (by dsimp only;omega);have e2:qdw E.T (L.take (k+1))=(qdw E.T (L.take k)).filter λp=>!(p.Image==x):=by
   unfold qdw;rw [take_add_one,hx,Option.toList_some,List.foldl_append];rfl
  rw [e2];exact h1.trans h2
 ·have e:=oFq e;have hkl:k=L.length:=by omega
  rw [hkl,take_length] at h1;exact hK q1 w1 h1
end
theorem qp4 (n:Int):∀(f:Nat) (S:St) (G:List Int),∀p∈(S.roomF n f G).1.L,p∈S.L
 | 0,S,G,p,hp=>hp
 | f+1,S,G,p,hp=>by
  unfold St.roomF at hp;split at hp
  ·have:=qp4 n f _ _ p hp;exact ((Zb _ _ _).1 this).2
  ·exact hp
theorem qr4 (S:St) (n:Int):∀p∈(S.reserve n).1.L,p∈S.L:=by
 intro p hp;unfold St.reserve at hp;split at hp
 ·exact hp
 ·split at hp
  ·exact hp
  ·exact qp4 n _ ({ S with res:=n }:St) _ p hp
section
variable {w w':World} {base g n:Nat} {F F':KF} {E E':KE}
theorem qu9 (h:EngM w base g F E n) (hn:n<=1000) (m:Int) {K:Int->Ub} (hK:∀F' w',EngT base g w F F' (E.reserve m).1 n w'->F'.lg=F.lg->F'.gd=F.gd->F'.LS=F.LS->K (E.reserve m).2 w'):vw (some ⟨g,0,none⟩) m w K:=by
 refine qat _ _ ?_;simp only [onPtr_some];unfold KE.reserve at hK;refine cO (λe=>?_) λe=>?_
 ·rw [if_pos (oTq e)] at hK;exact hK F w (EngT.refl h) rfl rfl rfl
 rw [if_neg (oFq e)] at hK;refine lI (x:=E.quota) (h.blk.cells 0 _ rfl) (cO (λe=>?_) λe=>?_)
 ·rw [if_pos (oTq e)] at hK;exact hK F w (EngT.refl h) rfl rfl rfl
 rw [if_neg (oFq e)] at hK;have hd:=h.drew;refine qK (x:=some ⟨F.sg,0,none⟩) (hd.blk.cells 1 _ rfl) (q1e hd ⟨hd.blk.cells 1 _ rfl,?_⟩);refine qzi hd.st h.ok hn λq w2 hst ho hc=>?_;have h2:=EngT.store hd hst (qua h.ok _) (le_refl n) hc (λk hk=>by
  obtain ⟨p,hp,hb⟩:=hk;exact .inl ⟨p,qr4 _ _ p hp,hb⟩)
 refine qw2 h2.m (by omega) ho.rd (λa ha=>?_) λq' w3 h3=>?_
 ·have h1:=(ho.lt a.block (slk.2 ⟨a,ha,rfl⟩)).1;have h4:=h.tb.blk.lt;have e1:w.drew.heap.size=w.heap.size:=rfl;show a.block≠F.tg;omega
 ·exact hK _ w3 ((EngT.of_ext h (kB w)).trans (h2.trans h3)) rfl rfl rfl
theorem qxw (h:EngM w base g F E n) {K:Ub} (hK:∀F' w',EngT base g w F F' E.idle n w'->F'.q=F.q->F'.tg=F.tg->K w'):x7 (some ⟨g,0,none⟩) w K:=by
 refine qe1 _ ?_;simp only [onPtr_some];show stK ⟨g,3,none⟩ _ _ _;refine qw h.blk (by show (3+1:Nat)<=26;omega) λw1 hb1 hg1 hs1=>?_;have hc1:Chg (λi=>i=g) w w1:=Chg.of_grown hg1 λk hk=>by cases hk;rfl
 let F1:KF:={ F with LS:=λ_=>False }
 let E1:KE:={ E with ld:=none }
 have hb1:Blk w1 g zH (qp3 F1 E1):=hb1;have h1:EngT base g w F F1 E1 n w1:=by
  refine ⟨⟨hb1,h.hg,h.st.keep hc1 (λe=>h.g_sg e.symm) (λe=>h.g_sr e.symm) (λp hp k hk e=>h.img_g hp hk e),h.ok,h.hs,h.tb.chg hc1 ?_,h.tl,(λC s hl=>by cases hl),(λ_ k hk=>hk),(λhk=>hk),⟨λhk=>hk,λhk=>hk⟩,(λk _ hk=>hk),(λk _ hk=>hk)⟩,?_,hc1.mono λk _ e=>.inl e,λk hk=>hk.elim⟩
  ·rintro k (hk | hk) e
   ·exact h.g_tg (e.symm.trans hk)
   ·exact h.g_q k hk e
  ·rintro k (hk | hk | hk | hk)
   ·exact .inl (.inl hk)
   ·exact .inl (.inr (.inl hk))
   ·exact .inl (.inr (.inr (.inl hk)))
   ·exact hk.elim
 refine qK (x:=some ⟨F.sg,0,none⟩) (h1.m.blk.cells 1 _ rfl) ?_;refine qpo h1.m.st λw2 hst hc2 hs2=>?_;have h2:=EngT.store h1.m hst (Vm h.ok 0) (le_refl n) hc2 λk hk=>.inl hk;exact hK F1 w2 (h1.trans h2) rfl rfl
end
def zgx (n more size:Int):Int:=wi ((wi (wi (wi (n+more)+size)-1)).tdiv size)
def ze6 (W H dx dy cw ch:Int):Int×Int :=
 if btw W 1 16384=false then (0,0) else if btw H 1 16384=false then (0,0) else if btw dx 0 64=false then (0,0) else if btw dy 0 64=false then (0,0) else if btw cw 1 64=false then (0,0) else if btw ch 1 64=false then (0,0)
 else (zgx H dy ch,zgx W dx cw)
def ql2 (at_ n side:Int):Int:=if n<1 then wi (side-at_) else if wi (side-at_)<n then wi (side-at_) else n
def pl0:Pl:=⟨0,0,false,0,0,0,0,0,0,0,0,0,0,0⟩
def qlo (S:St) (id:Int):qa:=(((zp S.L id).map Im.v).getD qup).m
def q8a (m:qa) (k:qb) (v:qh):Bool:=decide (k.X<0) || (decide (k.Y<0) || (decide (k.X>=m.W) || (decide (k.Y>=m.H) || (decide (k.DX>=v.CellW) || decide (k.DY>=v.CellH)))))
def rcK (m:qa) (k:qb) (v:qh):Int×Int:=ze6 (ql2 k.X k.PW m.W) (ql2 k.Y k.PH m.H) k.DX k.DY v.CellW v.CellH
def qum (m:qa) (k:qb) (v:qh):Int:=if k.Rows<1 then (rcK m k v).1 else k.Rows
def qww (m:qa) (k:qb) (v:qh):Int:=if k.Cols<1 then (rcK m k v).2 else k.Cols
def zfg (m:qa) (k:qb) (v:qh):Bool:=decide (qum m k v>1048576) || (decide (qww m k v>1048576) || (!btw v.CellW 1 64 || !btw v.CellH 1 64))
def zil (m:qa) (k:qb) (id:Int) (v:qh) (r c:Int):Pl:=⟨id,k.Place,v.View.Alt,wi (v.View.Top+v.View.Row),v.View.Col,r,c,k.X,k.Y,ql2 k.X k.PW m.W,ql2 k.Y k.PH m.H,k.DX,k.DY,k.Z⟩
def Zw (S:St) (k:qb) (id:Int) (v:qh):Pl×Int :=
 if q8a (qlo S id) k v then (pl0,1) else if zfg (qlo S id) k v then (pl0,1) else (zil (qlo S id) k id v (qum (qlo S id) k v) (qww (qlo S id) k v),0)
structure KR where
 reply:List UInt8
 rows:Int
 cols:Int
 moves:Bool
def kr0:KR:=⟨[],0,0,false⟩
def qib (w:World) (r:qc) (R:KR):Prop:=Rd qm w r.Reply R.reply/\r.Rows=R.rows/\r.Cols=R.cols/\r.Moves=R.moves
def ZQ (k:qb) (x:Int) (word:List UInt8):KR:=⟨qvi k x word,0,0,false⟩
section
variable {w w':World} {base g n:Nat} {F F':KF} {E E':KE}
theorem qib.ext {r:qc} {R:KR} (h:qib w r R) (hB:Uc w w'):qib w' r R:=⟨h.1.ext hB,h.2⟩
theorem qib.nil (w:World):qib w ⟨⟨none,0,0⟩,0,0,false⟩ kr0:=⟨Rd.nil _ _,rfl,rfl,rfl⟩
theorem xK {v lo hi:Int} {K:Bool->Ub} (hK:K (btw v lo hi) w):jz v lo hi w K:=by
 refine qm9 _ _ _ ?_;unfold btw at hK;refine cO (λe=>?_) λe=>?_
 ·rw [e,Bool.true_and] at hK;exact hK
 ·rw [e,Bool.false_and] at hK;exact hK
theorem qq4 {a b c:Int} (hc:c≠0) {K:Int->Ub} (hK:K (zgx a b c) w):XT a b c w K:=by
 refine qp7 _ _ _ ?_;exact ⟨hc,hK⟩
theorem q67 {W H dx dy cw ch:Int} {K:Int->Int->Ub} (hK:∀w',Uc w w'->K (ze6 W H dx dy cw ch).1 (ze6 W H dx dy cw ch).2 w'):qci W H dx dy cw ch w K:=by
 refine qp1 _ _ _ _ _ _ ?_;refine nwb λw1 hb hB1 hs1=>?_;have hK:=hK w1 hB1;unfold ze6 at hK;refine lpR (λ(st:Int×Unit) w2=>w2=w1/\(st.1=0\/st.1=1/\btw W 1 16384=true\/st.1=2/\btw W 1 16384=true/\btw H 1 16384=true)) (λst=>2-st.1.toNat) ⟨rfl,.inl rfl⟩ ?_;rintro ⟨i,u⟩ w2 ⟨rfl,hi⟩ I hI;dsimp only at hi ⊢;have neg:∀{b:Bool},(!b)=true->b=false:=by intro b;cases b<;>simp
 have pos:∀{b:Bool},(!b)=false->b=true:=by intro b;cases b<;>simp
 rcases hi with rfl | ⟨rfl,h1⟩ | ⟨rfl,h1,h2⟩
 ·refine cT rfl ⟨⟨by decide,by decide⟩,lI (x:=W) (hb.cells 0 _ rfl) (xK (cO (λe=>?_) λe=>?_))⟩
  ·rw [if_pos (neg e)] at hK;exact hK
  ·exact hI _ _ ⟨rfl,.inr (.inl ⟨rfl,pos e⟩)⟩ (by show 2-(i64.wrap (0+1)).toNat<2-(0:Int).toNat;decide)
 ·refine cT rfl ⟨⟨by decide,by decide⟩,lI (x:=H) (hb.cells 1 _ rfl) (xK (cO (λe=>?_) λe=>?_))⟩
  ·rw [if_neg (by rw [h1];decide),if_pos (neg e)] at hK;exact hK
  ·exact hI _ _ ⟨rfl,.inr (.inr ⟨rfl,h1,pos e⟩)⟩ (by show 2-(i64.wrap (1+1)).toNat<2-(1:Int).toNat;decide)
 ·rw [if_neg (by rw [h1];decide),if_neg (by rw [h2];decide)] at hK;refine cF rfl (jpO λJ hJ=>?_);refine xK (cO (λe=>?_) λe=>?_)
  ·rw [if_pos (neg e)] at hK;exact hK
  rw [if_neg (by rw [pos e];decide)] at hK;refine xK (cO (λe=>?_) λe=>?_)
  ·rw [if_pos (neg e)] at hK;exact hK
  rw [if_neg (by rw [pos e];decide)] at hK;refine xK (cO (λe=>?_) λe3=>?_)
  ·rw [if_pos (neg e)] at hK;exact hK
  rw [if_neg (by rw [pos e3];decide)] at hK;refine xK (cO (λe=>?_) λe4=>?_)
  ·rw [if_pos (neg e)] at hK;exact hK
  rw [if_neg (by rw [pos e4];decide)] at hK;have ch0:ch≠0:=by
   have:=pos e4;unfold btw at this;simp at this;omega
  have cw0:cw≠0:=by
   have:=pos e3;unfold btw at this;simp at this;omega
  exact hJ _ _ (qq4 ch0 (qq4 cw0 hK))
theorem qyk {a b c:Int} {K:Int->Ub} (hK:K (ql2 a b c) w):Yd a b c w K:=by
 refine qsn _ _ _ ?_;unfold ql2 at hK;refine cO (λe=>?_) λe=>?_
 ·rw [if_pos (oTq e)] at hK;exact hK
 ·rw [if_neg (oFq e)] at hK;exact hK
theorem qa7 {a b:Bool} {J:Bool->Prop} {X:Prop} (hJ:J (a || b)) (h:J b->X):cond a (J true) X:=by
 cases a
 ·exact h hJ
 ·exact hJ
theorem q5s (h:EngM w base g F E n) (k:qb) (id:Int) (v:qh) {K:Pl->Int->Ub} (hK:∀w',Uc w w'->K (Zw E.S k id v).1 (Zw E.S k id v).2 w'):yW (some ⟨g,0,none⟩) k id v w K:=by
 refine qec _ _ _ _ ?_;simp only [onPtr_some];refine nwb λw1 hk1 hB1 hs1=>nwb λw2 hv2 hB2 hs2=>nwb λw3 ht3 hB3 hs3=>?_;have ht3:Blk w3 w2.heap.size qA (qf.rep.cells pl0):=ht3;have B3:=vi hB1 hB2 hB3;have h3:=h.ext B3;unfold Zw at hK;refine qK (x:=some ⟨F.sg,0,none⟩) (h3.blk.cells 1 _ rfl) (qoa h3.st id λw4 hB4=>?_);have em:(((zp E.S.L id).map Im.v).getD qup).m=qlo E.S id:=rfl;rw [em];generalize qlo E.S id=m at *;refine ko (vs:=qa.rep.cells m) rfl λw6 hm6 hB6 hs6=>?_;have B6:=vi B3 hB4 hB6;have hk6:=(((hk1.ext hB2).ext hB3).ext hB4).ext hB6;have hv6:=((hv2.ext hB3).ext hB4).ext hB6;have ht6:=(ht3.ext hB4).ext hB6;have z1:=hB1.size;have z2:=hB2.size;have z3:=hB3.size;have z4:=hB4.size;have z6:=hB6.size;have lk:=hk6.lt;have lv:=hv6.lt;have lt_:=ht6.lt;have lm:=hm6.lt;refine jpO λJ1 hJ1=>jpO λJ5 hJ5=>?_;have j5:J5 (q8a m k v,()) w6:=by
  refine hJ5 _ _ ?_;cases hbad:q8a m k v
  ·rw [hbad] at hK;simp only [Bool.false_eq_true,if_false] at hK;refine cF rfl (hJ1 _ _ ?_);refine lI (x:=k.Place) (hk6.cells 10 _ rfl) ?_;refine xP (x:=v.View.Alt) (hv6.cells 0 _ rfl) (lI (x:=v.View.Top) (hv6.cells 1 _ rfl) (lI (x:=v.View.Row) (hv6.cells 4 _ rfl) (lI (x:=v.View.Col) (hv6.cells 5 _ rfl) ?_)));refine lI (x:=k.Rows) (hk6.cells 18 _ rfl) (lI (x:=k.Cols) (hk6.cells 19 _ rfl) (lI (x:=k.X) (hk6.cells 12 _ rfl) (lI (x:=k.Y) (hk6.cells 13 _ rfl) (lI (x:=k.DX) (hk6.cells 16 _ rfl) (lI (x:=k.DY) (hk6.cells 17 _ rfl) (lI (x:=k.Z) (hk6.cells 20 _ rfl) ?_))))))
   let P0:Pl:=⟨id,k.Place,v.View.Alt,wi (v.View.Top+v.View.Row),v.View.Col,k.Rows,k.Cols,k.X,k.Y,0,0,k.DX,k.DY,k.Z⟩
   refine ko (vs:=qf.rep.cells P0) rfl λw9 hp9 hB9 hs9=>?_;have hk9:=(hk6.ext hB9).drew;have hv9:=(hv6.ext hB9).drew;have ht9:=(ht6.ext hB9).drew;have hm9:=(hm6.ext hB9).drew;have B9:=(zq B6 hB9).drew;refine lI (x:=k.X) (hk9.cells 12 _ rfl) (lI (x:=k.PW) (hk9.cells 14 _ rfl) (lI (x:=m.W) (hm9.cells 0 _ rfl) ?_));refine lI (x:=k.Y) (hk9.cells 13 _ rfl) (lI (x:=k.PH) (hk9.cells 15 _ rfl) (lI (x:=m.H) (hm9.cells 1 _ rfl) ?_));refine qyk ⟨hm9.cells 1 _ rfl,hk9.cells 15 _ rfl,hk9.cells 13 _ rfl,qyk ?_⟩;show stK ⟨w6.heap.size,9,none⟩ _ _ _;refine qw hp9.drew (by show (9+1:Nat)<=14;omega) λw12 hp12 hg12 hs12=>?_;have hc12:Chg (λi=>i=w6.heap.size) w9.drew w12:=Chg.of_grown hg12 λk hk=>by cases hk;rfl
   let P1:Pl:={ P0 with W:=ql2 k.X k.PW m.W }
   have hp12:Blk w12 w6.heap.size qA (qf.rep.cells P1):=hp12;show stK ⟨w6.heap.size,10,none⟩ _ _ _;refine qw hp12 (by show (10+1:Nat)<=14;omega) λw13 hp13 hg13 hs13=>?_;have hc13:Chg (λi=>i=w6.heap.size) w12 w13:=Chg.of_grown hg13 λk hk=>by cases hk;rfl
   let P2:Pl:={ P1 with H:=ql2 k.Y k.PH m.H }
   have hp13:Blk w13 w6.heap.size qA (qf.rep.cells P2):=hp13;have hcc:Chg (λi=>i=w6.heap.size) w9.drew w13:=hc12.trans hc13 λi _ hi=>hi;have nlt:∀{j:Nat},j<w6.heap.size->¬j=w6.heap.size:=λh e=>by omega
   have hk13:=hk9.chg hcc (nlt lk);have hv13:=hv9.chg hcc (nlt lv);have ht13:=ht9.chg hcc (nlt lt_);have B13:Uc w w13:=B9.trans (hcc.below (by have:=hB9.size;show w.heap.size<=w9.heap.size;omega) λi hi e=>by omega);refine lI (x:=ql2 k.X k.PW m.W) (hp13.cells 9 _ rfl) (lI (x:=ql2 k.Y k.PH m.H) (hp13.cells 10 _ rfl) (lI (x:=k.DX) (hk13.cells 16 _ rfl) (lI (x:=k.DY) (hk13.cells 17 _ rfl) (lI (x:=v.CellW) (hv13.cells 6 _ rfl) (lI (x:=v.CellH) (hv13.cells 7 _ rfl) ?_)))));refine q67 λw14 hB14=>?_;have hp14:=hp13.ext hB14;have hv14:=hv13.ext hB14;have ht14:=ht13.ext hB14;have B14:=zq B13 hB14;have z13:w6.heap.size<w13.heap.size:=hp13.lt;refine jpO λJ2 hJ2=>?_;have k2:∀wx,Uc w wx->Blk wx w6.heap.size qA (qf.rep.cells { P2 with Rows:=qum m k v })->Blk wx w1.heap.size zP (qh.rep.cells v)->Blk wx w2.heap.size qA (qf.rep.cells pl0)->J2 (()) wx:=by
    intro w15 B15 hp15 hv15 ht15;refine hJ2 _ _ (jpO λJ3 hJ3=>?_);have k3:∀wx,Uc w wx->Blk wx w6.heap.size qA (qf.rep.cells { P2 with Rows:=qum m k v,Cols:=qww m k v })->Blk wx w1.heap.size zP (qh.rep.cells v)->Blk wx w2.heap.size qA (qf.rep.cells pl0)->J3 (()) wx:=by
     intro w16 B16 hp16 hv16 ht16;refine hJ3 _ _ (jpO λJ4 hJ4=>?_);have k4:J4 (zfg m k v,()) w16:=by
      refine hJ4 _ _ ?_;cases hfar:zfg m k v
      ·rw [hfar] at hK;simp only [Bool.false_eq_true,if_false] at hK;refine cF rfl (qx (r:=qf.rep) (x:={ P2 with Rows:=qum m k v,Cols:=qww m k v }) hp16.cells ?_);refine zM (r:=qf.rep) (x:={ P2 with Rows:=qum m k v,Cols:=qww m k v }) ht16 rfl rfl λw17 hc17 hs17=>?_;exact hK w17 (b1o B16 hc17 (by omega))
      ·rw [hfar] at hK;simp only [if_true] at hK;refine cT rfl ?_;refine zM (r:=qf.rep) (x:=pl0) ht16 rfl rfl λw17 hc17 hs17=>?_;exact hK w17 (b1o B16 hc17 (by omega))
     unfold zfg at k4;refine lI (x:=qum m k v) (hp16.cells 5 _ rfl) (qa7 (J:=λb=>J4 (b,()) w16) k4 λk4=>?_);refine lI (x:=qww m k v) (hp16.cells 6 _ rfl) (qa7 (J:=λb=>J4 (b,()) w16) k4 λk4=>?_);refine lI (x:=v.CellW) (hv16.cells 6 _ rfl) (xK (qa7 (J:=λb=>J4 (b,()) w16) k4 λk4=>?_));exact lI (x:=v.CellH) (hv16.cells 7 _ rfl) (xK k4)
    refine lI (x:=k.Cols) (hp15.cells 6 _ rfl) (cO (λe=>?_) λe=>?_)
    ·show stK ⟨w6.heap.size,6,none⟩ _ _ _;refine qw hp15 (by show (6+1:Nat)<=14;omega) λw16 hp16 hg16 hs16=>?_;have hc16:Chg (λi=>i=w6.heap.size) w15 w16:=Chg.of_grown hg16 λk hk=>by cases hk;rfl
     refine k3 w16 (B15.trans (hc16.below B15.size λi hi e=>by omega)) ?_ (hv15.chg hc16 (nlt lv)) (ht15.chg hc16 (nlt lt_));have ec:qww m k v=(rcK m k v).2:=by unfold qww;rw [if_pos (oTq e)]
     rw [ec];exact hp16
    ·have ec:qww m k v=k.Cols:=by unfold qww;rw [if_neg (oFq e)]
     refine k3 w15 B15 ?_ hv15 ht15;rw [ec];exact hp15
   refine lI (x:=k.Rows) (hp14.cells 5 _ rfl) (cO (λe=>?_) λe=>?_)
   ·show stK ⟨w6.heap.size,5,none⟩ _ _ _;refine qw hp14 (by show (5+1:Nat)<=14;omega) λw15 hp15 hg15 hs15=>?_;have hc15:Chg (λi=>i=w6.heap.size) w14 w15:=Chg.of_grown hg15 λk hk=>by cases hk;rfl
    refine k2 w15 (B14.trans (hc15.below B14.size λi hi e=>by omega)) ?_ (hv14.chg hc15 (nlt lv)) (ht14.chg hc15 (nlt lt_));have ec:qum m k v=(rcK m k v).1:=by unfold qum;rw [if_pos (oTq e)]
    rw [ec];exact hp15
   ·have ec:qum m k v=k.Rows:=by unfold qum;rw [if_neg (oFq e)]
    refine k2 w14 B14 ?_ hv14 ht14;rw [ec];exact hp14
  ·rw [hbad] at hK;simp only [if_true] at hK;refine cT rfl ?_;refine zM (r:=qf.rep) (x:=pl0) ht6 rfl rfl λw7 hc7 hs7=>?_;exact hK w7 (b1o B6 hc7 (by omega))
 unfold q8a at j5;refine lI (x:=k.X) (hk6.cells 12 _ rfl) (qa7 (J:=λb=>J5 (b,()) w6) j5 λj5=>?_);refine lI (x:=k.Y) (hk6.cells 13 _ rfl) (qa7 (J:=λb=>J5 (b,()) w6) j5 λj5=>?_);refine lI (x:=k.X) (hk6.cells 12 _ rfl) (lI (x:=m.W) (hm6.cells 0 _ rfl) (qa7 (J:=λb=>J5 (b,()) w6) j5 λj5=>?_));refine lI (x:=k.Y) (hk6.cells 13 _ rfl) (lI (x:=m.H) (hm6.cells 1 _ rfl) (qa7 (J:=λb=>J5 (b,()) w6) j5 λj5=>?_));refine lI (x:=k.DX) (hk6.cells 16 _ rfl) (lI (x:=v.CellW) (hv6.cells 6 _ rfl) (qa7 (J:=λb=>J5 (b,()) w6) j5 λj5=>?_));exact lI (x:=k.DY) (hk6.cells 17 _ rfl) (lI (x:=v.CellH) (hv6.cells 7 _ rfl) j5)
end
theorem StOk.mono {n m:Nat} {S:St} (h:StOk n S) (hm:n<=m):StOk m S :=
 ⟨h.q0,h.q1,h.used,h.fits,le_trans h.len hm,h.clk0,by have:=h.clk;omega,h.srt,λp hp=>⟨(h.keys p hp).1,by have:=(h.keys p hp).2;omega⟩,h.stamps,h.borns,h.st1,h.bo1⟩
def q0e (k:qb) (p:Pl):KR:=⟨qvi k 0 [],p.Rows,p.Cols,k.Stay !=1⟩
def zfk (E:KE) (p:Pl):KE:={ E with T:=(E.T.filter λo=>!qpm p o)++[p] }
def zZ (E:KE) (k:qb) (id:Int) (v:qh):KE×KR×Bool :=
 if (Zw E.S k id v).2=0 then
  (if qtk (Zw E.S k id v).1 then (zfk E (Zw E.S k id v).1,q0e k (Zw E.S k id v).1,true) else (E,ZQ k 1 [],false))
 else (E,ZQ k (Zw E.S k id v).2 [],false)
section
variable {w w':World} {base g n:Nat} {F F':KF} {E E':KE}
theorem Tab.below4 (h:Tab w) (hB:Below 4 w w'):Tab w':=var?_below (g:=3) hB (by kernel_rfl) (by decide) h
theorem EngT.belowB (h:EngM w base g F E n) {n':Nat} (hT:EngT base g w F F' E' n' w'):Below base w w':=hT.chg.below (le_trans h.hg (Nat.le_of_lt h.blk.lt)) λi hi hs=>by have:=(h.below i hs).1;omega
theorem Tab.stepK (hTab:Tab w) (h:EngM w base g F E n) (hb:4<=base) {n':Nat} (hT:EngT base g w F F' E' n' w'):Tab w':=hTab.below4 ((EngT.belowB h hT).mono hb)
theorem EngM.up (h:EngM w base g F E n) {m:Nat} (hm:n<=m):EngM w base g F E m:=h.mono hm (h.ok.mono hm)
theorem EngT.up {F1:KF} {E1:KE} {n1:Nat} (h:EngT base g w F F1 E1 n1 w') {m:Nat} (hm:n1<=m):EngT base g w F F1 E1 m w':=⟨h.m.up hm,h.old,h.chg,h.ls⟩
theorem qvd (h:EngM w base g F E n) (hn:n<=90000) (hT:Tab w) (h4:4<=base) {k:qb} (hw:VX (toL k)) (id:Int) (v:qh) {K:qc->Bool->Ub}
  (hK:∀r F' w',qib w' r (zZ E k id v).2.1->EngT base g w F F' (zZ E k id v).1 (n+1) w'->(∀j,r.Reply.blk=some j->w.heap.size<=j/\¬kw g F' j)->K r (zZ E k id v).2.2 w'):k6 (some ⟨g,0,none⟩) k id v w K:=by
 refine qd0 _ _ _ _ ?_;simp only [onPtr_some];refine nwb λw1 hk1 hB1 hs1=>nwb λw2 hv2 hB2 hs2=>nwb λw3 ht3 hB3 hs3=>?_;have hk3:=(hk1.ext hB2).ext hB3;have hv3:=hv2.ext hB3;have B3:=vi hB1 hB2 hB3;refine qx (r:=qb.rep) (x:=k) hk3.cells (qx (r:=qh.rep) (x:=v) hv3.cells ?_);refine q5s (h.ext B3) k id v λw4 hB4=>?_;unfold zZ at hK;generalize (Zw E.S k id v).1=p at *;generalize (Zw E.S k id v).2=x at *;refine ko (vs:=qf.rep.cells p) rfl λw6 hp6 hB6 hs6=>?_;have B6:=vi B3 hB4 hB6;have hk6:=(hk3.ext hB4).ext hB6;have ht6:=(ht3.ext hB4).ext hB6;have h6:EngT base g w F F E (n+1) w6:=(EngT.of_ext h B6).up (by omega);have z1:=hB1.size;have z2:=hB2.size;have z3:=hB3.size;have z4:=hB4.size;have z6:=hB6.size;have nLS:∀{b:Nat},w.heap.size<=b->¬F.LS b:=λhb hk=>by have:=(h.below _ (.inr (.inr (.inr hk)))).2;omega
 have tys:qz≠zH/\qz≠zD/\qz≠jm/\qz≠qA/\qz≠qN:=by decide
 have lt3:=ht3.lt;have lt6:=ht6.lt;have lk6:=hk6.lt;refine jpO λJ hJ=>?_;have bad:∀y:Int,y≠0->(∀r F' w',qib w' r (ZQ k y [])->EngT base g w F F' E (n+1) w'->(∀j,r.Reply.blk=some j->w.heap.size<=j/\¬kw g F' j)->K r false w')->J (y,()) w6:=by
  intro y hy hK;refine hJ _ _ (cT (by simpa using hy) (qx (r:=qb.rep) (x:=k) hk6.cells ?_));refine Qj (hT.ext B6) hw y [] (by simp) λq w8 hq hB8 hqb=>?_;have h8:=h6.ext hB8;have ht8:=ht6.ext hB8;refine zM (r:=qc.rep) (x:=⟨q,0,0,false⟩) ht8 rfl rfl λw9 hc9 hs9=>?_;exact hK _ F w9 ⟨hq.chg hc9 λa ha e=>by have:=hqb a.block (slk.2 ⟨a,ha,rfl⟩);omega,rfl,rfl,rfl⟩ (h8.other ht8 tys (nLS (by omega)) (by omega) hc9) (λj hj=>⟨by have:=hqb j hj;omega,λhs=>by have:=(h6.m.below _ hs).2;have:=hqb j hj;omega⟩)
 by_cases hx:x=0
 ·rw [if_pos hx] at hK;refine cT (by simpa using hx) (qK (x:=some ⟨F.tg,0,none⟩) (h6.m.drew.blk.cells 2 _ rfl) ?_);refine qx (r:=qf.rep) (x:=p) hp6.drew.cells ?_;have h6d:=h6.ext (kB w6);refine q6v h6d.m.tb (by have:=h.tl;omega) (le_trans h6d.m.hg (Nat.le_of_lt h6d.m.blk.lt)) p (λhm w7 hB7=>?_) λhm q' w7 ht' hq' hc7=>?_
  ·rw [if_neg (by rw [hm];decide)] at hK;have hB67:Uc w6 w7:=zq (kB w6) hB7;refine hJ _ _ (cT rfl (qx (r:=qb.rep) (x:=k) (hk6.ext hB67).cells ?_));refine Qj (hT.ext (zq B6 hB67)) hw 1 [] (by simp) λq w8 hq hB8 hqb=>?_;have h8:=(h6.ext hB67).ext hB8;have ht8:=(ht6.ext hB67).ext hB8;refine zM (r:=qc.rep) (x:=⟨q,0,0,false⟩) ht8 rfl rfl λw9 hc9 hs9=>?_;have z7:=hB67.size;exact hK _ F w9 ⟨hq.chg hc9 λa ha e=>by have:=hqb a.block (slk.2 ⟨a,ha,rfl⟩);omega,rfl,rfl,rfl⟩ (h8.other ht8 tys (nLS (by omega)) (by omega) hc9) (λj hj=>⟨by have:=hqb j hj;omega,λhs=>by have:=((h6.ext hB67).m.below _ hs).2;have:=hqb j hj;omega⟩)
  ·rw [if_pos hm] at hK;have hll:((E.T.filter λo=>!qpm p o)++[p]).length<=n+1:=by
    rw [length_append,length_singleton];have:=List.length_filter_le (λo=>!qpm p o) E.T;have:=h.tl;omega
   have h7:=h6d.trans (EngT.tab h6d.m ht' hq' hc7 hll);have hT7:=hT.stepK h h4 h7;have z7:=hc7.size;have e6:w6.drew.heap.size=w6.heap.size:=rfl;have tgl:F.tg<w.heap.size:=h.tb.blk.lt;have hk7:=hk6.drew.chg hc7 λe=>by omega
   have ht7:=ht6.drew.chg hc7 λe=>by omega
   have hp7:=hp6.drew.chg hc7 λe=>by omega
   refine hJ _ _ (cF rfl (qx (r:=qb.rep) (x:=k) hk7.cells ?_));refine Qj hT7 hw 0 [] (by simp) λq w10 hq hB10 hqb=>?_;refine ko (vs:=qc.rep.cells ⟨q,0,0,false⟩) rfl λw12 ho12 hB12 hs12=>?_;have B712:=zq hB10 hB12;have hk12:=(hk7.ext B712).drew;have hp12:=(hp7.ext B712).drew;have ht12:=(ht7.ext B712).drew;have h12:=(h7.ext B712).ext (kB w12);have hq12:=(hq.ext hB12).drew;refine lI (x:=p.Rows) (hp12.cells 5 _ rfl) (lI (x:=p.Cols) (hp12.cells 6 _ rfl) (lI (x:=k.Stay) (hk12.cells 21 _ rfl) ?_));have z10:=hB10.size;have z12:=hB12.size;have lk7:=hk7.lt;have lp7:=hp7.lt;have lt7:=ht7.lt;show stK ⟨w10.heap.size,1,none⟩ _ _ _;refine qw ho12.drew (by show (1+1:Nat)<=4;omega) λw13 ho13 hg13 hs13=>?_;have hc13:Chg (λi=>i=w10.heap.size) w12.drew w13:=Chg.of_grown hg13 λk hk=>by cases hk;rfl
   have ho13:Blk w13 w10.heap.size qz (qc.rep.cells ⟨q,p.Rows,0,false⟩):=ho13;have hk13:=hk12.chg hc13 λe=>by omega
   have hp13:=hp12.chg hc13 λe=>by omega
   have ht13:=ht12.chg hc13 λe=>by omega
   refine ⟨hk13.cells 21 _ rfl,hp13.cells 6 _ rfl,?_⟩;show stK ⟨w10.heap.size,2,none⟩ _ _ _;refine qw ho13 (by show (2+1:Nat)<=4;omega) λw14 ho14 hg14 hs14=>?_;have hc14:Chg (λi=>i=w10.heap.size) w13 w14:=Chg.of_grown hg14 λk hk=>by cases hk;rfl
   have ho14:Blk w14 w10.heap.size qz (qc.rep.cells ⟨q,p.Rows,p.Cols,false⟩):=ho14;refine ⟨(hk13.chg hc14 λe=>by omega).cells 21 _ rfl,?_⟩;show stK ⟨w10.heap.size,3,none⟩ _ _ _;refine qw ho14 (by show (3+1:Nat)<=4;omega) λw15 ho15 hg15 hs15=>?_;have hc15:Chg (λi=>i=w10.heap.size) w14 w15:=Chg.of_grown hg15 λk hk=>by cases hk;rfl
   have ho15:Blk w15 w10.heap.size qz (qc.rep.cells ⟨q,p.Rows,p.Cols,k.Stay !=1⟩):=ho15;have hcc:Chg (λi=>i=w10.heap.size) w12.drew w15:=(hc13.trans hc14 λi _ hi=>hi).trans hc15 λi _ hi=>hi;have ht15:=ht12.chg hcc λe=>by omega
   have h15:=h12.other ho12.drew tys (nLS (by omega)) (by omega) hcc;have hq15:Rd qm w15 q (qvi k 0 []):=qfw hq12 hcc λhp a ha e=>by
    have:=q0y hq hp a ha;omega
   refine qx (r:=qc.rep) (x:=⟨q,p.Rows,p.Cols,k.Stay !=1⟩) ho15.cells ?_;refine zM (r:=qc.rep) (x:=⟨q,p.Rows,p.Cols,k.Stay !=1⟩) ht15 rfl rfl λw16 hc16 hs16=>?_;exact hK _ _ w16 ⟨hq15.chg hc16 λa ha e=>by have:=hqb a.block (slk.2 ⟨a,ha,rfl⟩);omega,rfl,rfl,rfl⟩ (h15.other ht15 tys (nLS (by omega)) (by omega) hc16) (λj hj=>⟨by have:=hqb j hj;omega,λhs=>by have:=(h7.m.below _ hs).2;have:=hqb j hj;omega⟩)
 ·rw [if_neg hx] at hK;exact cF (by simpa using hx) (bad x hx hK)
end
theorem qx5 (n:Int):∀(f:Nat) (S:St) (G:List Int),(S.roomF n f G).2.length<=G.length+f
 | 0,S,G=>by show G.length<=_;omega
 | f+1,S,G=>by
  unfold St.roomF;split
  ·have:=qx5 n f (S.drop (eldest S.L)) (G++[eldest S.L]);rw [length_append,length_singleton] at this;omega
  ·show G.length<=_;omega
def qlj (S:St) (id:Int):St:=if id=0 then { S with res:=0 } else ({ S with res:=0 }:St).drop id
theorem zct (S:St) (id:Int):∀p∈(qlj S id).L,p∈S.L:=by
 intro p hp;unfold qlj at hp;split at hp
 ·exact hp
 ·exact ((Zb _ _ _).1 hp).2
theorem zci (S:St) (id:Int):(qlj S id).L.length<=S.L.length:=by
 unfold qlj;split
 ·exact le_refl _
 ·exact List.length_filter_le _ _
theorem qun (S:St) (id:Int) (n:Nat):∀p∈(S.putPre id n).1.L,p∈S.L:=λp hp=>zct S id p (qp4 _ _ _ _ p hp)
theorem q6c (S:St) (id:Int) (n:Nat):(S.putPre id n).2.length<=S.L.length:=by
 have h:=qx5 (n:Int) (qlj S id).L.length (qlj S id) [];have h2:=zci S id;show ((qlj S id).roomF n (qlj S id).L.length []).2.length<=_;simp only [length_nil] at h;omega
def idK (E:KE) (k:qb) (bs:List UInt8):Int:=Xr (E.S.putPre k.Id bs.length).1.L k.Id
def qhg (E:KE) (k:qb) (W H:Int) (bs:List UInt8) (P:Slc):KE :=
 { E with S:=(E.S.putPre k.Id bs.length).1.putAt (idK E k bs) k.Number W H P bs,T:=qdw E.T ((E.S.putPre k.Id bs.length).2++[idK E k bs]) }
def kK (E:KE) (k:qb) (bs:List UInt8):qb:=if k.Id=0/\k.Number≠0 then { k with Id:=idK E k bs } else k
def YH (E:KE) (k:qb) (W H:Int) (bs:List UInt8) (P:Slc) (v:qh):KE×KR :=
 if Vi E.S k.Id k.Number W H bs.length≠0 then (E,ZQ k (Vi E.S k.Id k.Number W H bs.length) [])
 else if k.Action≠84 then (qhg E k W H bs P,ZQ (kK E k bs) 0 [])
 else ((zZ (qhg E k W H bs P) (kK E k bs) (idK E k bs) v).1,(zZ (qhg E k W H bs P) (kK E k bs) (idK E k bs) v).2.1)
theorem q7w {k:qb} (hw:VX (toL k)) {id:Int} (h:-9223372036854775808<=id/\id<=9223372036854775807):VX (toL { k with Id:=id }):=by
 have e:toL { k with Id:=id }=(toL k).set 8 id:=rfl;intro i;rw [e,List.getElem?_set];by_cases hi:8=i
 ·rw [if_pos hi];rw [if_pos (by rw [qzx];omega)];exact h
 ·rw [if_neg hi];exact hw i
section
variable {w w':World} {base g n:Nat} {F F':KF} {E E':KE}
theorem q0d {S:St} (h:StOk n S) (id:Int):StOk n (qlj S id):=by
 unfold qlj;split
 ·exact Vm h 0
 ·exact qbp (Vm h 0) id
def qel (t:TypeId):Prop:=t≠zH/\t≠zD/\t≠jm/\t≠qA/\t≠qN
instance (t:TypeId):Decidable (qel t):=by unfold qel;infer_instance
theorem EngM.far (h:EngM w base g F E n) {T:Nat->Prop} (hc:Chg T w w') (hT:∀k,T k->(∃t vs,Blk w k t vs/\qel t)/\¬F.LS k):EngM w' base g F E n:=by
 have nt:∀{b:Nat} {t:TypeId} {vs:List Value},Blk w b t vs->¬qel t->¬T b:=λ{b t vs} hb hn hTb=>by
  obtain ⟨⟨t',vs',hb',ht'⟩,_⟩:=hT _ hTb;by_cases e:t'=t
  ·exact hn (e ▸ ht')
  ·exact hb'.ne_t hb e rfl
 refine ⟨h.blk.chg hc (nt h.blk (by decide)),h.hg,h.st.keep hc (nt h.st.blk (by decide)) (λe=>?_) (λp hp k hk e=>?_),h.ok,h.hs,h.tb.chg hc ?_,h.tl,
  λC s hl=>⟨(h.lo C s hl).1.chg hc λk hk e=>(hT k e).2 hk,(h.lo C s hl).2⟩,h.nl,h.dg,h.ds,h.dt,h.di⟩
 ·obtain ⟨⟨t',vs',hb',_⟩,_⟩:=hT _ e;exact h.st.map.ne_blk hb' rfl
 ·obtain ⟨cs,hcs⟩:=((h.st.img p hp).blk k hk).2;exact nt hcs (by decide) e
 ·rintro k (hk | hk) e
  ·exact nt h.tb.blk (by decide) (hk ▸ e)
  ·obtain ⟨cs,hcs⟩:=h.tb.own.blk_t hk;exact nt hcs (by decide) e
theorem EngT.far {F1:KF} {E1:KE} {n1:Nat} {w1 w2:World} (h:EngT base g w F F1 E1 n1 w1) {T:Nat->Prop} (hc:Chg T w1 w2) (hT:∀k,T k->(∃t vs,Blk w1 k t vs/\qel t)/\¬F1.LS k) (hw:∀k,T k->w.heap.size<=k) :
  EngT base g w F F1 E1 n1 w2:=⟨h.m.far hc hT,h.old,h.chg.trans hc λk hk e=>by have:=hw k e;omega,h.ls⟩
theorem EngM.not_in4 (h:EngM w base g F E n) {b:Nat} {t:TypeId} {vs:List Value} (hb:Blk w b t vs) (ht:t≠zH/\t≠zD/\t≠jm/\t≠qA) (hLS:¬F.LS b):¬kw g F b:=by
 obtain ⟨t1,t2,t3,t4⟩:=ht;rintro (e | (e | e) | (e | e) | e)
 ·exact hb.ne_t h.blk t1 e
 ·exact hb.ne_t h.st.blk t2 e
 ·exact h.st.map.ne_blk hb e.symm
 ·exact hb.ne_t h.tb.blk t3 e
 ·exact qF h.tb.own hb (λe=>t4 e.symm) b e rfl
 ·exact hLS e
theorem EngM.not_in (h:EngM w base g F E n) {b:Nat} {t:TypeId} {vs:List Value} (hb:Blk w b t vs) (ht:qel t) (hLS:¬F.LS b):¬kw g F b:=by
 obtain ⟨t1,t2,t3,t4,t5⟩:=ht;rintro (e | (e | e) | (e | e) | e)
 ·exact hb.ne_t h.blk t1 e
 ·exact hb.ne_t h.st.blk t2 e
 ·exact h.st.map.ne_blk hb e.symm
 ·exact hb.ne_t h.tb.blk t3 e
 ·exact qF h.tb.own hb (λe=>t4 e.symm) b e rfl
 ·exact hLS e
theorem q8h (h:EngM w base g F E n) (hn:n<=900) (hT:Tab w) (h4:4<=base) {k:qb} (hw:VX (toL k)) {m:qa} {bs:List UInt8} (hP:Rd qm w m.P bs) (hPg:∀a,m.P.a=some a->¬kw g F a.block) (v:qh) {K:qc->Ub}
  (hK:∀P r F' w',qib w' r (YH E k m.W m.H bs P v).2->EngT base g w F F' (YH E k m.W m.H bs P v).1 (n+2) w'->(∀j,r.Reply.blk=some j->w.heap.size<=j/\¬kw g F' j)->(∀j,P.blk=some j->w.heap.size<=j)->K r w'):QD (some ⟨g,0,none⟩) k m v w K:=by
 refine qgc _ _ _ _ ?_;simp only [onPtr_some];refine nwb λw1 hk1 hB1 hs1=>nwb λw2 hm2 hB2 hs2=>nwb λw3 hv3 hB3 hs3=>nwb λw4 ht4 hB4 hs4=>?_;have B4:=zq (vi hB1 hB2 hB3) hB4;have hk4:=((hk1.ext hB2).ext hB3).ext hB4;have hm4:=(hm2.ext hB3).ext hB4;have hv4:=hv3.ext hB4;have h4':=(h.ext B4).drew;have B4d:=B4.drew;have z1:=hB1.size;have z2:=hB2.size;have z3:=hB3.size;have z4:=hB4.size;have lk4:=hk4.lt;have lv4:=hv4.lt;have lt4:=ht4.lt;have nE:∀{b:Nat},w.heap.size<=b->¬kw g F b:=λhb hk=>by have:=(h.below _ hk).2;omega
 have nLS:∀{b:Nat},w.heap.size<=b->¬F.LS b:=λhb hk=>nE hb (.inr (.inr (.inr hk)));have tys:qz≠zH/\qz≠zD/\qz≠jm/\qz≠qA/\qz≠qN:=by decide
 have tyk:qM≠zH/\qM≠zD/\qM≠jm/\qM≠qA/\qM≠qN:=by decide
 refine qK (x:=some ⟨F.sg,0,none⟩) (h4'.blk.cells 1 _ rfl) ?_;refine lI (x:=k.Id) (hk4.drew.cells 8 _ rfl) (lI (x:=k.Number) (hk4.drew.cells 9 _ rfl) (qx (r:=qa.rep) (x:=m) hm4.drew.cells ?_));refine zdp h4'.st h.ok (by omega) (le_trans h4'.hg (Nat.le_of_lt h4'.blk.lt)) (hP.ext B4d) (λ_ a ha hs=>hPg a ha (.inr (.inl hs))) (λw5 he _ hB5=>?_) λP q w5 he hst hok hq hc5 hPb=>?_
 ·
  have B5:=zq B4d hB5;refine cT (by simpa using he) (qx (r:=qb.rep) (x:=k) (hk4.drew.ext hB5).cells ?_);refine Qj (hT.ext B5) hw _ [] (by simp) λq w6 hq hB6 hqb=>?_;have ht6:=(ht4.drew.ext hB5).ext hB6;have h6:EngT base g w F F E (n+2) w6:=(EngT.of_ext h (zq B5 hB6)).up (by omega);refine zM (r:=qc.rep) (x:=⟨q,0,0,false⟩) ht6 rfl rfl λw7 hc7 hs7=>?_;have e4:w4.drew.heap.size=w4.heap.size:=rfl;have z5:=hB5.size;refine hK ⟨none,0,0⟩ _ F w7 ?_ ?_ (λj hj=>⟨by have:=hqb j hj;omega,λhs=>by have:=(h.below _ hs).2;have:=hqb j hj;omega⟩) λj hj=>by cases hj
  ·unfold YH;rw [if_pos he];exact ⟨hq.chg hc7 λa ha e=>by have:=hqb a.block (slk.2 ⟨a,ha,rfl⟩);omega,rfl,rfl,rfl⟩
  ·unfold YH;rw [if_pos he];exact h6.other ht6 tys (nLS (by omega)) (by omega) hc7
 ·
  refine cF rfl ?_;have e4:w4.drew.heap.size=w4.heap.size:=rfl;have hPw:∀j,P.blk=some j->w.heap.size<=j:=λj hj=>by have:=hPb j hj;omega
  have hle:=q6c E.S k.Id bs.length;have hol:=h.ok.len;have hpk:StOk n (E.S.putPre k.Id bs.length).1:=KU _ _ (q0d h.ok k.Id);have h5:=(EngT.of_ext h B4d).trans (EngT.store h4' hst hok (by omega) hc5 (λj hj=>by
   obtain ⟨p,hp,hb⟩:=hj;obtain ⟨a,b⟩:=p;rcases (zB hpk.srt _ _ a b).1 hp with ⟨rfl,rfl⟩ | ⟨_,hp'⟩
   ·exact .inr (hPb j hb)
   ·exact .inl ⟨(a,b),qun _ _ _ _ hp',hb⟩))
  have hid:=hok.keys (Xr (E.S.putPre k.Id bs.length).1.L k.Id,⟨⟨k.Number,⟨m.W,m.H,P⟩,(E.S.putPre k.Id bs.length).1.clock+1,(E.S.putPre k.Id bs.length).1.clock+1⟩,bs⟩) ((zB hpk.srt _ _ _ _).2 (.inl ⟨rfl,rfl⟩));dsimp only at hid;have z5:=hc5.size;have hk5:=hk4.drew.chg hc5 λe=>nE (le_refl _) (.inr (.inl e));have hv5:=hv4.drew.chg hc5 λe=>nE (by omega:w.heap.size<=w2.heap.size) (.inr (.inl e));have ht5:=ht4.drew.chg hc5 λe=>nE (by omega:w.heap.size<=w3.heap.size) (.inr (.inl e));refine YZ (E:=zw) zR hq (y:=Xr (E.S.putPre k.Id bs.length).1.L k.Id) rfl z5 (by rw [ZL];omega) (by unfold maxLen;omega) λr w9 ho9 hc9 hr9=>?_;have h9:=h5.far hc9 (λj hj=>⟨by obtain ⟨cs,hcs⟩:=hq.blk_t hj;exact ⟨_,cs,hcs,by decide⟩,nLS (by have:=(hq.lt j hj).1;omega)⟩) λj hj=>by have:=(hq.lt j hj).1;omega
  have nq:∀{j:Nat},j<w4.heap.size->¬q.blk=some j:=λhj e=>by have:=(hq.lt _ e).1;omega
  have hk9:=hk5.chg hc9 (nq lk4);have hv9:=hv5.chg hc9 (nq lv4);have ht9:=ht5.chg hc9 (nq lt4);refine qw2 h9.m (by omega) ho9.rd (λa ha=>qF ho9 h9.m.tb.blk (by decide) a.block (slk.2 ⟨a,ha,rfl⟩)) λq' w10 h10=>?_;have hk10:=hk9.chg h10.chg (nE (le_refl _));have hv10:=hv9.chg h10.chg (nE (by omega:w.heap.size<=w2.heap.size));have ht10:=ht9.chg h10.chg (nE (by omega:w.heap.size<=w3.heap.size));have hE10:EngT base g w F { F with q:=q' } (qhg E k m.W m.H bs P) (n+1) w10:=h9.trans h10;have ek:YH E k m.W m.H bs P v=if k.Action≠84 then (qhg E k m.W m.H bs P,ZQ (kK E k bs) 0 []) else ((zZ (qhg E k m.W m.H bs P) (kK E k bs) (idK E k bs) v).1,(zZ (qhg E k m.W m.H bs P) (kK E k bs) (idK E k bs) v).2.1):=by
   unfold YH;rw [if_neg (λhh=>hh he)]
  refine jpO λJ1 hJ1=>?_;have j1:∀wx,Blk wx w.heap.size qM (qb.rep.cells (kK E k bs))->Blk wx w2.heap.size zP (qh.rep.cells v)->Blk wx w3.heap.size qz [(.slice none 0 0),(Ua 0),(Ua 0),(.bool false)]->EngT base g w F { F with q:=q' } (qhg E k m.W m.H bs P) (n+1) wx->J1 (()) wx:=by
   intro w11 hk11 hv11 ht11 h11;refine hJ1 _ _ ?_;have hT11:=hT.stepK h h4 h11;have hwn:VX (toL (kK E k bs)):=by
    unfold kK;split
    ·exact q7w hw (by unfold idK;omega)
    ·exact hw
   have ea:(kK E k bs).Action=k.Action:=by
    unfold kK;split<;>rfl
   have lt11:=ht11.lt;refine lI (x:=(kK E k bs).Action) (hk11.cells 0 _ rfl) ?_;rw [ea];by_cases hac:k.Action=84
   ·rw [if_neg (λhh=>hh hac)] at ek;refine cF (by simpa using hac) (qx (r:=qb.rep) (x:=kK E k bs) hk11.cells (qx (r:=qh.rep) (x:=v) hv11.cells ?_));refine qvd h11.m (by omega) hT11 h4 hwn (idK E k bs) v λr F14 w14 hr14 h14 hrb=>?_;have hE14:=h11.trans h14;have n3:¬kw g { F with q:=q' } w3.heap.size:=h11.m.not_in ht11 tys (nLS (by omega));have ht14:=ht11.chg h14.chg n3;refine ko (vs:=qc.rep.cells r) rfl λw16 ho16 hB16 hs16=>?_;refine qx (r:=qc.rep) (x:=r) ho16.cells ?_;have ht16:=ht14.ext hB16;refine zM (r:=qc.rep) (x:=r) ht16 rfl rfl λw17 hc17 hs17=>?_;have nF14:¬F14.LS w3.heap.size:=λhk=>by
     rcases h14.ls _ hk with hk | hk
     ·exact nLS (by omega:w.heap.size<=w3.heap.size) hk
     ·omega
    refine hK P r F14 w17 ?_ ?_ (λj hj=>⟨by have:=(hrb j hj).1;have:=h11.chg.size;omega,(hrb j hj).2⟩) hPw
    ·rw [ek];have hr16:=hr14.ext hB16;exact ⟨hr16.1.chg hc17 λa ha e=>by have:=(hrb a.block (slk.2 ⟨a,ha,rfl⟩)).1;omega,hr16.2⟩
    ·rw [ek];exact (hE14.ext hB16).other ht16 tys nF14 (by omega) hc17
   ·rw [if_pos hac] at ek;refine cT (by simpa using hac) (qx (r:=qb.rep) (x:=kK E k bs) hk11.cells ?_);refine Qj hT11 hwn 0 [] (by simp) λq2 w12 hq2 hB12 hqb2=>?_;have ht12:=ht11.ext hB12;refine zM (r:=qc.rep) (x:=⟨q2,0,0,false⟩) ht12 rfl rfl λw13 hc13 hs13=>?_;refine hK P _ _ w13 ?_ (?_:EngT base g w F { F with q:=q' } _ (n+2) w13) (λj hj=>⟨by have:=hqb2 j hj;have:=h11.chg.size;omega,λhs=>by have:=(h11.m.below _ hs).2;have:=hqb2 j hj;omega⟩) hPw
    ·rw [ek];exact ⟨hq2.chg hc13 λa ha e=>by have:=hqb2 a.block (slk.2 ⟨a,ha,rfl⟩);omega,rfl,rfl,rfl⟩
    ·rw [ek];exact ((h11.ext hB12).up (by omega)).other ht12 tys (nLS (by omega)) (by omega) hc13
  refine jpO λJ2 hJ2=>?_;have j2:∀b:Bool,(b=true↔k.Id=0/\k.Number≠0)->J2 (b,()) w10:=by
   intro b hb;refine hJ2 _ _ ?_;cases b
   ·refine cF rfl (j1 w10 ?_ hv10 ht10 hE10);have:kK E k bs=k:=by unfold kK;rw [if_neg (λhh=>by have:=hb.2 hh;cases this)]
    rw [this];exact hk10
   ·refine cT rfl ?_;show stK ⟨w.heap.size,8,none⟩ _ _ _;refine qw hk10 (by show (8+1:Nat)<=22;omega) λw11 hk11 hg11 hs11=>?_;have hc11:Chg (λi=>i=w.heap.size) w10 w11:=Chg.of_grown hg11 λk hk=>by cases hk;rfl
    refine j1 w11 ?_ (hv10.chg hc11 λe=>by omega) (ht10.chg hc11 λe=>by omega) (hE10.other hk10 tyk (nLS (le_refl _)) (le_refl _) hc11);have:kK E k bs={ k with Id:=idK E k bs }:=by unfold kK;rw [if_pos (hb.1 rfl)]
    rw [this];exact hk11
  refine lI (x:=k.Id) (hk10.cells 8 _ rfl) (cO (λe=>?_) λe=>?_)
  ·have e:=eq_of_beq e;refine lI (x:=k.Number) (hk10.cells 9 _ rfl) (j2 _ ⟨λhh=>⟨e,by simpa using hh⟩,λhh=>by simpa using hh.2⟩)
  ·exact j2 _ ⟨λhh=>(by cases hh),λhh=>absurd hh.1 (beq_eq_false_iff_ne.1 e)⟩
end
def zgz:List UInt8:=[69,66,65,68,80,78,71]
def qvk (k:qb) (x:Int):List UInt8:=if k.Format=100/\(x=2\/x=3\/x=4\/x=8\/x=1) then zgz else []
def qqi (E:KE) (C:LdK) (s:LdS) (k:qb) (P:Slc) (v:qh):KE×KR :=
 if ((qm8 C s).1:Int)≠0\/k.Action=113 then (E.idle,ZQ k ((qm8 C s).1:Int) (qvk k ((qm8 C s).1:Int)))
 else YH E.idle k ((qm8 C s).2.1:Int) ((qm8 C s).2.2.1:Int) (qm8 C s).2.2.2 P v
section
variable {w w':World} {base g n:Nat} {F F':KF} {E E':KE}
theorem EngT.load (h:EngM w base g F E n) {C:LdK} {s s':LdS} (hl:E.ld=some (C,s)) {S':Nat->Prop} (ha:LdA w' base F.lg F.gd C s' S') (hS:∀k,S' k->F.LS k\/w.heap.size<=k) (hc:Chg F.LS w w') :
  EngT base g w F { F with LS:=S' } { E with ld:=some (C,s') } n w':=by
 have old:∀k,k<w.heap.size->¬F.LS k->¬S' k:=λk hk hn hs=>by
  rcases hS k hs with h1 | h1
  ·exact hn h1
  ·omega
 have hb:Blk w' g zH (qp3 { F with LS:=S' } { E with ld:=some (C,s') }):=by
  have h1:=h.blk.chg hc h.dg;have e:qp3 { F with LS:=S' } { E with ld:=some (C,s') }=qp3 F E:=by
   unfold qp3;rw [hl];rfl
  rw [e];exact h1
 refine ⟨⟨hb,h.hg,h.st.keep hc h.ds.1 h.ds.2 (λp hp k hk e=>h.di k ⟨p,hp,hk⟩ e),h.ok,h.hs,h.tb.chg hc h.dt,h.tl,λC1 s1 h1=>?_,(λh1=>by cases h1),old _ h.blk.lt h.dg,⟨old _ h.st.blk.lt h.ds.1,old _ h.st.map.lt h.ds.2⟩,λk hk=>old _ (h.tb.lt k hk).2 (h.dt k hk),λk hk=>?_⟩,?_,hc.mono λk _ hk=>.inr (.inr (.inr hk)),hS⟩
 ·cases h1;exact ⟨ha,(h.lo C s hl).2⟩
 ·obtain ⟨p,hp,hb⟩:=hk;exact old _ ((h.st.img p hp).lt k hb).2 (h.di k ⟨p,hp,hb⟩)
 ·rintro k (hk | hk | hk | hk)
  ·exact .inl (.inl hk)
  ·exact .inl (.inr (.inl hk))
  ·exact .inl (.inr (.inr (.inl hk)))
  ·rcases hS k hk with h1 | h1
   ·exact .inl (.inr (.inr (.inr h1)))
   ·exact .inr h1
theorem q57 (k:qb) (x:Int):(qvk k x).length<=100000:=by
 unfold qvk;split
 ·show (7:Nat)<=_;omega
 ·show (0:Nat)<=_;omega
theorem zec (h:EngM w base g F E n) (hn:n<=900) (hT:Tab w) (h4:4<=base) {C:LdK} {s:LdS} (hl:E.ld=some (C,s)) (hsm:s.b.length<=32000) {k:qb} (hw:VX (toL k)) (v:qh) {K:qc->Ub}
  (hK:∀P r F' w',qib w' r (qqi E C s k P v).2->EngT base g w F F' (qqi E C s k P v).1 (n+2) w'->(∀j,r.Reply.blk=some j->w.heap.size<=j/\¬kw g F' j)->(∀j,P.blk=some j->w.heap.size<=j)->K r w'):Zk (some ⟨g,0,none⟩) k v w K:=by
 refine qhv _ _ _ ?_;simp only [onPtr_some];refine nwb λw1 hk1 hB1 hs1=>nwb λw2 hv2 hB2 hs2=>nwb λw3 ht3 hB3 hs3=>?_;have B3:=vi hB1 hB2 hB3;have hk3:=(hk1.ext hB2).ext hB3;have hv3:=hv2.ext hB3;have h3:=h.ext B3;have z1:=hB1.size;have z2:=hB2.size;have z3:=hB3.size;have lk3:=hk3.lt;have lv3:=hv3.lt;have lt3:=ht3.lt;have nE:∀{b:Nat},w.heap.size<=b->¬kw g F b:=λhb hk=>by have:=(h.below _ hk).2;omega
 have nLS:∀{b:Nat},w.heap.size<=b->¬F.LS b:=λhb hk=>nE hb (.inr (.inr (.inr hk)));have tys:qel qz:=by decide
 have tyk:qel qM:=by decide
 refine qK (x:=some ⟨F.lg,0,none⟩) (by have:=h3.blk.cells 3 _ rfl;rw [hl] at this;exact this) ?_;obtain ⟨hld,hcf⟩:=h3.lo C s hl;refine q8l hld (le_trans h3.hg (Nat.le_of_lt h3.blk.lt)) hcf hsm λm S' w4 hld4 hm4 hmS hS' hc4=>?_;have h4e:=(EngT.of_ext h B3).trans (EngT.load h3 hl hld4 hS' hc4);have hk4:=hk3.chg hc4 (nLS (le_refl _));have hv4:=hv3.chg hc4 (nLS (by omega));have ht4:=ht3.chg hc4 (nLS (by omega));have z4:=hc4.size;refine ko (vs:=qa.rep.cells m) rfl λw6 hm6 hB6 hs6=>?_;have hk6:=hk4.ext hB6;have hv6:=hv4.ext hB6;have ht6:=ht4.ext hB6;have h6:=h4e.ext hB6;have hmo6:=hm4.2.2.ext hB6;have z6:=hB6.size;obtain ⟨hmW,hmH,hmo⟩:=hm4;obtain ⟨x,hx⟩:∃x:Int,x=((qm8 C s).1:Int):=⟨_,rfl⟩;rw [<-hx];refine jpO λJ1 hJ1=>?_;have j1:J1 (qS (qvk k x),()) w6:=by
  refine hJ1 _ _ (jpO λJ2 hJ2=>?_);refine qxw h6.m λF7 w7 h7 hq7 htg7=>?_;have nS6:∀{b:Nat} {t:TypeId} {vs:List Value},w.heap.size<=b->b<w3.heap.size->Blk w6 b t vs->qel t->¬kw g { F with LS:=S' } b:=λh1 h2 hb ht=>h6.m.not_in hb ht λhs=>by
   rcases hS' _ hs with h5 | h5
   ·exact nLS h1 h5
   ·omega
  have hE7:=h6.trans h7;have hk7:=hk6.chg h7.chg (nS6 (le_refl _) (by omega) hk6 (by decide));have hv7:=hv6.chg h7.chg (nS6 (by omega) (by omega) hv6 (by decide));have ht7:=ht6.chg h7.chg (nS6 (by omega) (by omega) ht6 (by decide));have hm7:Blk w7 w4.heap.size qq (qa.rep.cells m):=hm6.chg h7.chg (h6.m.not_in hm6 (by decide) λhs=>by
   have:=(hld4.lt _ hs).2;omega)
  have hT7:=hT.stepK h h4 hE7;have nLS7:∀{b:Nat},w.heap.size<=b->b<w3.heap.size->¬F7.LS b:=λh1 h2 hs=>by
   have:∀j,¬F7.LS j:=h7.m.nl rfl;exact this _ hs
  have lt7:=ht7.lt;refine jpO λJ3 hJ3=>?_;have j3:J3 (decide (x≠0\/k.Action=113),()) w7:=by
   refine hJ3 _ _ ?_;by_cases hb:x≠0\/k.Action=113
   ·rw [dTq hb];refine cT rfl (qx (r:=qb.rep) (x:=k) hk7.cells ?_);refine Qj hT7 hw x (qvk k x) (q57 k x) λq w8 hq hB8 hqb=>?_;have ht8:=ht7.ext hB8;refine zM (r:=qc.rep) (x:=⟨q,0,0,false⟩) ht8 rfl rfl λw9 hc9 hs9=>?_;have ek:qqi E C s k ⟨none,0,0⟩ v=(E.idle,ZQ k x (qvk k x)):=by
     unfold qqi;rw [<-hx,if_pos hb]
    have z7:=h7.chg.size;refine hK ⟨none,0,0⟩ _ F7 w9 ?_ ?_ (λj hj=>⟨by have:=hqb j hj;omega,λhs=>by have:=(h7.m.below _ hs).2;have:=hqb j hj;omega⟩) λj hj=>by cases hj
    ·rw [ek];exact ⟨hq.chg hc9 λa ha e=>by have:=hqb a.block (slk.2 ⟨a,ha,rfl⟩);omega,rfl,rfl,rfl⟩
    ·rw [ek];exact ((hE7.ext hB8).up (by omega)).other ht8 tys (nLS7 (by omega) (by omega)) (by omega) hc9
   ·rw [dFq hb];refine cF rfl (hJ2 _ _ ?_);refine qx (r:=qb.rep) (x:=k) hk7.cells (qx (r:=qa.rep) (x:=m) hm7.cells (qx (r:=qh.rep) (x:=v) hv7.cells ?_));have hmo7:=hmo6.chg h7.chg λj hj hs=>by
     obtain ⟨cs,hcs⟩:=hmo6.blk_t hj;exact h6.m.not_in4 hcs (by decide) (hmS j hj) hs
    refine q8h h7.m hn hT7 h4 hw hmo7.rd (λa ha hs=>?_) v λP r F9 w9 hr hE9 hrb hPb=>?_
    ·have hj:m.P.blk=some a.block:=slk.2 ⟨a,ha,rfl⟩;obtain ⟨cs,hcs⟩:=hmo7.blk_t hj;exact h7.m.not_in4 hcs (by decide) (h7.m.nl rfl _) hs
    ·have n3:¬kw g F7 w2.heap.size:=h7.m.not_in ht7 tys (nLS7 (by omega) (by omega));have ht9:=ht7.chg hE9.chg n3;have ek:∀P,qqi E C s k P v=YH E.idle k m.W m.H (qm8 C s).2.2.2 P v:=by
      intro P;unfold qqi;rw [<-hx,if_neg hb,hmW,hmH]
     refine zM (r:=qc.rep) (x:=r) ht9 rfl rfl λw10 hc10 hs10=>?_;have z7:=h7.chg.size;have nF9:¬F9.LS w2.heap.size:=λhs=>by
      rcases hE9.ls _ hs with h1 | h1
      ·exact nLS7 (by omega) (by omega) h1
      ·omega
     refine hK P r F9 w10 ?_ ?_ (λj hj=>⟨by have:=(hrb j hj).1;omega,(hrb j hj).2⟩) λj hj=>by have:=hPb j hj;omega
     ·rw [ek];exact ⟨hr.1.chg hc10 λa ha e=>by have:=(hrb a.block (slk.2 ⟨a,ha,rfl⟩)).1;omega,hr.2⟩
     ·rw [ek];exact (hE7.trans hE9).other ht9 tys nF9 (by omega) hc10
  by_cases hx0:x=0
  ·refine cF (by simpa using hx0) (lI (x:=k.Action) (hk7.cells 0 _ rfl) ?_);have e:(k.Action==113)=decide (x≠0\/k.Action=113):=by
    by_cases ha:k.Action=113
    ·rw [dTq (.inr ha)];exact beq_iff_eq.2 ha
    ·rw [dFq (λhh=>hh.elim (λh=>h hx0) ha)];exact beq_eq_false_iff_ne.2 ha
   rw [e];exact j3
  ·rw [dTq (.inl hx0)] at j3;exact cT (by simpa using hx0) j3
 have e1:(⟨#[69,66,65,68,80,78,71]⟩:ByteArray)=qS zgz:=rfl;have e2:(⟨#[]⟩:ByteArray)=qS []:=rfl;rw [e1,e2];unfold qvk at j1;refine lI (x:=k.Format) (hk6.cells 5 _ rfl) (cO (λf=>?_) λf=>?_)
 ·have f:=eq_of_beq f;have yes:(x=2\/x=3\/x=4\/x=8\/x=1)->J1 (qS zgz,()) w6:=λh=>by rw [if_pos ⟨f,h⟩] at j1;exact j1
  refine cO (λa=>cT a (yes (.inl (eq_of_beq a)))) λa=>?_;refine cO (λb=>cT b (yes (.inr (.inl (eq_of_beq b))))) λb=>?_;refine cO (λc=>cT c (yes (.inr (.inr (.inl (eq_of_beq c)))))) λc=>?_;refine cO (λd=>cT d (yes (.inr (.inr (.inr (.inl (eq_of_beq d))))))) λd=>?_;refine cO (λe=>yes (.inr (.inr (.inr (.inr (eq_of_beq e)))))) λe=>?_;rw [if_neg (λhh=>by rcases hh.2 with h | h | h | h | h<;>simp [h] at a b c d e)] at j1;exact j1
 ·rw [if_neg (λhh=>(beq_eq_false_iff_ne.1 f) hh.1)] at j1;exact j1
end
def QA (f k:qb):qb:=if k.Quiet≠0 then { f with Quiet:=k.Quiet } else f
def qgd (E:KE) (C:LdK) (s:LdS) (ts:List UInt8):KE:={ E with ld:=some (C,vr C s ts) }
def VF (E:KE) (C:LdK) (s:LdS) (k:qb) (ts:List UInt8) (P:Slc) (v:qh):KE×KR :=
 if (vr C s ts).err≠0 then ((qgd E C s ts).idle,ZQ (QA E.first k) (((vr C s ts).err:Nat):Int) [])
 else if ((qgd E C s ts).reserve 0).2≠0 then (((qgd E C s ts).reserve 0).1.idle,ZQ (QA E.first k) ((qgd E C s ts).reserve 0).2 [])
 else if k.More=1 then (((qgd E C s ts).reserve 0).1,kr0)
 else qqi ((qgd E C s ts).reserve 0).1 C (vr C s ts) (QA E.first k) P v
theorem q5i (E:KE) (m:Int):(E.reserve m).1.ld=E.ld:=by
 unfold KE.reserve;split
 ·rfl
 ·split<;>rfl
theorem q5f {f k:qb} (hf:VX (toL f)) (hk:VX (toL k)):VX (toL (QA f k)):=by
 unfold QA;split
 ·have e:toL { f with Quiet:=k.Quiet }=(toL f).set 4 k.Quiet:=rfl;intro i;rw [e,List.getElem?_set];by_cases hi:4=i
  ·rw [if_pos hi,if_pos (by rw [qzx];omega)];exact hk 4
  ·rw [if_neg hi];exact hf i
 ·exact hf
section
variable {w w':World} {base g n:Nat} {F F':KF} {E E':KE}
theorem q9p (h:EngM w base g F E n) (hn:n<=900) (hT:Tab w) (h4:4<=base) {C:LdK} {s:LdS} (hl:E.ld=some (C,s)) (hov:s.over=false) {text:Slc} {ts:List UInt8} (hpot:qas s+3*ts.length<=120000) (ht:Rd qm w text ts) (htS:∀k,text.blk=some k->ts≠[]->¬F.LS k)
  {k:qb} (hwf:VX (toL E.first)) (hwk:VX (toL k)) (v:qh) {K:qc->Ub}
  (hK:∀P r F' w',qib w' r (VF E C s k ts P v).2->EngT base g w F F' (VF E C s k ts P v).1 (n+2) w'->(∀j,r.Reply.blk=some j->w.heap.size<=j/\¬kw g F' j)->(∀j,P.blk=some j->w.heap.size<=j)->K r w'):kV (some ⟨g,0,none⟩) k text v w K:=by
 refine qet _ _ _ _ ?_;simp only [onPtr_some];refine nwb λw1 hk1 hB1 hs1=>nwb λw2 hv2 hB2 hs2=>nwb λw3 ht3 hB3 hs3=>?_;have B3:=vi hB1 hB2 hB3;have h3:=h.ext B3;refine qx (r:=qb.rep) (x:=E.first) (h3.blk.sub 4 _ rfl) ?_;refine ko (vs:=qb.rep.cells E.first) rfl λw5 hf5 hB5 hs5=>?_;have B5:=zq B3 hB5;have hk5:=((hk1.ext hB2).ext hB3).ext hB5;have hv5:=(hv2.ext hB3).ext hB5;have ht5:=ht3.ext hB5;have z1:=hB1.size;have z2:=hB2.size;have z3:=hB3.size;have z5:=hB5.size;have lf5:=hf5.lt;have nE:∀{b:Nat},w.heap.size<=b->¬kw g F b:=λhb hk=>by have:=(h.below _ hk).2;omega
 have nLS:∀{b:Nat},w.heap.size<=b->¬F.LS b:=λhb hk=>nE hb (.inr (.inr (.inr hk)));have tys:qel qz:=by decide
 have hwq:=q5f hwf hwk;refine jpO λJ1 hJ1=>?_;have j1:∀wx,Uc w wx->w5.heap.size<=wx.heap.size->Blk wx w3.heap.size qM (qb.rep.cells (QA E.first k))->Blk wx w.heap.size qM (qb.rep.cells k)->Blk wx w1.heap.size zP (qh.rep.cells v)->Blk wx w2.heap.size qz [(.slice none 0 0),(Ua 0),(Ua 0),(.bool false)]->J1 (()) wx:=by
  intro w6 B6 z56 hf6 hk6 hv6 ht6;refine hJ1 _ _ ?_;have h6:=h.ext B6;refine qK (x:=some ⟨F.lg,0,none⟩) (by have:=h6.blk.cells 3 _ rfl;rw [hl] at this;exact this) ?_;obtain ⟨hld,hcf⟩:=h6.lo C s hl;refine q9a hld (le_trans h6.hg (Nat.le_of_lt h6.blk.lt)) hov (ht.ext B6) htS hpot λS' w7 hld7 hov7 hpot7 hS' hc7=>?_;have h7:=(EngT.of_ext h B6).trans (EngT.load h6 hl hld7 hS' hc7);have lf6:=hf6.lt;have z7:=hc7.size;have hf7:=hf6.chg hc7 (nLS (by omega));have hk7:=hk6.chg hc7 (nLS (le_refl _));have hv7:=hv6.chg hc7 (nLS (by omega));have ht7:=ht6.chg hc7 (nLS (by omega));have hT7:=hT.stepK h h4 h7;refine jpO λJ2 hJ2=>?_;have bad:∀(x:Int) (E2:KE) (F8:KF) (w8:World),x≠0->EngT base g w F F8 E2 n w8->w7.heap.size<=w8.heap.size->(∀j,F8.LS j->S' j)->Blk w8 w3.heap.size qM (qb.rep.cells (QA E.first k))->Blk w8 w2.heap.size qz [(.slice none 0 0),(Ua 0),(Ua 0),(.bool false)] ->
    (∀P,VF E C s k ts P v=(E2.idle,ZQ (QA E.first k) x []))->J2 (x,()) w8:=by
   intro x E2 F8 w8 hx h8 z78 hLS8 hf8 ht8 em;refine hJ2 _ _ (cT (by simpa using hx) ?_);have nS:∀{b:Nat},w.heap.size<=b->b<w5.heap.size->¬F8.LS b:=λh1 h2 hs=>by
    rcases hS' _ (hLS8 _ hs) with h5 | h5
    ·exact nLS h1 h5
    ·omega
   refine qxw h8.m λF9 w9 h9 hq9 htg9=>?_;have hE9:=h8.trans h9;have hf9:=hf8.chg h9.chg (h8.m.not_in hf8 (by decide) (nS (by omega) (by omega)));have ht9:=ht8.chg h9.chg (h8.m.not_in ht8 (by decide) (nS (by omega) (by omega)));have z9:=h9.chg.size;refine qx (r:=qb.rep) (x:=QA E.first k) hf9.cells ?_;refine Qj (hT.stepK h h4 hE9) hwq x [] (by simp) λq w10 hq hB10 hqb=>?_;have ht10:=ht9.ext hB10;refine zM (r:=qc.rep) (x:=⟨q,0,0,false⟩) ht10 rfl rfl λw11 hc11 hs11=>?_;refine hK ⟨none,0,0⟩ _ F9 w11 ?_ ?_ (λj hj=>⟨by have:=hqb j hj;omega,λhs=>by have:=(hE9.m.below _ hs).2;have:=hqb j hj;omega⟩) λj hj=>by cases hj
   ·rw [em];exact ⟨hq.chg hc11 λa ha e=>by have:=hqb a.block (slk.2 ⟨a,ha,rfl⟩);omega,rfl,rfl,rfl⟩
   ·rw [em];exact ((hE9.ext hB10).up (by omega)).other ht10 tys (λhs=>h9.m.nl rfl _ hs) (by omega) hc11
  by_cases he:(vr C s ts).err=0
  ·refine cT (by rw [he];rfl) ?_;have hz7:EngM w7 base g { F with LS:=S' } (qgd E C s ts) n:=h7.m;refine qu9 hz7 (by omega) 0 λF8 w8 h8 hlg8 hgd8 hLS8=>?_;have hE8:=h7.trans h8;have z8:=h8.chg.size;have nS:∀{b:Nat},w.heap.size<=b->b<w5.heap.size->¬S' b:=λh1 h2 hs=>by
    rcases hS' _ hs with h5 | h5
    ·exact nLS h1 h5
    ·omega
   have hf8:=hf7.chg h8.chg (hz7.not_in hf7 (by decide) (nS (by omega) (by omega)));have hk8:=hk7.chg h8.chg (hz7.not_in hk7 (by decide) (nS (le_refl _) (by omega)));have hv8:=hv7.chg h8.chg (hz7.not_in hv7 (by decide) (nS (by omega) (by omega)));have ht8:=ht7.chg h8.chg (hz7.not_in ht7 (by decide) (nS (by omega) (by omega)));by_cases hx:((qgd E C s ts).reserve 0).2=0
   ·rw [hx];refine hJ2 _ _ (cF rfl (lI (x:=k.More) (hk8.cells 11 _ rfl) ?_));have nF8:∀{b:Nat},w.heap.size<=b->b<w5.heap.size->¬F8.LS b:=λh1 h2 hs=>nS h1 h2 (by rw [hLS8] at hs;exact hs);by_cases hm:k.More=1
    ·refine cT (by simpa using hm) ?_;refine zM (r:=qc.rep) (x:=⟨⟨none,0,0⟩,0,0,false⟩) ht8 rfl rfl λw9 hc9 hs9=>?_;have em:∀P,VF E C s k ts P v=(((qgd E C s ts).reserve 0).1,kr0):=λP=>by
      unfold VF;rw [if_neg (λhh=>hh he),if_neg (λhh=>hh hx),if_pos hm]
     refine hK ⟨none,0,0⟩ _ F8 w9 ?_ ?_ (λj hj=>by cases hj) λj hj=>by cases hj
     ·rw [em];exact qib.nil _
     ·rw [em];exact (hE8.up (by omega)).other ht8 tys (nF8 (by omega) (by omega)) (by omega) hc9
    ·refine cF (by simpa using hm) (qx (r:=qb.rep) (x:=QA E.first k) hf8.cells (qx (r:=qh.rep) (x:=v) hv8.cells ?_));have hl8:((qgd E C s ts).reserve 0).1.ld=some (C,vr C s ts):=q5i _ _;have hbl:(vr C s ts).b.length<=32000:=by
      unfold qas at hpot7 hpot;omega
     refine zec h8.m hn (hT.stepK h h4 hE8) h4 hl8 hbl hwq v λP r F9 w9 hr h9 hrb hPb=>?_;have ht9:=ht8.chg h9.chg (h8.m.not_in ht8 (by decide) (nF8 (by omega) (by omega)));have lt8:=ht8.lt;refine zM (r:=qc.rep) (x:=r) ht9 rfl rfl λw10 hc10 hs10=>?_;have em:VF E C s k ts P v=qqi ((qgd E C s ts).reserve 0).1 C (vr C s ts) (QA E.first k) P v:=by
      unfold VF;rw [if_neg (λhh=>hh he),if_neg (λhh=>hh hx),if_neg hm]
     refine hK P r F9 w10 ?_ ?_ (λj hj=>⟨by have:=(hrb j hj).1;omega,(hrb j hj).2⟩) λj hj=>by have:=hPb j hj;omega
     ·rw [em];exact ⟨hr.1.chg hc10 λa ha e=>by have:=(hrb a.block (slk.2 ⟨a,ha,rfl⟩)).1;omega,hr.2⟩
     ·rw [em];refine (hE8.trans h9).other ht9 tys (λhs=>?_) (by omega) hc10;rcases h9.ls _ hs with h1 | h1
      ·exact nF8 (by omega) (by omega) h1
      ·omega
   ·refine bad _ _ F8 w8 hx hE8 z8 (λj hj=>by rw [hLS8] at hj;exact hj) hf8 ht8 λP=>?_;unfold VF;rw [if_neg (λhh=>hh he),if_pos hx]
  ·have hne:(((vr C s ts).err:Nat):Int)≠0:=by omega
   refine cF (by simpa using he) ?_;refine bad _ (qgd E C s ts) { F with LS:=S' } w7 hne h7 (le_refl _) (λj hj=>hj) hf7 ht7 λP=>?_;unfold VF;rw [if_pos he]
 refine lI (x:=k.Quiet) (hk5.cells 4 _ rfl) ?_;by_cases hq:k.Quiet=0
 ·refine cF (by simpa using hq) (j1 w5 B5 (le_refl _) ?_ hk5 hv5 ht5);have:QA E.first k=E.first:=by unfold QA;rw [if_neg (λhh=>hh hq)]
  rw [this];exact hf5
 ·refine cT (by simpa using hq) (lI (x:=k.Quiet) (hk5.cells 4 _ rfl) ?_);show stK ⟨w3.heap.size,4,none⟩ _ _ _;refine qw hf5 (by show (4+1:Nat)<=22;omega) λw6 hf6 hg6 hs6=>?_;have hc6:Chg (λi=>i=w3.heap.size) w5 w6:=Chg.of_grown hg6 λk hk=>by cases hk;rfl
  have:QA E.first k={ E.first with Quiet:=k.Quiet }:=by unfold QA;rw [if_pos hq]
  refine j1 w6 (B5.trans (hc6.below B5.size λi hi e=>by omega)) (by omega) ?_ (hk5.chg hc6 λe=>by omega) (hv5.chg hc6 λe=>by omega) (ht5.chg hc6 λe=>by omega);rw [this];exact hf6
end
def qsk (E:KE) (k:qb):LdK:=⟨k,E.quota.toNat,(ve k).2⟩
def qsr (E:KE) (k:qb):KE:={ E with ld:=some (qsk E k,ld0),first:=k }
def qam (E:KE) (k:qb) (ts:List UInt8) (P:Slc) (v:qh):KE×KR :=
 if qpt k E.quota≠0 then (E,ZQ k ((qpt k E.quota:Nat):Int) []) else VF (qsr E k) (qsk E k) ld0 k ts P v
theorem q6i (F:KF) (E:KE) (k:qb):putL (qp3 F E) 4 (qb.rep.cells k)=qp3 F { E with first:=k }:=by kernel_rfl
theorem ze5 (F:KF) (E:KE) (lg gd:Nat) (LS:Nat->Prop) (x:LdK×LdS):putL (qp3 F E) 3 [.pointer (some ⟨lg,0,none⟩)]=qp3 { F with lg:=lg,gd:=gd,LS:=LS } { E with ld:=some x }:=rfl
theorem q3b (F:KF) (E:KE):(qp3 F E).length=26:=rfl
section
variable {w w':World} {base g n:Nat} {F F':KF} {E E':KE}
theorem LdA.weak {B lg gd:Nat} {C:LdK} {s:LdS} {S:Nat->Prop} (h:LdA w B lg gd C s S) (hb:base<=B):LdA w base lg gd C s S:=by
 obtain ⟨⟨p,h1,h2⟩,h3,h4,h5,h6,h7⟩:=h;refine ⟨⟨p,h1,?_⟩,h3,h4,h5,h6,λk hk=>⟨le_trans hb (h7 k hk).1,(h7 k hk).2⟩⟩;rcases h2 with h2 | ⟨x,a,b,c,d,e⟩
 ·exact .inl h2
 ·exact .inr ⟨x,a.base hb,b.base hb,c,d,e⟩
theorem q5h (h:EngM w base g F E n) (hn:n<=900) (hT:Tab w) (h4:4<=base) (hl:E.ld=none) (hq:E.quota<=100000) {text:Slc} {ts:List UInt8} (hts:ts.length<=40000) (ht:Rd qm w text ts) (htg:∀j,text.blk=some j->ts≠[]->¬kw g F j)
  {k:qb} (hwk:VX (toL k)) (hraw:k.Format≠100/\k.Zip≠122) (v:qh) {K:qc->Ub}
  (hK:∀P r F' w',qib w' r (qam E k ts P v).2->EngT base g w F F' (qam E k ts P v).1 (n+2) w'->(∀j,r.Reply.blk=some j->w.heap.size<=j/\¬kw g F' j)->(∀j,P.blk=some j->w.heap.size<=j)->K r w'):y2 (some ⟨g,0,none⟩) k text v w K:=by
 refine qdr _ _ _ _ ?_;simp only [onPtr_some];refine nwb λw1 hk1 hB1 hs1=>nwb λw2 hv2 hB2 hs2=>nwb λw3 ht3 hB3 hs3=>?_;have B3:=(vi hB1 hB2 hB3).drew;have hk3:=((hk1.ext hB2).ext hB3).drew;have hv3:=(hv2.ext hB3).drew;have ht3:=ht3.drew;have h3:=h.ext B3;have z1:=hB1.size;have z2:=hB2.size;have z3:=hB3.size;have lt3:=ht3.lt;have e3:w3.drew.heap.size=w3.heap.size:=rfl;have gl:=h.blk.lt;have nE:∀{b:Nat},w.heap.size<=b->¬kw g F b:=λhb hk=>by have:=(h.below _ hk).2;omega
 have nLS:∀{b:Nat},w.heap.size<=b->¬F.LS b:=λhb hk=>nE hb (.inr (.inr (.inr hk)));have tys:qel qz:=by decide
 refine qx (r:=qb.rep) (x:=k) hk3.cells (lI (x:=E.quota) (h3.blk.cells 0 _ rfl) ?_);refine q8r (λhe w4 hB4=>?_) λhe lg gd w4 hld hB4=>?_
 ·refine cT (by simp;omega) (qx (r:=qb.rep) (x:=k) (hk3.ext hB4).cells ?_);have B4:=zq B3 hB4;refine Qj (hT.ext B4) hwk _ [] (by simp) λq w5 hq hB5 hqb=>?_;have ht5:=(ht3.ext hB4).ext hB5;have em:∀P,qam E k ts P v=(E,ZQ k ((qpt k E.quota:Nat):Int) []):=λP=>by unfold qam;rw [if_pos he]
  have z4:=hB4.size;refine zM (r:=qc.rep) (x:=⟨q,0,0,false⟩) ht5 rfl rfl λw6 hc6 hs6=>?_;refine hK ⟨none,0,0⟩ _ F w6 ?_ ?_ (λj hj=>⟨by have:=hqb j hj;omega,λhs=>by have:=(h.below _ hs).2;have:=hqb j hj;omega⟩) λj hj=>by cases hj
  ·rw [em];exact ⟨hq.chg hc6 λa ha e=>by have:=hqb a.block (slk.2 ⟨a,ha,rfl⟩);omega,rfl,rfl,rfl⟩
  ·rw [em];exact ((EngT.of_ext h (zq B4 hB5)).up (by omega)).other ht5 tys (nLS (by omega)) (by omega) hc6
 ·refine cF rfl ?_;have B4:=(zq B3 hB4).drew;have h4e:=h.ext B4;have hk4:=(hk3.ext hB4).drew;have hv4:=(hv3.ext hB4).drew;have ht4:=(ht3.ext hB4).drew;have z4:=hB4.size;have e4:w4.drew.heap.size=w4.heap.size:=rfl;refine qx (r:=qb.rep) (x:=k) hk4.cells ?_;show stK ⟨g,3,none⟩ _ _ _;refine qw h4e.blk (by rw [q3b];show (3+1:Nat)<=26;omega) λw7 hb7 hg7 hs7=>?_;have hc7:Chg (λi=>i=g) w4.drew w7:=Chg.of_grown hg7 λk hk=>by cases hk;rfl
  have hk7:=hk4.chg hc7 λe=>by omega
  refine ⟨hk7.cells,?_⟩;show stK ⟨g,4,none⟩ _ _ _;have e22:(qb.rep.cells k).length=22:=rfl
  let F1:KF:={ F with lg:=lg,gd:=gd,LS:=λi=>i=lg\/i=gd }
  have hb7':Blk w7 g zH (qp3 F1 { E with ld:=some (qsk E k,ld0) }):=by
   rw [ze5 F E lg gd (λi=>i=lg\/i=gd) (qsk E k,ld0)] at hb7;exact hb7
  refine qw hb7' (by rw [e22,q3b];omega) λw8 hb8 hg8 hs8=>?_;have hc8:Chg (λi=>i=g) w7 w8:=Chg.of_grown hg8 λk hk=>by cases hk;rfl
  have hb8':Blk w8 g zH (qp3 F1 (qsr E k)):=by
   rw [q6i] at hb8;exact hb8
  have hc:Chg (λi=>i=g) w4.drew w8:=hc7.trans hc8 λi _ hi=>hi;have hk8:=hk4.chg hc λe=>by omega
  have hv8:=hv4.chg hc λe=>by omega
  have ht8:=ht4.chg hc λe=>by omega
  have llt:∀j,(j=lg\/j=gd)->w3.heap.size<=j/\j<w4.heap.size:=λj hj=>by have:=hld.lt j hj;omega
  have hld8:LdA w8 base lg gd (qsk E k) ld0 (λi=>i=lg\/i=gd):=by
   have h1:LdA w4.drew w3.drew.heap.size lg gd (qsk E k) ld0 (λi=>i=lg\/i=gd):=hld.ext (kB w4);exact (h1.chg hc λj hj e=>by have:=llt j hj;omega).weak (by have:=h.hg;omega)
  have hq0:0<=E.quota:=by
   rcases Int.lt_or_le E.quota 0 with hlt | hge
   ·exfalso;unfold qpt at he;rw [if_pos (.inl hlt)] at he;cases he
   ·exact hge
  have hcf:CfgOk (qsk E k):=⟨by show qpt k ((E.quota.toNat:Nat):Int)=0;rw [show ((E.quota.toNat:Nat):Int)=E.quota by omega];exact he,rfl,by show E.quota.toNat<=100000;omega,hraw⟩;have old:∀{j:Nat},j<w.heap.size->¬(j=lg\/j=gd):=λhj e=>by have:=llt _ e;omega
  have h8:EngT base g w F F1 (qsr E k) n w8:=by
   refine ⟨⟨hb8',h.hg,h4e.st.keep hc (λe=>h.g_sg e.symm) (λe=>h.g_sr e.symm) (λp hp k hk e=>h4e.img_g hp hk e),h.ok,h.hs,h4e.tb.chg hc ?_,h.tl,(λC s h1=>?_),(λh1=>by cases h1),old gl,⟨old h.st.blk.lt,old h.st.map.lt⟩,(λj hj=>old (h.tb.lt j hj).2),λj hj=>?_⟩,?_,?_,λj hj=>.inr (by have:=llt j hj;omega)⟩
   ·rintro j (hj | hj) e
    ·exact h.g_tg (e.symm.trans hj)
    ·exact h.g_q j hj e
   ·cases h1;exact ⟨hld8,hcf⟩
   ·obtain ⟨p,hp,hb⟩:=hj;exact old ((h.st.img p hp).lt j hb).2
   ·rintro j (hj | hj | hj | hj)
    ·exact .inl (.inl hj)
    ·exact .inl (.inr (.inl hj))
    ·exact .inl (.inr (.inr (.inl hj)))
    ·exact .inr (by have:=llt j hj;omega)
   ·exact (Chg.of_ext (S:=kw g F) B4).trans hc λi _ hi=>.inl hi
  have ht8w:Rd qm w8 text ts:=by
   refine qfw (ht.ext B4) hc λhp a ha e=>?_;exact htg a.block (slk.2 ⟨a,ha,rfl⟩) (λh0=>by rw [h0] at hp;cases hp) (.inl e)
  refine qx (r:=qb.rep) (x:=k) hk8.cells (qx (r:=qh.rep) (x:=v) hv8.cells ?_);refine q9p h8.m hn (hT.stepK h h4 h8) h4 (C:=qsk E k) (s:=ld0) rfl rfl (by show qas ld0+_<=_;have:qas ld0=0:=rfl;omega) ht8w (λj hj hne hs=>?_) hwk hwk v λP r F9 w9 hr h9 hrb hPb=>?_
  ·obtain ⟨a,ha,hab⟩:=slk.1 hj;have:=q0y ht (List.length_pos_iff.2 hne) a ha;exact old (hab ▸ this) hs
  ·have z8:=h8.chg.size;have lt8:=ht8.lt;have n2:¬F1.LS w2.heap.size:=λhs=>by have:=llt _ hs;omega
   have ht9:=ht8.chg h9.chg (h8.m.not_in ht8 tys n2);refine zM (r:=qc.rep) (x:=r) ht9 rfl rfl λw10 hc10 hs10=>?_;have em:qam E k ts P v=VF (qsr E k) (qsk E k) ld0 k ts P v:=by
    unfold qam;rw [if_neg (λhh=>hh he)]
   refine hK P r F9 w10 ?_ ?_ (λj hj=>⟨by have:=(hrb j hj).1;omega,(hrb j hj).2⟩) λj hj=>by have:=hPb j hj;omega
   ·rw [em];exact ⟨hr.1.chg hc10 λa ha e=>by have:=(hrb a.block (slk.2 ⟨a,ha,rfl⟩)).1;omega,hr.2⟩
   ·rw [em];refine (h8.trans h9).other ht9 tys (λhs=>?_) (by omega) hc10;rcases h9.ls _ hs with h1 | h1
    ·exact n2 h1
    ·omega
end
def yw (c:UInt8) (l:List UInt8):List UInt8:=l.takeWhile λb=>b !=c
def X4 (c:UInt8) (l:List UInt8):List UInt8:=(l.dropWhile λb=>b !=c).drop 1
theorem zh2 (c:UInt8):∀l:List UInt8,(c∈l/\l=yw c l++c::X4 c l/\∀b∈yw c l,b≠c)\/((∀b∈l,b≠c)/\yw c l=l/\X4 c l=[])
 | []=>.inr ⟨by simp,rfl,rfl⟩
 | b::l=>by
  by_cases hb:b=c
  ·subst hb;left;simp [yw,X4]
  ·have e1:yw c (b::l)=b::yw c l:=by simp [yw,hb]
   have e2:X4 c (b::l)=X4 c l:=by simp [X4,hb]
   rw [e1,e2];rcases zh2 c l with ⟨h1,h2,h3⟩ | ⟨h1,h2,h3⟩
   ·left;refine ⟨by simp [h1],by rw [List.cons_append,<-h2],λx hx=>?_⟩;rcases List.mem_cons.1 hx with rfl | hx
    ·exact hb
    ·exact h3 x hx
   ·right;refine ⟨λx hx=>?_,by rw [h2],h3⟩;rcases List.mem_cons.1 hx with rfl | hx
    ·exact hb
    ·exact h1 x hx
theorem quu:∀(l:List UInt8) (c:UInt8),(∀b∈l,b≠c)->indexByte l c=-1
 | [],c,_=>by simp [indexByte]
 | b::x,c,h=>by
  have h1:=quu x c λb hb=>h b (by simp [hb]);have h2:b≠c:=h b (by simp);simp [indexByte,h2,h1]
theorem zah (c:UInt8) (l:List UInt8):(yw c l).length<=l.length:=List.Sublist.length_le (List.takeWhile_sublist _)
theorem qx1 (c:UInt8) (l:List UInt8):(X4 c l).length<=l.length:=by
 unfold X4;have:=List.Sublist.length_le (List.dropWhile_sublist (l:=l) (λb=>b !=c));rw [length_drop];omega
section
variable {w:World}
theorem qsp {s:Slc} {bs:List UInt8} (c:UInt8) {g o:Nat} (hs:Rd qm w s bs) (hsa:s.a=some ⟨g,o,none⟩) {sep:Slc} (hsep:Rd qm w sep [c]) (hl:bs.length<=1000000) {K:Int->Ub}
  (hK:K (indexByte bs c) w):qcb s sep w K:=by
 refine qp9 _ _ ?_;have hn:=hs.n;have hsn1:sep.n=1:=hsep.n;refine cF (by rw [hsn1];rfl) (cT (by rw [hsn1];rfl) ?_);refine hsep.ix (k:=1) rfl (by omega) (by rw [length_singleton];decide) λhcell=>?_;refine lI (x:=(c.toNat:Int)) (by simpa using hcell 0 _ rfl) ?_;have hc:Calls PG 358 #[.slice (some ⟨g,o,none⟩) s.n s.c,.int .u8 (c.toNat:Int)] w λe w'=>e=.returned (Ua (indexByte (Lib.bytesOf (bs.map λb=>(b.toNat:Int))) ((c.toNat:Int)).toNat.toUInt8))/\w'=w :=
  Tryz.bytes_IndexByte g o s.n s.c (bs.map λb=>(b.toNat:Int)) (c.toNat:Int) w (by simp;omega) (λi hi=>by
   have hil:i<bs.length:=by omega
   have:=hs.at_ i bs[i] (by simp [hil]) 0 (.int .u8 (bs[i].toNat:Int)) rfl;simp only [Slc.at_,hsa,getD_some,add_zero] at this;rw [q4,show i*qm.k=i from mul_one i] at this;rw [this,List.getD_eq_getElem?_getD,List.getElem?_map,List.getElem?_eq_getElem hil];rfl)
 have hbytes:Lib.bytesOf (bs.map λb=>(b.toNat:Int))=bs:=by
  unfold Lib.bytesOf;rw [List.map_map]
  conv=>rhs;rw [<-List.map_id bs]
  exact List.map_congr_left λb _=>by simp
 rw [hbytes,show ((c.toNat:Int)).toNat.toUInt8=c by simp] at hc;have he:s=⟨some ⟨g,o,none⟩,s.n,s.c⟩:=by cases s;cases hsa;rfl
 rw [he];refine Calls.mono hc ?_;rintro e w' ⟨rfl,rfl⟩;exact ⟨_,rfl,hK⟩
theorem zcn {s:Slc} {bs:List UInt8} (c:UInt8) {g o:Nat} (hs:Rd qm w s bs) (hsa:s.a=some ⟨g,o,none⟩) {sep:Slc} (hsep:Rd qm w sep [c]) (hl:bs.length<=1000000) {K:Slc->Slc->Bool->Ub}
  (hK:∀p q b w',Uc w w'->Rd qm w' p (yw c bs)->Rd qm w' q (X4 c bs)->p.a.isSome=true->K p q b w'):qkg s sep w K:=by
 refine qvf _ _ ?_;refine qsp c hs hsa hsep hl ?_;have hsn1:sep.n=1:=hsep.n;rcases zh2 c bs with ⟨h1,h2,h3⟩ | ⟨h1,h2,h3⟩
 ·have hix:indexByte bs c=(yw c bs).length:=by
   conv=>lhs;rw [h2]
   exact q2m _ _ _ h3
  have hlen:bs.length=(yw c bs).length+((X4 c bs).length+1):=by
   conv=>lhs;rw [h2]
   rw [length_append,length_cons]
  rw [hix];refine cT (by simp) ?_;refine hs.slK (E:=qm) (k:=1) (l:=0) (m:=(yw c bs).length) rfl (.inl ⟨rfl,rfl⟩) (.inr rfl) (by omega) (by omega) λhp=>?_;rw [hsn1,i64_in (by omega)];refine hs.slK (E:=qm) (k:=1) (l:=(yw c bs).length+1) (m:=bs.length) rfl (.inr (by simp)) (.inl ⟨rfl,rfl⟩) (by omega) (le_refl _) λhq=>?_;have e12:∀x y:List UInt8,bs=x++c::y->(bs.take x.length).drop 0=x/\(bs.take bs.length).drop (x.length+1)=y:=by
   intro x y h;rw [take_length,h];exact ⟨by simp,by simp⟩
  obtain ⟨e1,e2⟩:=e12 _ _ h2;rw [e1] at hp;rw [e2] at hq;have hcut:∀l m k,(cut s.a l m k).isSome=true:=λl m k=>by unfold cut;rw [hsa];split<;>rfl
  exact hK _ _ _ _ (kB w) hp.drew hq.drew (hcut _ _ _)
 ·rw [quu bs c h1];refine cF (by decide) ?_;refine hK _ _ _ _ (Below.refl _ w) (by rw [h2];exact hs) (by rw [h3];exact Rd.nil _ _) (by rw [hsa];rfl)
theorem qq6 {s:Slc} {bs:List UInt8} (hs:Rd qm w s bs) (hl:bs.length<=1000000) {K:Slc->Ub} (hK:∀q w',Rd qm w' q bs->(∀j,q.blk=some j->w.heap.size<=j)->Uc w w'->K q w'):QI s w K:=by
 cases ha:s.a with
 | some a=>exact q4e hs (by rw [ha];rfl) hl λq w' ho hB=>hK q w' ho.rd (λj hj=>(ho.lt j hj).1) hB
 | none =>
  refine qdu _ ?_;refine cT (by rw [ha];rfl) ?_;have hn:=hs.n;have hbs:bs=[]:=by
   cases bs with
   | nil=>rfl
   | cons b bs=>exact absurd (hs.some_ (by simp)) (by rw [ha];simp)
  subst hbs;exact hK _ _ (Rd.nil _ _) (λj hj=>by cases hj) (Below.refl _ w)
theorem q0p {s:Slc} {bs:List UInt8} {g o:Nat} (hs:Rd qm w s bs) (hsa:s.a=some ⟨g,o,none⟩) (hl:bs.length<=1000000) {K:Slc->Slc->Ub}
  (hK:∀p q w',Uc w w'->Rd qm w' p (yw 59 bs)->Rd qm w' q (X4 59 bs)->(∀j,p.blk=some j->w.heap.size<=j)->(∀j,q.blk=some j->w.heap.size<=j)->K p q w'):qe8 s w K:=by
 refine qsv _ ?_;refine q2k (bs:=[59]) rfl rfl (by decide) λsep w1 hsep _ hB1 hs1 _=>?_;refine zcn 59 (hs.ext hB1) hsa hsep hl λp q b w2 hB2 hp hq hpa=>?_;have B2:=zq hB1 hB2;refine qq6 hp (by have:=zah 59 bs;omega) λp2 w3 hp2 hpf hB3=>?_;have B3:=zq B2 hB3;refine qq6 (hq.ext hB3) (by have:=qx1 59 bs;omega) λq2 w4 hq2 hqf hB4=>?_;have z2:=B2.size;have z3:=B3.size;exact hK p2 q2 w4 (zq B3 hB4) (hp2.ext hB4) hq2 (λj hj=>by have:=hpf j hj;omega) (λj hj=>by have:=hqf j hj;omega)
end
def zbd (G:Value) (f:Int->Bool):Prop:=∀(w1:World) (id:Int) (K:Bool->Ub),K (f id) w1->jl C G [.int .i64 id] [Kind.bool] w1 K
theorem q55:zbd (.func (.func ZF) #[] #[]) λid=>decide (id>549755813888):=by
 intro w1 id K hK;have h:Jt id w1 K:=by
  refine qax _ ?_;exact hK
 refine Jj (by kernel_rfl) (Calls.mono h ?_);rintro e w' ⟨r,rfl,hk⟩;exact ⟨r,rfl,hk⟩
def qfn (T:List Pl) (f:Int->Bool) (S:St) (id:Int):St:=if f id && !(T.any λp=>p.Image==id) then S.drop id else S
def q6x (T:List Pl) (f:Int->Bool) (S:St) (ids:List Int):St:=ids.foldl (qfn T f) S
def kF (E:KE) (f:Int->Bool) (ids:List Int):KE:={ E with S:=q6x E.T f E.S ids }
theorem q19 (E:KE) (f:Int->Bool) (ids:List Int) (x:Int):kF E f (ids++[x])={ E with S:=qfn E.T f (kF E f ids).S x }:=by
 unfold kF q6x;rw [List.foldl_append];rfl
section
variable {w w':World} {base g n:Nat} {F F':KF} {E E':KE}
theorem EngT.drop1 (h:EngM w base g F E n) {id:Int} (hst:StM w' base F.sg F.sr (E.S.drop id)) (hc:Chg (onS F.sg F.sr) w w'):EngT base g w F F { E with S:=E.S.drop id } n w' :=
 EngT.store h hst (qbp h.ok id) (le_refl _) hc λk hk=>by
  obtain ⟨p,hp,hb⟩:=hk;exact .inl ⟨p,((Zb _ _ _).1 hp).2,hb⟩
theorem q46 (h:EngM w base g F E n) (hn:n<=100000) {ids:Slc} {L:List Int} (hr:Rd zw w ids L) (hne:∀a,ids.a=some a->¬onS F.sg F.sr a.block) {G:Value} {f:Int->Bool} (hG:zbd G f) {K:Ub}
  (hK:∀w',EngT base g w F F (kF E f L) n w'->K w'):yx (some ⟨g,0,none⟩) ids G w K:=by
 refine qef _ _ _ ?_;have hl:ids.n=L.length:=hr.n;have hlm:L.length<=9223372036854775807:=by rw [<-hl];exact le_trans hr.nc hr.cm
 refine lpR (λ(st:Int×Unit) w1=>∃k:Nat,st.1=(k:Int)/\k<=L.length/\EngT base g w F F (kF E f (L.take k)) n w1/\Rd zw w1 ids L) (λst=>L.length-st.1.toNat)
  ⟨0,rfl,zero_le _,EngT.refl h,hr⟩ ?_
 rintro ⟨i,u⟩ w1 ⟨k,hi,hk,h1,hr1⟩ I hI;dsimp only at hi ⊢;subst hi;refine cO (λe=>?_) λe=>?_
 ·have e:=oTq e;have hlt:k<L.length:=by omega
  obtain ⟨x,hx⟩:∃x,L[k]?=some x:=⟨_,List.getElem?_eq_getElem hlt⟩;have tk:L.take (k+1)=L.take k++[x]:=by rw [take_add_one,hx];rfl
  refine hr1.ix (E:=zw) (i:=(k:Int)) rfl (by omega) (by omega) λhc=>?_;have e1:L[(k:Int).toNat]'(by omega)=x:=(List.getElem?_eq_some_iff.1 (by simpa using hx)).2;rw [e1] at hc;refine lI (x:=x) (by simpa using hc 0 _ rfl) ?_;rw [qP (x:=(k:Int)+1) (by omega)];refine jpO λJ hJ=>?_;have nxt:∀w2,EngT base g w1 F F { (kF E f (L.take k)) with S:=qfn E.T f (kF E f (L.take k)).S x } n w2->Rd zw w2 ids L->I ((k:Int)+1,()) w2:=by
   intro w2 h2 hr2;refine hI _ _ ⟨k+1,by simp,by omega,?_,hr2⟩ (by dsimp only;omega);rw [tk,q19];exact h1.trans h2
  refine hG w1 x _ ?_;refine cO (λhf=>?_) λhf=>?_
  ·simp only [onPtr_some];refine qK (x:=some ⟨F.tg,0,none⟩) (h1.m.blk.cells 2 _ rfl) ?_;refine q63 h1.m.tb (le_trans h1.m.tl hn) x λw2 hB2=>hJ _ _ ?_;have eT:(kF E f (L.take k)).T=E.T:=rfl;rw [eT];have h2:=EngT.of_ext h1.m hB2;refine cO (λha=>?_) λha=>?_
   ·simp only [onPtr_some];refine qK (x:=some ⟨F.sg,0,none⟩) (h2.m.blk.cells 1 _ rfl) ?_;refine qqe h2.m.st h2.m.ok x λw3 hst hc3=>?_;refine nxt w3 ?_ (qfw (hr1.ext hB2) hc3 λ_ a ha=>hne a ha);have es:qfn E.T f (kF E f (L.take k)).S x=(kF E f (L.take k)).S.drop x:=by
     unfold qfn;dsimp only at ha;rw [hf,ha];rfl
    rw [es];exact h2.trans (EngT.drop1 h2.m hst hc3)
   ·refine nxt w2 ?_ (hr1.ext hB2);have es:qfn E.T f (kF E f (L.take k)).S x=(kF E f (L.take k)).S:=by
     unfold qfn;dsimp only at ha;rw [hf,ha];rfl
    rw [es];exact h2
  ·refine hJ _ _ (cF rfl (nxt w1 ?_ hr1));have es:qfn E.T f (kF E f (L.take k)).S x=(kF E f (L.take k)).S:=by
    unfold qfn;rw [hf];rfl
   rw [es];exact EngT.refl h1.m
 ·have e:=oFq e;have hkl:k=L.length:=by omega
  rw [hkl,take_length] at h1;exact hK w1 h1
theorem q41 (h:EngM w base g F E n) (hn:n<=100000) {l:Slc} {L:List Pl} {b:Nat} (hr:Go.Vc.Own qY w b l L) (hne:∀k,l.blk=some k->¬kw g F k) {K:Ub}
  (hK:∀w',EngT base g w F F (kF E (λid=>decide (id>549755813888)) (L.map (·.Image))) n w'->K w'):yJ (some ⟨g,0,none⟩) l w K:=by
 refine qdv _ _ ?_;have hl:l.n=L.length:=hr.rd.n;have hlm:L.length<=9223372036854775807:=by rw [<-hl];exact le_trans hr.rd.nc hr.rd.cm
 refine lpR (λ(st:Int×Unit) w1=>∃k:Nat,st.1=(k:Int)/\k<=L.length/\EngT base g w F F (kF E (λid=>decide (id>549755813888)) ((L.map (·.Image)).take k)) n w1/\Go.Vc.Own qY w1 b l L) (λst=>L.length-st.1.toNat)
  ⟨0,rfl,zero_le _,EngT.refl h,hr⟩ ?_
 rintro ⟨i,u⟩ w1 ⟨k,hi,hk,h1,hr1⟩ I hI;dsimp only at hi ⊢;subst hi;refine cO (λe=>?_) λe=>?_
 ·have e:=oTq e;have hlt:k<L.length:=by omega
  obtain ⟨p,hp⟩:∃p,L[k]?=some p:=⟨_,List.getElem?_eq_getElem hlt⟩;have tk:(L.map (·.Image)).take (k+1)=(L.map (·.Image)).take k++[p.Image]:=by rw [take_add_one,List.getElem?_map,hp];rfl
  refine hr1.rd.ix (E:=qY) (i:=(k:Int)) rfl (by omega) (by omega) λhx=>?_;have hx:qy w1 (l.at_ qY.k (k:Int).toNat) (qf.rep.cells p):=by
   simp only [toNat_natCast] at hx ⊢;have e1:L[k]'hlt=p:=(List.getElem?_eq_some_iff.1 hp).2;rw [e1] at hx;exact hx
  refine qx (r:=qf.rep) (x:=p) hx ?_;refine ko (vs:=qf.rep.cells p) rfl λw2 hb2 hB2 hs2=>?_;refine lI (x:=p.Image) (hb2.cells 0 _ rfl) ?_;refine nwb λw3 hb3 hB3 hs3=>?_;have B3:=zq hB2 hB3;have h3:=EngT.of_ext h1.m B3;refine q46 h3.m hn (yg (E:=zw) (y:=p.Image) hb3 rfl) (λa ha hs=>?_) q55 λw4 h4=>?_
  ·cases ha;have:=(h1.m.below w2.heap.size (.inr (.inl hs))).2;have:=hB2.size;omega
  ·have h14:=h3.trans h4;rw [qP (x:=(k:Int)+1) (by omega)];refine hI _ _ ⟨k+1,by simp,by omega,?_,?_⟩ (by dsimp only;omega)
   ·rw [tk];have e5:kF E (λid=>decide (id>549755813888)) ((L.map (·.Image)).take k++[p.Image])=kF (kF E (λid=>decide (id>549755813888)) ((L.map (·.Image)).take k)) (λid=>decide (id>549755813888)) [p.Image]:=by
     unfold kF q6x;rw [List.foldl_append]
    rw [e5];exact h1.trans h14
   ·exact (hr1.ext B3).chg h4.chg λj hj hs=>hne j hj hs
 ·have e:=oFq e;have hkl:k=L.length:=by omega
  rw [hkl,List.take_of_length_le (by rw [List.length_map];omega)] at h1;exact hK w1 h1
def zbw (E:KE) (alt:Bool) (first:Int):KE:=kF { E with T:=E.T.filter λp=>!qw4 alt first p } (λid=>decide (id>549755813888)) ((E.T.filter (qw4 alt first)).map (·.Image))
theorem za1 (h:EngM w base g F E n) {w1:World} {q':Slc} {r:Slc} {T:Type} {El':El T} {xs:List T} (hr:Go.Vc.Own El' w1 w.heap.size r xs) (hne:∀k,r.blk=some k->q'.blk≠some k):∀k,r.blk=some k->¬kw g { F with q:=q' } k:=by
 intro k hk hs;have hlt:=hr.lt k hk;have old:kw g F k->False:=λh3=>by
  have:=(h.below k h3).2;omega
 rcases hs with e | e | (e | e) | e
 ·exact old (.inl e)
 ·exact old (.inr (.inl e))
 ·exact old (.inr (.inr (.inl (.inl e))))
 ·exact hne k hk e
 ·exact old (.inr (.inr (.inr e)))
theorem qnz (h:EngM w base g F E n) (hn:n<=100000) (alt:Bool) (first:Int) {K:Ub} (hK:∀F' w',EngT base g w F F' (zbw E alt first) n w'->K w'):k9 (some ⟨g,0,none⟩) alt first w K:=by
 refine qds _ _ _ ?_;simp only [onPtr_some];refine qK (x:=some ⟨F.tg,0,none⟩) (h.blk.cells 2 _ rfl) ?_;refine qy8 h.tb (le_trans h.tl hn) (le_trans h.hg (Nat.le_of_lt h.blk.lt)) alt first λr q' w1 hr ht hq hne hc=>?_;have h1:=EngT.tab h ht hq hc (le_trans (List.length_filter_le _ _) h.tl);refine q41 h1.m hn hr (λk hk hs=>?_) λw2 h2=>hK _ w2 (h1.trans h2);exact za1 h hr hne k hk hs
end
open Classical in
noncomputable def zaj (S:St) (n:Int):Int×Bool:=if h:∃r:Int×Bool,qcq S.L n r.1 r.2 then h.choose else (0,false)
theorem zfe {m:Nat} {S:St} (hk:StOk m S) {n b:Int} {ok:Bool} (h:qcq S.L n b ok):zaj S n=(b,ok):=by
 have hx:∃r:Int×Bool,qcq S.L n r.1 r.2:=⟨(b,ok),h⟩;unfold zaj;rw [dif_pos hx];obtain ⟨h1,h2⟩:=qcq.one hk hx.choose_spec h;exact Prod.ext h1 h2
noncomputable def j7 (S:St) (k:qb):Int×Bool:=if k.Id=0 then zaj S k.Number else (k.Id,(zp S.L k.Id).isSome)
noncomputable def qdi (E:KE) (k:qb) (v:qh):KE×KR :=
 if (j7 E.S k).2=false then (E,ZQ k 7 [])
 else if (zZ E { k with Id:=(j7 E.S k).1 } (j7 E.S k).1 v).2.2 then
  ({ (zZ E { k with Id:=(j7 E.S k).1 } (j7 E.S k).1 v).1 with S:=(zZ E { k with Id:=(j7 E.S k).1 } (j7 E.S k).1 v).1.S.use (j7 E.S k).1 },(zZ E { k with Id:=(j7 E.S k).1 } (j7 E.S k).1 v).2.1)
 else ((zZ E { k with Id:=(j7 E.S k).1 } (j7 E.S k).1 v).1,(zZ E { k with Id:=(j7 E.S k).1 } (j7 E.S k).1 v).2.1)
section
variable {w w':World} {base g n:Nat} {F F':KF} {E E':KE}
theorem zb6 {m:Nat} {S:St} (hk:StOk m S) (hm:m<=1000) {n b:Int} {ok:Bool} (h:qcq S.L n b ok):-9223372036854775808<=b/\b<=9223372036854775807:=by
 rcases h with ⟨_,rfl,_⟩ | ⟨_,x,hx,_⟩
 ·omega
 ·have:=hk.keys _ hx;dsimp only at this;omega
theorem q5o (h:EngM w base g F E n) (hn:n<=1000) (k:qb) (hwk:VX (toL k)) {K:Int->Bool->Ub}
  (hK:∀w',Uc w w'->(-9223372036854775808<=(j7 E.S k).1/\(j7 E.S k).1<=9223372036854775807)->K (j7 E.S k).1 (j7 E.S k).2 w'):yU (some ⟨g,0,none⟩) k w K:=by
 refine qc4 _ _ ?_;simp only [onPtr_some];refine nwb λw1 hk1 hB1 hs1=>?_;have h1:=(h.ext hB1).drew;have hk1d:=hk1.drew;have B1:=hB1.drew;unfold j7 at hK;refine lI (x:=k.Id) (hk1.cells 8 _ rfl) (cO (λe=>?_) λe=>?_)
 ·rw [if_pos (eq_of_beq e)] at hK;refine qK (x:=some ⟨F.sg,0,none⟩) (h1.blk.cells 1 _ rfl) (lI (x:=k.Number) (hk1d.cells 9 _ rfl) ?_);refine q3y h1.st h.ok k.Number λb ok w2 hN hB2=>?_;rw [zfe h.ok hN] at hK;exact hK w2 (zq B1 hB2) (zb6 h.ok hn hN)
 ·rw [if_neg (beq_eq_false_iff_ne.1 e)] at hK;have hid:-9223372036854775808<=k.Id/\k.Id<=9223372036854775807:=hwk 8;refine qK (x:=some ⟨F.sg,0,none⟩) (h1.blk.cells 1 _ rfl) (lI (x:=k.Id) (hk1d.cells 8 _ rfl) ⟨?_,?_⟩)
  ·refine qoa h1.st k.Id λw2 hB2=>?_;refine nwb λw3 hx3 hB3 hs3=>?_;have hk3:=(hk1d.ext hB2).ext hB3;have h3:=(h1.ext hB2).ext hB3;refine ⟨hk3.cells 8 _ rfl,h3.blk.cells 1 _ rfl,?_⟩;refine qw hx3 (le_refl _) λw4 hx4 hg4 hs4=>?_;have hc4:Chg (λi=>i=w2.heap.size) w3 w4:=Chg.of_grown hg4 λk hk=>by cases hk;rfl
   have z2:=hB2.size;have lk:=hk1d.lt;have z1:w.heap.size<=w1.drew.heap.size:=B1.size;refine lI (x:=k.Id) ((hk3.chg hc4 λe=>by omega).cells 8 _ rfl) ?_;exact hK w4 (b1o (vi B1 hB2 hB3) hc4 (by omega)) hid
  ·refine nwb λw2 hx2 hB2 hs2=>?_;have hk2:=hk1d.ext hB2;have h2:=h1.ext hB2;refine ⟨hk2.cells 8 _ rfl,h2.blk.cells 1 _ rfl,?_⟩;refine qoa h2.st k.Id λw3 hB3=>?_;refine qw (hx2.ext hB3) (le_refl _) λw4 hx4 hg4 hs4=>?_;have hc4:Chg (λi=>i=w1.drew.heap.size) w3 w4:=Chg.of_grown hg4 λk hk=>by cases hk;rfl
   have lk:=hk1d.lt;have z1:w.heap.size<=w1.drew.heap.size:=B1.size;refine lI (x:=k.Id) (((hk2.ext hB3).chg hc4 λe=>by omega).cells 8 _ rfl) ?_;exact hK w4 (b1o (vi B1 hB2 hB3) hc4 (by omega)) hid
theorem q8d {m:Nat} {S:St} (hk:StOk m S) (id:Int):∀k,vX (S.use id) k->vX S k:=by
 rintro k ⟨p,hp,hb⟩;unfold St.use at hp;split at hp
 ·rename_i x hx;obtain ⟨a,b⟩:=p;rcases (zB hk.srt _ _ a b).1 hp with ⟨rfl,rfl⟩ | ⟨_,hp'⟩
  ·exact ⟨(a,x),(zG hk.srt).1 hx,hb⟩
  ·exact ⟨(a,b),hp',hb⟩
 ·exact ⟨p,hp,hb⟩
theorem zas (h:EngM w base g F E n) (hn:n<=900) (hT:Tab w) (h4:4<=base) {k:qb} (hwk:VX (toL k)) (v:qh) {K:qc->Ub}
  (hK:∀r F' w',qib w' r (qdi E k v).2->EngT base g w F F' (qdi E k v).1 (n+2) w'->(∀j,r.Reply.blk=some j->w.heap.size<=j/\¬kw g F' j)->K r w'):Q1 (some ⟨g,0,none⟩) k v w K:=by
 refine qgq _ _ _ ?_;simp only [onPtr_some];refine nwb λw1 hk1 hB1 hs1=>nwb λw2 hv2 hB2 hs2=>nwb λw3 ht3 hB3 hs3=>?_;have B3:=vi hB1 hB2 hB3;have hk3:=(hk1.ext hB2).ext hB3;have hv3:=hv2.ext hB3;have h3:=h.ext B3;have nE:∀{b:Nat},w.heap.size<=b->¬kw g F b:=λhb hk=>by have:=(h.below _ hk).2;omega
 have nLS:∀{b:Nat},w.heap.size<=b->¬F.LS b:=λhb hk=>nE hb (.inr (.inr (.inr hk)));have tys:qel qz:=by decide
 have z1:=hB1.size;have z2:=hB2.size;have z3:=hB3.size;have lt3:=ht3.lt;refine qx (r:=qb.rep) (x:=k) hk3.cells ?_;refine q5o h3 (by omega) k hwk λw4 hB4 hid=>?_;unfold qdi at hK;generalize (j7 E.S k).1=id at *;generalize (j7 E.S k).2=is_ at *;have B4:=zq B3 hB4;have hk4:=hk3.ext hB4;have hv4:=hv3.ext hB4;have ht4:=ht3.ext hB4;have z4:=hB4.size;cases is_
 ·simp only [if_true] at hK;refine cT rfl (qx (r:=qb.rep) (x:=k) hk4.cells ?_);refine Qj (hT.ext B4) hwk 7 [] (by simp) λq w5 hq hB5 hqb=>?_;have ht5:=ht4.ext hB5;refine zM (r:=qc.rep) (x:=⟨q,0,0,false⟩) ht5 rfl rfl λw6 hc6 hs6=>?_;exact hK _ F w6 ⟨hq.chg hc6 λa ha e=>by have:=hqb a.block (slk.2 ⟨a,ha,rfl⟩);omega,rfl,rfl,rfl⟩ (((EngT.of_ext h (zq B4 hB5)).up (by omega)).other ht5 tys (nLS (by omega)) (by omega) hc6) (λj hj=>⟨by have:=hqb j hj;omega,λhs=>by have:=(h.below _ hs).2;have:=hqb j hj;omega⟩)
 ·rw [if_neg (by decide)] at hK;refine cF rfl ?_;show stK ⟨w.heap.size,8,none⟩ _ _ _;refine qw hk4 (by show (8+1:Nat)<=22;omega) λw5 hk5 hg5 hs5=>?_;have hc5:Chg (λi=>i=w.heap.size) w4 w5:=Chg.of_grown hg5 λk hk=>by cases hk;rfl
  have hk5:Blk w5 w.heap.size qM (qb.rep.cells { k with Id:=id }):=hk5;have B5:=b1o B4 hc5 (le_refl _);have hv5:=hv4.chg hc5 λe=>by omega
  have ht5:=ht4.chg hc5 λe=>by omega
  have h5:=EngT.of_ext h B5;have lv5:=hv5.lt;have lt5:=ht5.lt;refine qx (r:=qb.rep) (x:={ k with Id:=id }) hk5.cells (qx (r:=qh.rep) (x:=v) hv5.cells ?_);refine qvd h5.m (by omega) (hT.ext B5) h4 (q7w hwk hid) id v λr F6 w6 hr6 h6 hrb=>?_;generalize zZ E { k with Id:=id } id v=R at *;obtain ⟨E6,R6,ok⟩:=R;dsimp only at hr6 h6 hK ⊢;have hE6:=h5.trans h6;have ht6:=ht5.chg h6.chg (nE (by omega));refine ko (vs:=qc.rep.cells r) rfl λw8 ho8 hB8 hs8=>?_;have h8:=hE6.ext hB8;have ht8:=ht6.ext hB8;have hr8:=hr6.ext hB8;have z5:=B5.size;have z8:=hB8.size;have z6:=h6.chg.size;have nF6:∀{b:Nat},w.heap.size<=b->b<w5.heap.size->¬F6.LS b:=λh1 h2 hs=>by
   rcases h6.ls _ hs with h7 | h7
   ·exact nLS h1 h7
   ·omega
  cases ok
  ·rw [if_neg (by decide)] at hK;refine cF rfl (qx (r:=qc.rep) (x:=r) ho8.cells ?_);refine zM (r:=qc.rep) (x:=r) ht8 rfl rfl λw9 hc9 hs9=>?_;exact hK r F6 w9 ⟨hr8.1.chg hc9 λa ha e=>by have:=(hrb a.block (slk.2 ⟨a,ha,rfl⟩)).1;omega,hr8.2⟩ ((h8.up (by omega)).other ht8 tys (nF6 (by omega) (by omega)) (by omega) hc9) (λj hj=>⟨by have:=(hrb j hj).1;omega,(hrb j hj).2⟩)
  ·rw [if_pos rfl] at hK;refine cT rfl (qK (x:=some ⟨F6.sg,0,none⟩) (h8.m.blk.cells 1 _ rfl) ?_);refine zbo h8.m.st h8.m.ok (by omega) id λw9 hst hc9=>?_;have h9:=h8.trans (EngT.store h8.m hst (zgm h8.m.ok id) (by omega) hc9 λj hj=>.inl (q8d h8.m.ok id j hj));have nS:∀{b:Nat} {t:TypeId} {vs:List Value},Blk w8 b t vs->t≠zD->¬onS F6.sg F6.sr b:=λhb ht hs=>by
    rcases hs with e | e
    ·exact hb.ne_t h8.m.st.blk ht e
    ·exact h8.m.st.map.ne_blk hb e.symm
   have ho9:=ho8.chg hc9 (nS ho8 (by decide));have ht9:=ht8.chg hc9 (nS ht8 (by decide));have z9:=hc9.size;refine qx (r:=qc.rep) (x:=r) ho9.cells ?_;refine zM (r:=qc.rep) (x:=r) ht9 rfl rfl λw10 hc10 hs10=>?_;refine hK r F6 w10 ⟨?_,hr8.2⟩ (h9.other ht9 tys (nF6 (by omega) (by omega)) (by omega) hc10) (λj hj=>⟨by have:=(hrb j hj).1;omega,(hrb j hj).2⟩);have hr9:Rd qm w9 r.Reply R6.reply:=hr8.1.chg hc9 λa ha hs=>?_
   ·exact hr9.chg hc10 λa ha e=>by have:=(hrb a.block (slk.2 ⟨a,ha,rfl⟩)).1;omega
   ·exact (hrb a.block (slk.2 ⟨a,ha,rfl⟩)).2 (.inr (.inl hs))
end
def Sml (L:List Int):Prop:=∀x∈L,-4294967296<=x/\x<=4294967295
theorem Sml.set {L:List Int} (h:Sml L) (j:Nat) {x:Int} (hx:-4294967296<=x/\x<=4294967295):Sml (L.set j x):=λy hy=>by
 rcases List.mem_or_eq_of_mem_set hy with h1 | rfl
 ·exact h y h1
 ·exact hx
theorem zcr {v:List UInt8} {n:Nat} (h:KK v=some n):n<=4294967295:=by
 unfold KK at h;split at h
 ·cases h
 ·obtain ⟨m,_,h2⟩:=Option.bind_eq_some_iff.1 h;split at h2
  ·cases h2;assumption
  ·cases h2
theorem q8j {v:List UInt8} {m:Int} (h:qis v=some m):-4294967296<=m/\m<=4294967295:=by
 have key:∀x:Int,zaz x=true->-4294967296<=x/\x<=4294967295:=λx hx=>by
  unfold zaz at hx;simp only [Bool.and_eq_true,decide_eq_true_eq] at hx;omega
 unfold qis at h;split at h
 all_goals
  obtain ⟨n,_,h2⟩:=Option.bind_eq_some_iff.1 h;split at h2
  ·rename_i hnear;injection h2 with h2
   rw [<-h2];exact key _ hnear
  ·cases h2
theorem zc1 {k k':List Int} {s:List UInt8} (hk:Sml k/\k.length=22) (h:qlg k s=some k'):Sml k'/\k'.length=22:=by
 have st:∀(j:Nat) {x:Int},(-4294967296<=x/\x<=4294967295)->Sml (k.set j x)/\(k.set j x).length=22:=λj x hx=>⟨hk.1.set j hx,by rw [List.length_set];exact hk.2⟩;unfold qlg at h;split at h
 ·split at h
  ·cases h
  ·split at h
   ·obtain ⟨m,hm,rfl⟩:=Option.map_eq_some_iff.1 h;exact st _ (q8j hm)
   ·split at h
    ·rename_i j _;unfold q6f at h;split at h
     ·rename_i b;split at h
      ·cases h;have:=b.toNat_lt;exact st _ (by omega)
      ·cases h
     ·cases h
    ·split at h
     ·obtain ⟨m,hm,rfl⟩:=Option.map_eq_some_iff.1 h;obtain ⟨a,ha,hb⟩:=Option.bind_eq_some_iff.1 hm;have:=zcr ha;injection hb with hb
      exact st _ (by omega)
     ·cases h;exact hk
 ·cases h
theorem q2a:∀(l:List (List UInt8)) (k k':List Int),(Sml k/\k.length=22)->l.foldlM qlg k=some k'->Sml k'/\k'.length=22
 | [],k,k',hk,h=>by
  cases h;exact hk
 | s::l,k,k',hk,h=>by
  rw [List.foldlM_cons] at h;obtain ⟨k1,h1,h2⟩:=Option.bind_eq_some_iff.1 h;exact q2a l k1 k' (zc1 hk h1) h2
theorem qyh:Sml Qy/\Qy.length=22:=by
 refine ⟨?_,rfl⟩;intro x hx;simp [Qy] at hx;omega
theorem q8w (b:List UInt8):Sml (y4 b).1/\(y4 b).1.length=22:=by
 have hz:Sml Ys/\Ys.length=22:=by
  refine ⟨λx hx=>?_,rfl⟩;unfold Ys at hx;have:=List.eq_of_mem_replicate hx;omega
 unfold y4;split
 ·exact hz
 ·split
  ·exact qyh
  ·split
   ·rename_i k hk;exact q2a _ _ _ qyh hk
   ·exact hz
theorem qfq (b:List UInt8):VX (toL (ofL (y4 b).1)):=by
 obtain ⟨h1,h2⟩:=q8w b;rw [zbf h2];intro i;cases hx:(y4 b).1[i]? with
 | none=>simp
 | some x =>
  have:=h1 x (List.mem_of_getElem? hx);simp only [getD_some];omega
noncomputable def goK (E:KE) (k:qb) (ts:List UInt8) (P:Slc) (v:qh):KE×KR :=
 if k.Action=112 then qdi E k v else qam E k ts P v
def kO (c:List UInt8):qb:=ofL (y4 (yw 59 c)).1
structure CmdOk (r:List UInt8):Prop where
 ok:(y4 (yw 59 r)).2=0
 raw:(kO r).Format≠100/\(kO r).Zip≠122
 act:(kO r).Action=116\/(kO r).Action=84\/(kO r).Action=113\/(kO r).Action=112
noncomputable def doK (E:KE) (r:List UInt8) (P:Slc) (v:qh):KE×KR:=goK E (kO r) (X4 59 r) P v
section
variable {w w':World} {base g n:Nat} {F F':KF} {E E':KE}
theorem ze0 {s:Slc} {b:UInt8} {r:List UInt8} (h:Rd qm w s (b::r)) {a:Addr} (ha:s.a=some a):a.spot=none:=by
 have h1:=h.at_ 0 b rfl 0 (.int .u8 (b.toNat:Int)) rfl;have e:((s.at_ qm.k 0).add 0).spot=a.spot:=by
  unfold Slc.at_;rw [ha];rfl
 cases hs:a.spot with
 | none=>rfl
 | some x =>
  exfalso;unfold World.cell? at h1;rw [e,hs] at h1;split at h1
  ·cases h1
  ·cases h1
theorem zf1 (h:EngM w base g F E n) (hn:n<=900) (hT:Tab w) (h4:4<=base) (hq:E.quota<=100000) {c:Slc} {bs:List UInt8} (hbs:bs.length<=39999) (hc:Rd qm w c (71::bs))
  (hl:E.ld=none) (hok:CmdOk bs) (v:qh) {K:qc->Ub}
  (hK:∀P r F' w',qib w' r (doK E bs P v).2->EngT base g w F F' (doK E bs P v).1 (n+2) w'->(∀j,r.Reply.blk=some j->w.heap.size<=j/\¬kw g F' j)->(∀j,P.blk=some j->w.heap.size<=j)->K r w'):xx (some ⟨g,0,none⟩) c v w K:=by
 refine qjy _ _ _ ?_;refine nwb λw1 hv1 hB1 hs1=>nwb λw2 ht2 hB2 hs2=>?_;have B2:=zq hB1 hB2;have hv2:=hv1.ext hB2;have z1:=hB1.size;have z2:=hB2.size;have lt2:=ht2.lt;have lv2:=hv2.lt;have nE:∀{b:Nat},w.heap.size<=b->¬kw g F b:=λhb hk=>by have:=(h.below _ hk).2;omega
 have nLS:∀{b:Nat},w.heap.size<=b->¬F.LS b:=λhb hk=>nE hb (.inr (.inr (.inr hk)));have tys:qel qz:=by decide
 have fin:∀(P:Slc) (r:qc) (R:KR) (F':KF) (E':KE) (wz:World) (vs:List Value),vs.length=4->Blk wz w1.heap.size qz vs->EngT base g w F F' E' (n+2) wz->qib wz r R->¬F'.LS w1.heap.size ->
   (∀j,r.Reply.blk=some j->w1.heap.size<j/\¬kw g F' j)->(∀j,P.blk=some j->w.heap.size<=j)->doK E bs P v=(E',R)->stK ⟨w1.heap.size,0,none⟩ (qc.rep.cells r) wz λw12=>ldS qc.rep ⟨w1.heap.size,0,none⟩ w12 λr_1=>K r_1 w12:=by
  intro P r R F' E' wz vs hvs hb hE hr hls hf hPb hd;refine zM (r:=qc.rep) (x:=r) hb rfl (by rw [hvs];rfl) λw9 hc9 hs9=>?_;refine hK P r F' w9 ?_ ?_ (λj hj=>⟨by have:=(hf j hj).1;omega,(hf j hj).2⟩) hPb
  ·rw [hd];exact ⟨hr.1.chg hc9 λa ha e=>by have:=(hf a.block (slk.2 ⟨a,ha,rfl⟩)).1;omega,hr.2⟩
  ·rw [hd];exact hE.other hb tys hls (by omega) hc9
 have hcn:=hc.n;have hc2:=hc.ext B2;have h2:EngT base g w F F E (n+2) w2:=(EngT.of_ext h B2).up (by omega);refine jpO λJ1 hJ1=>?_;rw [length_cons] at hcn;refine cF (by rw [hcn];simp;omega) ?_;refine hc2.ix (E:=qm) (i:=0) rfl (by decide) (by simp) λhcell=>?_;refine lI (x:=((71:UInt8).toNat:Int)) (by simpa using hcell 0 _ rfl) ?_;refine cF rfl (hJ1 _ _ ?_);refine hc2.slK (E:=qm) (k:=1) (l:=1) (m:=bs.length+1) rfl (.inr rfl) (.inl ⟨rfl,by rw [length_cons]⟩) (by omega) (by rw [length_cons];omega) λhc3=>?_;have er:((71::bs).take (bs.length+1)).drop 1=bs:=by simp
 rw [er] at hc3;obtain ⟨a,ha⟩:∃a,c.a=some a:=Option.isSome_iff_exists.1 (hc.some_ (by simp));have hsp:=ze0 hc ha;have hca3:∃o,cut c.a 1 c.c qm.k=some ⟨a.block,o,none⟩:=by
  rw [ha];obtain ⟨ab,ao,asp⟩:=a;dsimp only at hsp;subst hsp;unfold cut;split
  ·exact ⟨_,rfl⟩
  ·exact ⟨_,rfl⟩
 obtain ⟨o,ho⟩:=hca3;refine q0p hc3 (g:=a.block) (o:=o) ho (by omega) λp q w4 hB4 hp hq4 hpf hqf=>?_;refine q6z hp λw5 hB5=>?_;have hwk:VX (toL (kO bs)):=qfq (yw 59 bs);have hdo:∀P,doK E bs P v=goK E (kO bs) (X4 59 bs) P v:=λP=>rfl;have htl:=qx1 59 bs;have hts:(X4 59 bs).length<=40000:=by omega
 obtain ⟨hx,hraw,hact⟩:=hok;rw [hx];have ek:ofL (y4 (yw 59 bs)).1=kO bs:=rfl;rw [ek];generalize kO bs=k at *;generalize X4 59 bs=ts at *;refine ko (vs:=qb.rep.cells k) rfl λw7 hk7 hB7 hs7=>?_;have B27:Uc w2 w7:=vi hB4 hB5 hB7;have B7:=zq B2 B27;have hv7:=hv2.ext B27;have ht7:=ht2.ext B27;have h7:=EngT.of_ext h B7;have hq7:=(hq4.ext hB5).ext hB7;have z4:=hB4.size;have z5:=hB5.size;have z7:=hB7.size;have z27:=B27.size;refine cF rfl (jpO λJ2 hJ2=>?_);have qe:∀j,q.blk=some j->¬kw g F j:=λj hj=>nE (by have:=hqf j hj;omega);simp only [onPtr_some];have h7m:=h7.m;refine qK (x:=none) (by have:=h7m.blk.cells 3 _ rfl;rw [hl] at this;exact this) (cF rfl (hJ2 _ _ ?_));have hTz:=hT.stepK h h4 h7;have nl1:∀j,¬F.LS j:=h7m.nl hl;have nF:∀{F2:KF} {E2:KE} {w2':World},EngT base g w7 F F2 E2 (n+2) w2'->¬F2.LS w1.heap.size:=λhT hs=>by
  rcases hT.ls _ hs with h3 | h3
  ·exact nl1 _ h3
  ·omega
 have keep:∀{F2:KF} {E2:KE} {w2':World} {m:Nat},EngT base g w7 F F2 E2 m w2'->Blk w2' w1.heap.size qz [(.slice none 0 0),(Ua 0),(Ua 0),(.bool false)]:=λhT=>ht7.chg hT.chg (h7m.not_in ht7 tys (nl1 _));refine jpO λJ3 hJ3=>?_;refine lI (x:=k.Action) (hk7.cells 0 _ rfl) ?_;refine jpO λJ4 hJ4=>?_;have j4:k.Action≠112->J4 () w7:=by
  intro hw;refine hJ4 _ _ (qx (r:=qb.rep) (x:=k) hk7.cells (qx (r:=qh.rep) (x:=v) hv7.cells ?_));refine q5h h7m hn hTz h4 hl hq hts hq7 (λj hj hne=>qe j hj) hwk hraw v λP r2 F9 w9 hr9 h9 hrb hPb=>?_;refine fin P r2 _ F9 _ w9 _ rfl (keep h9) (h7.trans h9) hr9 (nF h9) (λj hj=>⟨by have:=(hrb j hj).1;omega,(hrb j hj).2⟩) (λj hj=>by have:=hPb j hj;omega) ?_;rw [hdo];unfold goK;rw [if_neg hw]
 refine cO (λe=>j4 (by have:=eq_of_beq e;omega)) λe=>?_;have n1:=beq_eq_false_iff_ne.1 e;refine cO (λe=>j4 (by have:=eq_of_beq e;omega)) λe=>?_;have n2:=beq_eq_false_iff_ne.1 e;refine cO (λe=>j4 (by have:=eq_of_beq e;omega)) λe=>?_;have n3:=beq_eq_false_iff_ne.1 e;have hp2:k.Action=112:=by omega
 refine cT (by rw [hp2];rfl) ?_;refine qx (r:=qb.rep) (x:=k) hk7.cells (qx (r:=qh.rep) (x:=v) hv7.cells ?_);refine zas h7m hn hTz h4 hwk v λr2 F9 w9 hr9 h9 hrb=>?_;refine fin ⟨none,0,0⟩ r2 _ F9 _ w9 _ rfl (keep h9) (h7.trans h9) hr9 (nF h9) (λj hj=>⟨by have:=(hrb j hj).1;omega,(hrb j hj).2⟩) (λj hj=>by cases hj) ?_;rw [hdo];unfold goK;rw [if_pos hp2]
end
def zib:qb:=⟨0,0,0,0,0,0,0,0,0,0,0,0,0,0,0,0,0,0,0,0,0,0⟩
def zgq (q:Int):KE:=⟨q,⟨q,0,0,0,[]⟩,[],none,zib⟩
section
variable {w w':World} {base g n:Nat} {F F':KF} {E E':KE}
theorem q9s {q:Int} {K:Option Addr->Int->Ub} (hE:Vl q=1->K none 1 w)
  (hK:Vl q=0->∀g F w',w.heap.size<=g->EngM w' w.heap.size g F (zgq q) 0->Uc w w'->K (some ⟨g,0,none⟩) 0 w'):qjo q w K:=by
 refine qu2 _ ?_;refine q4r (base:=w.heap.size) (λh=>cT rfl (hE h)) λsg sr w1 he hsg hsr hst hB1=>?_;refine cF rfl ?_;refine qvb ?_;unfold qph;refine nwb λw2 ht2 hB2 hs2=>?_;refine nwb λw3 hg3 hB3 hs3=>?_;have B3:=vi hB1 hB2 hB3;have z1:=hB1.size;have z2:=hB2.size;have z3:=hB3.size;refine hK he w2.heap.size ⟨sg,sr,w1.heap.size,⟨none,0,0⟩,0,0,λ_=>False⟩ w3 (by omega) ⟨hg3,by omega,(hst.ext hB2).ext hB3,zhc he,⟨hsg,hsr⟩,⟨ht2.ext hB3,by omega,Go.Vc.Own.nil _ _ _⟩,le_refl _,(λC s h=>by cases h),(λ_ k h=>h),(λh=>h),⟨λh=>h,λh=>h⟩,(λk _ h=>h),λk _ h=>h⟩ B3
theorem qzd (h:EngM w base g F E n) {K:Option Addr->Ub} (hK:∀g' r' w',w.heap.size<=g'->w.heap.size<=r'->StM w' base g' r' E.S->Uc w w'->K (some ⟨g',0,none⟩) w'):y7 (some ⟨g,0,none⟩) w K:=by
 refine qdj _ ?_;simp only [onPtr_some];exact qK (x:=some ⟨F.sg,0,none⟩) (h.blk.cells 1 _ rfl) (zai h.st hK)
theorem qwd (h:EngM w base g F E n) (hn:n<=100000) {K:Option Addr->Ub} (hK:∀g' q' w',PlTM w' w.heap.size g' q' E.T->Uc w w'->K (some ⟨g',0,none⟩) w'):yf (some ⟨g,0,none⟩) w K:=by
 refine qcv _ ?_;simp only [onPtr_some];refine qK (x:=some ⟨F.tg,0,none⟩) (h.blk.cells 2 _ rfl) ?_;refine qh2 _ ?_;simp only [onPtr_some];refine lSl (x:=F.q) (h.tb.blk.cells 0 _ rfl) ?_;refine qpp h.tb.own.rd (le_trans h.tl hn) λr w1 hr hB1=>?_;refine nwb λw2 hb hB2 hs2=>?_;exact hK _ r w2 ⟨hb,hB1.size,hr.ext hB2⟩ (zq hB1 hB2)
end
section
variable {w w':World} {base g n:Nat} {F F':KF} {E E':KE}
def q1b (b:UInt8):Value:=.int .u8 (b.toNat:Int)
def q3h (w:World) (g:Nat) (bs:List UInt8):Prop:=w.heap[g]?=some (.cells (bs.map q1b).toArray qN (bs.length,bs.length+1))
theorem q3h.lt {bs:List UInt8} (h:q3h w g bs):g<w.heap.size:=(Array.getElem?_eq_some_iff.1 h).1
theorem q3h.cell {bs:List UInt8} (h:q3h w g bs) {j:Nat} {b:UInt8} (hb:bs[j]?=some b):w.cell? ⟨g,j,none⟩=some (q1b b):=by
 unfold q3h at h;simp [World.cell?,h,hb]
theorem q3h.rd {bs:List UInt8} (h:q3h w g bs) (hl:bs.length<=1000000):Rd qm w ⟨some ⟨g,0,none⟩,bs.length,bs.length⟩ bs:=by
 refine ⟨rfl,le_refl _,by show bs.length<=maxLen;simp only [maxLen];omega,λ_=>rfl,λi x hx j v hv=>?_⟩;have hj:j=0:=by
  have:=(List.getElem?_eq_some_iff.1 hv).1;simp [qm] at this;exact this
 subst hj;have e:v=q1b x:=by simpa [qm,q1b] using hv.symm
 rw [e];show w.cell? (((⟨g,0,none⟩:Addr).add (i*qm.k)).add 0)=_;rw [add_zero,q4,zero_add,show i*qm.k=i from mul_one i];exact h.cell hx
def Cmd (w:World) (base:Nat) (c:Slc) (bs:List UInt8):Prop:=Go.Vc.Own qm w base c bs\/∃g,base<=g/\c=⟨some ⟨g,0,none⟩,bs.length,bs.length⟩/\q3h w g bs
theorem Cmd.rd {c:Slc} {bs:List UInt8} (h:Cmd w base c bs) (hl:bs.length<=1000000):Rd qm w c bs:=by
 rcases h with h | ⟨g,_,rfl,h⟩
 ·exact h.rd
 ·exact h.rd hl
theorem zab {vs:List Value} {m:Nat} {bs:List UInt8} {K:Slc->Ub} (hv:vs=bs.map q1b) (hn:m=bs.length)
  (hK:∀s w',Cmd w' w.heap.size s bs->Uc w w'->K s w') :
  nw qN vs w λt w1=>jv PG (convert qg qg (.slice (some t) m m)) Kind.slice w1 K:=by
 subst hn hv;refine ⟨⟨some ⟨w.heap.size,0,none⟩,bs.length,bs.length⟩,_,Lib.run_convert_bytes_const w qg qN _ _ _ (by kernel_rfl) (by kernel_rfl),hK _ _ (.inr ⟨_,le_refl _,rfl,?_⟩) ((Below.refl _ w).alloc (le_refl _) _)⟩;show (w.alloc _).heap[w.heap.size]?=_;rw [heap_alloc_new];simp
theorem EngM.chgS {S:Nat->Prop} (h:EngM w base g F E n) (hc:Chg S w w') (hS:∀k,kw g F k->¬S k) (hi:∀k,vX E.S k->¬S k):EngM w' base g F E n :=
 ⟨h.blk.chg hc (hS _ (.inl rfl)),h.hg,h.st.keep hc (hS _ (.inr (.inl (.inl rfl)))) (hS _ (.inr (.inl (.inr rfl)))) (λp hp k hk=>hi k ⟨p,hp,hk⟩),h.ok,h.hs,h.tb.chg hc λk hk=>hS k (.inr (.inr (.inl hk))),h.tl,
  λC s hl=>⟨(h.lo C s hl).1.chg hc λk hk=>hS k (.inr (.inr (.inr hk))),(h.lo C s hl).2⟩,h.nl,h.dg,h.ds,h.dt,h.di⟩
end
end Go.Proofs.YtokfefnmpjohpaaGreatDoor
