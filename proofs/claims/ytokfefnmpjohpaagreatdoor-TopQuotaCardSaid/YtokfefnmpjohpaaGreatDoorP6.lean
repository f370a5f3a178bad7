import Derived.RangeFuncBox
import Derived.RangeFuncLeaves
import Derived.RangeFuncFrom
import Derived.RangeFuncWrites
import Derived.Shelf.Abstract
import Derived.WalkKit
import Derived.OwnWalkIn
import Derived.TacticsInMore
import Derived.LoopNIn
import Derived.LoopIn
import Derived.BigFrameIn
import Derived.BigRegionIn
import Derived.BigGuardIn
import Derived.BigGuardPartIn
import Derived.Test.YtokfefnmpjohpaaGreatDoorP1
import Derived.Test.YtokfefnmpjohpaaGreatDoorP5
import Derived.Scope
import Derived.JoinedOf
import GoSem.ClaimSeven
import Derived.Test.YtokfefnmpjohpaaGreatDoorChecked
set_option linter.unusedVariables false
namespace Go.Proofs.YtokfefnmpjohpaaGreatDoor
open Go.RowKit Go.Shelf Go.Vc
attribute [local go_sem] Oper.semAt_some
def vR {α:Type} (f:Nat->α) (k:Nat):List α:=(List.range k).map f
theorem q60 {α:Type} (f:Nat->α) (k:Nat):vR f (k+1)=vR f k++[f k]:=by simp [vR,List.range_succ]
theorem qfv {α:Type} (f:Nat->α) (k:Nat):(vR f k).length=k:=by simp [vR]
def ckf (b off len k:Nat):Slc:=⟨some ⟨b,off+3*k,none⟩,min 3 (len-3*k),min 3 (len-3*k)⟩
def ckN (len:Nat):Nat:=(len+2)/3
def zex (x:Slc):Array Value:=#[.slice x.a x.n x.c]
structure Kp2k (Bs b:Nat) (A B:World):Prop where
 h1:B.heap[Bs]?=A.heap[Bs]?
 h2:B.heap[b]?=A.heap[b]?
theorem Kp2k.refl (Bs b:Nat) (A:World):Kp2k Bs b A A:=⟨rfl,rfl⟩
theorem Kp2k.trans {Bs b:Nat} {A B C:World} (h:Kp2k Bs b A B) (k:Kp2k Bs b B C):Kp2k Bs b A C:=⟨k.h1.trans h.h1,k.h2.trans h.h2⟩
theorem Kp2k.c1 {Bs b:Nat} {A B:World} (h:Kp2k Bs b A B):B.cell? ⟨Bs,0,none⟩=A.cell? ⟨Bs,0,none⟩:=World.cell?_of_block h.h1
theorem Kp2k.c2 {Bs b:Nat} {A B:World} (h:Kp2k Bs b A B):B.cell? ⟨b,0,none⟩=A.cell? ⟨b,0,none⟩:=World.cell?_of_block h.h2
theorem Kp2k.below {Bs b:Nat} {A B:World} (h:Uc A B) (h1:Bs<A.heap.size) (h2:b<A.heap.size):Kp2k Bs b A B:=⟨h.block _ h1,h.block _ h2⟩
theorem Kp2k.drew (Bs b:Nat) (A:World):Kp2k Bs b A A.drew:=⟨rfl,rfl⟩
theorem q1m {α:Type} (f:Nat->α) {k n:Nat} (h:k<n):∃t,vR f n=vR f k++f k::t:=by
 refine ⟨(vR f n).drop (k+1),?_⟩;have h1:vR f k=(vR f n).take k:=by
  unfold vR;rw [<-List.map_take,List.take_range,Nat.min_eq_left (by omega)]
 have h2:(vR f n)[k]?=some (f k):=by
  unfold vR;rw [List.getElem?_map,List.getElem?_range h];rfl
 have hk:k<(vR f n).length:=by rw [qfv];exact h
 have h3:f k=(vR f n)[k]:=by
  rw [List.getElem?_eq_getElem hk] at h2;exact (Option.some.inj h2).symm
 rw [h1,h3,List.getElem_cons_drop,List.take_append_drop]
def q7h {α:Type} (F:Fence) (n:Nat) (P:Program) (gf:Nat) (lb:Array Value) (encs:α->Array Value) (Kp:World->Ub) (xs:List α) (w0:World):Prop :=
 ∀(l:Nat) (J:List α->Ub) (W:World),Uc w0 W->(∀pre A,J pre A->J pre A.drew) ->
  (∀pre x W1,J pre W1->(∃t,xs=pre++x::t)->YieldAt F (n-1) P l (encs x) W1 λe W'=>e=.returned (.bool true)/\J (pre++[x]) W'/\Kp W1 W') ->
  J [] W->CallsIn F n P gf (#[.func (.yield l) #[] #[]]++lb) W λe W'=>(∃v,e=.returned v)/\J xs W'
theorem q6p {F:Fence} {n:Nat} {P:Program} {α:Type} {g:Operand} {ps:Array Tmp} {assign body:Code} {Q:Exit->Act->Ub} {a:Act} {w:World}
  (hro:F.round=none) (h1:1<=n) {gf:Nat} {lb:Array Value} (hg:a.eval g=.func (.func gf) #[] lb) (hFg:F.fn gf) (eg:∀args w,(callFunc gf args).run P w=.ok (.enter gf args) w)
  {encs:α->Array Value} {Kp:World->Ub} {xs:List α} (hseq:q7h F (n-1) P gf lb encs Kp xs w)
  (hKt:∀{A B C:World},Kp A B->Kp B C->Kp A C) (hKb:∀(W:World) (l:Nat) (o:Obj),w.heap.size<=l->Kp W (W.putObj l o)) (hps:∀x,(encs x).size=ps.size)
  (I:List α->Ub) (hI:OwnFrom w.heap.size I) (hId:∀pre A,I pre A->I pre A.drew) (h0:I [] w) (a₁:α->Act)
  (hassign:∀(l:Nat) (x:α) (W:World) (K:Act->Ub),K (a₁ x) W ->
   assign.wpIn (F.inRound l) (n-1-1) P (Exit.then K (λ_ _ _=>False)) { tmps:=(ps.zip (encs x)).foldl (λt (p,v)=>t.setIfInBounds p v) a.tmps,defers:=[] } W)
  (hbody:∀(l:Nat) (pre:List α) (x:α) (W:World),I pre W->(∃t,xs=pre++x::t)->body.wpIn (F.inRound l) (n-1-1) P (λe _ W'=>e=.normal/\KeepsOthers W W'/\Kp W W'/\I (pre++[x]) W') (a₁ x) W)
  (hdone:∀(D:Nat) (W:World),w.heap.size<=D->I xs W->W.heap[D]?=some (.deferred (some []))->Q .normal { a with defers:={ target:=.collected D,args:=#[] }::a.defers } W) :
  (Code.rangeFunc g ps assign body).wpIn F n P Q a w:=by
 refine wpIn_rangeFunc λfn hfn=>?_;rw [hro];obtain ⟨rec,hrec⟩:∃rec:LoopState->Option Code->Loop,rec=λst pe=>{ state:=st,pending:=pe,fn,tmps:=a.tmps,params:=ps,assign,body,defers:=w.heap.size }:=⟨_,rfl⟩;obtain ⟨W1,hW1⟩:∃W1,(w.alloc (.deferred (some []))).alloc (.loop (rec .ready none))=W1:=⟨_,rfl⟩;obtain ⟨L,hL⟩:∃L,w.heap.size=L:=⟨_,rfl⟩;have hL1:W1.heap[L+1]?=some (.loop (rec .ready none)):=by
  rw [<-hW1,<-hL];have:=World.alloc_heap_new (w.alloc (.deferred (some []))) (.loop (rec .ready none))
  rwa [World.size_alloc] at this
 have hK1:W1.heap[L]?=some (.deferred (some [])):=by
  rw [<-hW1,<-hL];exact (Below.heap_alloc _ _ _ (by simp)).trans (World.alloc_heap_new w _)
 have hI1:I [] W1:=by rw [<-hW1];exact hI.alloc _ (hI.alloc _ h0)
 have hb1:Uc w W1:=by
  rw [<-hW1];exact ((Below.refl _ w).alloc (Nat.le_refl _) _).alloc (by simp) _
 have hcall:CallsIn F (n-1) P gf (#[.func (.yield (L+1)) #[] #[]]++lb) W1 λe W'=>(∃v,e=.returned v)/\I xs W'/\W'.heap[L+1]?=some (.loop (rec .ready none))/\W'.heap[L]?=some (.deferred (some [])):=by
  refine hseq (L+1) (λpre W=>I pre W/\W.heap[L+1]?=some (.loop (rec .ready none))/\W.heap[L]?=some (.deferred (some []))) W1 hb1 ?_ ?_ ⟨hI1,hL1,hK1⟩
  ·rintro pre A ⟨hi,hl,hk⟩;exact ⟨hId _ _ hi,hl,hk⟩
  ·rintro pre x W ⟨hi,hl,hk⟩ hx;have hlt:L+1<W.heap.size:=(Array.getElem?_eq_some_iff.1 hl).1;have hy:=run_yield (P:=P) (args:=encs x) hl (by rw [hrec];exact hps x);rw [hrec] at hy;refine ⟨fn,_,assign,body,hy,roundIn_of_wpIn hfn (hassign _ x W _ ⟨_,run_beginRound hl (by rw [hrec]),?_⟩)⟩;obtain ⟨W2,hW2⟩:∃W2,W.putObj (L+1) (.loop { rec .ready none with state:=.busy })=W2:=⟨_,rfl⟩;have hl2:W2.heap[L+1]?=some (.loop { rec .ready none with state:=.busy }):=by rw [<-hW2];exact World.putObj_heap_same hlt
   have hk2:W2.heap[L]?=some (.deferred (some [])):=by rw [<-hW2];exact (World.putObj_heap_other (by omega)).trans hk
   have hw2:Kp W W2:=by rw [<-hW2];exact hKb _ _ _ (by omega)
   have hi2:I pre W2:=by rw [<-hW2];exact hI.putObj _ hi (by omega) hl rfl
   rw [hW2];refine wpIn_mono (hbody _ pre x W2 hi2 hx) ?_;rintro e a3 W3 ⟨rfl,hk3,hkp3,hi3⟩;have hl3:=hk3.same _ _ hl2 rfl;have hr:=run_endRound (P:=P) none hl3;rw [hrec] at hr hl3;refine ⟨_,_,hr,rfl,⟨hI.putObj _ hi3 (by omega) hl3 rfl,?_,?_⟩,hKt (hKt hw2 hkp3) (hKb _ _ _ (by omega))⟩
   ·rw [hrec];exact World.putObj_heap_same (Array.getElem?_eq_some_iff.1 hl3).1
   ·exact (World.putObj_heap_other (by omega)).trans (hk3.same _ _ hk2 rfl)
 refine ⟨L+1,[{ target:=.collected L,args:=#[] }],W1,{ target:=.fn (.func gf) lb,args:=#[.func (.yield (L+1)) #[] #[]] },W1,gf,#[.func (.yield (L+1)) #[] #[]]++lb,W1,?_,?_,?_,?_,λ_=>h1,?_⟩
 ·rw [<-hW1,hrec,<-hL];exact run_enterLoop_outer _ _ _ _ _
 ·simp only [resolve,hg];simp [go_sem]
 ·intro f' hf';simp [Target.leads] at hf';subst hf';exact hFg
 ·simp [invoke,go_sem,eg]
 ·refine hcall.mono ?_;rintro e W2 ⟨⟨v,rfl⟩,hi,hl,hk⟩;have he:=run_endLoop (P:=P) hl (by rw [hrec];simp);rw [hrec] at he;exact ⟨none,_,he,hdone _ _ (by omega) (hI.putObj _ hi (by omega) hl rfl) ((World.putObj_heap_other (by omega)).trans hk)⟩
set_option maxRecDepth 100000 in
set_option maxHeartbeats 2000000 in
theorem q8q (F:Fence) (n:Nat) (hfn:F.fn 118) (hro:F.round=none) (hn:1<=n) (l Bs Bn b off len cap:Nat) (hreach:len<=1000000) (hcap:len<=cap) (J:List Slc->Ub) (hJd:∀pre A,J pre A->J pre A.drew)
  (hY:∀pre x W,J pre W->(∃t,vR (ckf b off len) (ckN len)=pre++x::t)->YieldAt F (n-1) Tryz.prog l (zex x) W λe W'=>e=.returned (.bool true)/\J (pre++[x]) W'/\Kp2k Bs Bn W W')
  (W:World) (hBs:W.cell? ⟨Bs,0,none⟩=some (.slice (some ⟨b,off,none⟩) len cap)) (hBn:W.cell? ⟨Bn,0,none⟩=some (Ua 3)) (h0:J [] W) :
  CallsIn F n Tryz.prog 118 #[.func (.yield l) #[] #[],.pointer (some ⟨Bs,0,none⟩),.pointer (some ⟨Bn,0,none⟩)] W λe W'=>(∃v,e=.returned v)/\J (vR (ckf b off len) (ckN len)) W':=by
 refine callsIn_of_wp Tryz.func118 rfl hfn ?_ hro;simp only [Tryz.ntmps118,List.size_toArray,List.length_cons,List.length_nil,Nat.reduceAdd,Nat.reduceSub,Array.replicate_succ,Array.replicate_zero,List.push_toArray,List.append_toArray,List.nil_append,List.cons_append]
 gi_wp2
 gi_loopw [4] (λi wr=>∃k:Nat,k<=ckN len/\i=.int .i64 ((3*k:Nat):Int)/\J (vR (ckf b off len) k) wr/\Kp2k Bs Bn W wr)
  (λi _=>(len+3-(intOf i).toNat))
 case atStart=>exact ⟨0,Nat.zero_le _,by simp,h0,Kp2k.refl _ _ _⟩
 case round =>
  obtain ⟨k,hk,rfl,hJs,hnx⟩:=hrel;have hbx:wr.cell? ⟨Bs,0,none⟩=some (.slice (some ⟨b,off,none⟩) len cap):=hnx.c1.trans hBs;have hbn:wr.cell? ⟨Bn,0,none⟩=some (Ua 3):=hnx.c2.trans hBn;by_cases hlt:3*k<len
  ·obtain ⟨fn,tmps,assign,body,hy,hR⟩:=hY _ (ckf b off len k) wr.drew (hJd _ _ hJs) (q1m _ (by unfold ckN;omega))
   gi_wp2
   have hbx2:wr.drew.cell? ⟨Bs,0,none⟩=some (.slice (some ⟨b,off,none⟩) len cap):=hbx;have hbn2:wr.drew.cell? ⟨Bn,0,none⟩=some (Ua 3):=hbn;obtain ⟨e,he⟩:∃e,e=min 3 (len-3*k):=⟨_,rfl⟩;have hif:(if ((len-3*k:Nat):Int)<3 then ((len-3*k:Nat):Int) else 3)=(e:Int):=by
    split<;>omega
   have hmn:min (3:Int) ((len-3*k:Nat):Int)=(e:Int):=by omega
   have he1:1<=e/\e<=3/\3*k+e<=len:=by omega
   have hck:ckf b off len k=⟨some ⟨b,off+3*k,none⟩,e,e⟩:=by unfold ckf;rw [<-he]
   rw [hck] at hy hR;simp only [zex] at hy;have hcont:∀W',J (vR (ckf b off len) k++[ckf b off len k]) W'->J (vR (ckf b off len) (k+1)) W':=λW' h=>by rw [q60];exact h
   have hk1:k+1<=ckN len:=by unfold ckN;omega
   rw [<-hck] at hR;clear hck
   gi_region
   all_goals
    first | rw [<-he] | rw [hmn] | rw [hif]
    clear he hif hmn
    gi_wp2
    refine hR.mono ?_;rintro ee W3 ⟨rfl,hJ3,hk3⟩
    ·have hb3:W3.cell? ⟨Bn,0,none⟩=some (Ua 3):=hk3.c2.trans hbn2
     gi_wp2
     go_roundw
     case rel=>exact ⟨k+1,hk1,by congr 1,hcont _ hJ3,hnx.trans ((Kp2k.drew _ _ _).trans hk3)⟩
     case measure=>simp [intOf];omega
  ·obtain rfl:k=ckN len:=by unfold ckN at hk ⊢;omega
   gi_wp2
   go_end0
   exact ⟨⟨_,rfl⟩,hJs⟩
theorem qwg (F:Fence) (n:Nat) (hfn:F.fn 118) (hro:F.round=none) (l Bs Bn:Nat) (J:List Slc->Ub) (W:World) (hBs:W.cell? ⟨Bs,0,none⟩=some (.slice none 0 0)) (h0:J [] W) :
  CallsIn F n Tryz.prog 118 #[.func (.yield l) #[] #[],.pointer (some ⟨Bs,0,none⟩),.pointer (some ⟨Bn,0,none⟩)] W λe W'=>(∃v,e=.returned v)/\J [] W':=by
 refine callsIn_of_wp Tryz.func118 rfl hfn ?_ hro;simp only [Tryz.ntmps118,List.size_toArray,List.length_cons,List.length_nil,Nat.reduceAdd,Nat.reduceSub,Array.replicate_succ,Array.replicate_zero,List.push_toArray,List.append_toArray,List.nil_append,List.cons_append]
 gi_wp2
 gi_loopw [4] (λi wr=>i=.int .i64 0/\wr=W) (λ_ _=>0)
 case atStart=>exact ⟨rfl,rfl⟩
 case round =>
  obtain ⟨rfl,rfl⟩:=hrel
  gi_wp2
  go_end0
  exact ⟨⟨_,rfl⟩,h0⟩
def cks (s:Slc):List Slc:=match s.a with
 | none=>[]
 | some a=>vR (ckf a.block a.off s.n) (ckN s.n)
theorem q91 (F:Fence) (n:Nat) (hfn:F.fn 118) (hro:F.round=none) (hn:1<=n) (Bs Bn:Nat) (s:Slc) (hreach:s.n<=1000000) (hs:(s.a=none/\s.n=0/\s.c=0)\/(∃a,s.a=some a/\a.spot=none/\s.n<=s.c)) (w:World) (hBs:Bs<w.heap.size) (hBn:Bn<w.heap.size)
  (hc:w.cell? ⟨Bs,0,none⟩=some (.slice s.a s.n s.c)) (hcn:w.cell? ⟨Bn,0,none⟩=some (Ua 3)) :
  q7h F n Tryz.prog 118 #[.pointer (some ⟨Bs,0,none⟩),.pointer (some ⟨Bn,0,none⟩)] zex (Kp2k Bs Bn) (cks s) w:=λl J W hW hJd hY h0=>by
 have hk:=Kp2k.below hW hBs hBn;have hc':=hk.c1.trans hc;have hn':=hk.c2.trans hcn;rcases hs with ⟨h1,h2,h3⟩ | ⟨a,h1,h2,h3⟩
 ·rw [h1,h2,h3] at hc';have e:cks s=[]:=by unfold cks;rw [h1]
  rw [e];exact qwg F n hfn hro l Bs Bn J W hc' h0
 ·obtain ⟨b,off,sub⟩:=a;cases h2;rw [h1] at hc';have e:cks s=vR (ckf b off s.n) (ckN s.n):=by unfold cks;rw [h1]
  rw [e] at hY ⊢;exact q8q F n hfn hro hn l Bs Bn b off s.n s.c hreach h3 J hJd hY W hc' hn' h0
end Go.Proofs.YtokfefnmpjohpaaGreatDoor
namespace Go.Proofs.YtokfefnmpjohpaaGreatDoor
open Go.Vc Go.RowKit Go.Shelf
set_option maxRecDepth 100000
open _root_.List (length_cons length_nil length_take)
open _root_.Nat (le_refl)
attribute [local go_sem] Oper.semAt_some
theorem zbb {α:Type} {f:Nat->α} {n:Nat} {pre t:List α} {x:α} (h:vR f n=pre++x::t):x=f pre.length/\pre.length<n:=by
 have hl:=congrArg List.length h;rw [qfv,List.length_append,length_cons] at hl;have h2:(vR f n)[pre.length]?=some x:=by rw [h];simp
 unfold vR at h2;rw [List.getElem?_map,List.getElem?_range (by omega)] at h2;exact ⟨(Option.some.inj h2).symm,by omega⟩
theorem q18:∀(n:Nat) (A:List UInt8),A.length=3*n->∀B,QE (A++B)=QE A++QE B
 | 0,A,h,B=>by
  obtain rfl:A=[]:=List.length_eq_zero_iff.1 (by omega);rfl
 | n+1,a::b::c::r,h,B=>by
  have hr:r.length=3*n:=by simp only [length_cons] at h;omega
  show QE (a::b::c::(r++B))=_;rw [QE,QE,q18 n r hr B,List.append_assoc]
 | n+1,[a,b],h,B=>by simp only [length_cons,length_nil] at h;omega
 | n+1,[a],h,B=>by simp only [length_cons,length_nil] at h;omega
 | n+1,[],h,B=>by simp only [length_nil] at h;omega
theorem q6l:∀x:List UInt8,1<=x.length->x.length<=3->QE x=qob x
 | [],h,_=>by simp at h
 | [a],_,_=>rfl
 | [a,b],_,_=>rfl
 | [a,b,c],_,_=>by rw [QE];simp [QE]
 | a::b::c::d::r,_,h=>by simp at h
theorem zaq {bs:List UInt8} {k:Nat} (h:3*k<bs.length):QE (bs.take (3*(k+1)))=QE (bs.take (3*k))++qob ((bs.drop (3*k)).take 3):=by
 have hl:(bs.take (3*k)).length=3*k:=by rw [length_take];omega
 rw [show 3*(k+1)=3*k+3 by omega,List.take_add,q18 k _ hl,q6l ((bs.drop (3*k)).take 3) (by rw [length_take,List.length_drop];omega) (by rw [length_take];omega)]
def zch (w:World) (bs:List UInt8) (bo M:Nat) (pre:List Slc) (W:World):Prop :=
 ∃s:Slc,Blk W bo qg [.slice s.a s.n s.c]/\Go.Vc.Own qm W M s (QE (bs.take (3*pre.length)))/\Below bo w W/\M<=W.heap.size
theorem q7y {T:Type} {E:El T} {W:World} {M:Nat} {s:Slc} {xs:List T} (h:Go.Vc.Own E W M s xs) {W':World} {row:Option Nat} (hg:W.grownBy W' row) (hr:∀r,row=some r->M<=r/\∃o:Obj,W.heap[r]?=some o/\o.isCells=false):Go.Vc.Own E W' M s xs:=by
 refine h.kept hg ?_;cases hs:s.blk with
 | none=>exact .inl rfl
 | some k =>
  refine .inr λe=>?_;obtain ⟨_,o,ho,hc⟩:=hr k e.symm;obtain ⟨cs,hcs⟩:=h.blk_t hs;rw [show W.heap[k]?=_ from hcs] at ho;cases ho;cases hc
theorem zb2 (w:World) (bs:List UInt8) (bo M:Nat) (h1:bo<M):OwnFrom M (zch w bs bo M):=by
 rintro pre W W' row ⟨s,p1,p2,p3,p4⟩ hg hr;have hne:∀k,k<M->some k≠row:=λk hk e=>by have:=(hr k e.symm).1;omega
 exact ⟨s,Boxed.kept (show Boxed W bo _ _ from p1) hg (hne _ h1),q7y p2 hg hr,p3.grown hg (by omega) λk e=>by have:=(hr k e).1;omega,Nat.le_trans p4 hg.size⟩
theorem q8s (w:World) (bs:List UInt8) (bo M:Nat):∀pre A,zch w bs bo M pre A->zch w bs bo M pre A.drew:=by
 rintro pre A ⟨s,p1,p2,p3,p4⟩;exact ⟨s,p1.ext (bdw A),p2.ext (bdw A),p3.drew,p4⟩
section
variable {w:World}
theorem q8g {t:Slc}:Calls Tryz.prog 62 #[.slice t.a t.n t.c,.int .i64 3] w λe w'=>e=.returned (.func (.func 118) #[] #[.pointer (some ⟨w.heap.size,0,none⟩),.pointer (some ⟨w.heap.size+1,0,none⟩)]) /\
  (Blk w' w.heap.size qg [.slice t.a t.n t.c]/\Blk w' (w.heap.size+1) zd [.int .i64 3])/\Uc w w'/\w'.heap.size=w.heap.size+2:=by
 have h:QP t 3 w λv w'=>v=(.func (.func 118) #[] #[.pointer (some ⟨w.heap.size,0,none⟩),.pointer (some ⟨w.heap.size+1,0,none⟩)]) /\
   (Blk w' w.heap.size qg [.slice t.a t.n t.c]/\Blk w' (w.heap.size+1) zd [.int .i64 3])/\Uc w w'/\w'.heap.size=w.heap.size+2:=by
  refine VW _ _ ?_;refine nwb λw1 hb1 hB1 hs1=>nwb λw2 hb2 hB2 hs2=>?_;rw [hs1] at hb2 ⊢;refine lI (x:=3) (hb2.cell 0 rfl) (cF rfl ?_);exact ⟨rfl,⟨hb1.ext hB2,hb2⟩,hB1.trans (hB2.mono (by omega)),by omega⟩
 refine Calls.mono h ?_;rintro e w' ⟨r0,rfl,rfl,h2⟩;exact ⟨rfl,h2⟩
theorem zb4 {n:Nat} {tmps:Array Value} {R:Ending->Ub} {W:World} {v:Value} (h0:tmps[2]?.getD undef=v) (hR:R (.returned v) W) :
  LeavesIn Fence.wide n Tryz.prog Tryz.f27 tmps R [] .returning W:=by
 refine ⟨v,?_,hR⟩;simp [results,Tryz.f27,go_sem,h0]
set_option maxHeartbeats 4000000 in
theorem q8u {t:Slc} {bs:List UInt8} {base:Nat} (ht:Go.Vc.Own qm w base t bs) (hl:bs.length<=1000000) :
  CallsIn Fence.wide 9 Tryz.prog 27 #[.slice t.a t.n t.c] w λe w'=>∃s:Slc,e=.returned (.slice s.a s.n s.c)/\Go.Vc.Own qm w' w.heap.size s (QE bs)/\Uc w w':=by
 refine callsIn_of_wp_marks Tryz.func27 rfl trivial ?_ rfl;simp only [Tryz.ntmps27,List.size_toArray,length_cons,length_nil,Nat.reduceAdd,Nat.reduceSub,Array.replicate_succ,Array.replicate_zero,List.push_toArray,List.append_toArray,List.nil_append,List.cons_append];have hCh:=λm (w1:World)=>(callsIn_wide (n:=m)).2 (q8g (w:=w1) (t:=t))
 gi_wp2
 refine ⟨trivial,(hCh _ _).mono ?_⟩;rintro e w3 ⟨rfl,⟨x1,x2⟩,hB3,hs3⟩
 gi_wp2
 obtain ⟨w1,hw1⟩:∃w1,w.alloc (.cells #[.slice none 0 0] 28)=w1:=⟨_,rfl⟩;have hs1:w1.heap.size=w.heap.size+1:=by rw [<-hw1];simp
 have hB1:Uc w w1:=by rw [<-hw1];exact (Below.refl _ w).alloc (le_refl _) _
 have hb1:Blk w1 w.heap.size qg [.slice none 0 0]:=by rw [<-hw1];exact Blk.new w qg [.slice none 0 0]
 rw [hw1] at x1 x2 hB3 hs3;rw [hs1] at x1 x2 hs3;have hB13:Uc w w3:=hB1.trans (hB3.mono (by omega));have hb3:Blk w3 w.heap.size qg [.slice none 0 0]:=hb1.ext hB3;have htl:=ht.lt;have hform:(t.a=none/\t.n=0/\t.c=0)\/(∃a,t.a=some a/\a.spot=none/\t.n<=t.c):=by
  rcases ht.form with ⟨rfl,_⟩ | ⟨g,cur,hs,_,_,h1,_⟩
  ·exact .inl ⟨rfl,rfl,rfl⟩
  ·rw [hs];exact .inr ⟨_,rfl,rfl,h1⟩
 have htn:=ht.rd.n;have hck:∀(pre:List Slc) (x:Slc),(∃t',cks t=pre++x::t')->3*pre.length<bs.length/\∀W,Uc w W->Rd qm W x ((bs.drop (3*pre.length)).take 3)/\∀k,x.blk=some k->k<w.heap.size:=by
  rintro pre x ⟨t',hx⟩;rcases ht.form with ⟨rfl,_⟩ | ⟨g,cur,hs,hg,hblk,h1,h2,h3,h4⟩
  ·unfold cks at hx;cases pre<;>cases hx
  ·have hta:t.a=some ⟨g,0,none⟩:=by rw [hs]
   unfold cks at hx;rw [hta] at hx;obtain ⟨hxe,hlt⟩:=zbb hx;rw [htn] at hxe hlt;have hlt3:3*pre.length<bs.length:=by unfold ckN at hlt;omega
   refine ⟨hlt3,λW hW=>?_⟩;have hrd:=(ht.rd.ext hW);have hlen:((bs.drop (3*pre.length)).take 3).length=min 3 (bs.length-3*pre.length):=by rw [length_take,List.length_drop]
   subst hxe;refine ⟨⟨hlen.symm,le_refl _,?_,λ_=>rfl,λi y hy=>?_⟩,λk hk=>?_⟩
   ·show min 3 (bs.length-3*pre.length)<=maxLen;unfold maxLen;omega
   ·have hi:i<min 3 (bs.length-3*pre.length):=by
     rw [<-hlen];exact (List.getElem?_eq_some_iff.1 hy).1
    have hy2:bs[3*pre.length+i]?=some y:=by
     rw [List.getElem?_take_of_lt (by omega),List.getElem?_drop] at hy;exact hy
    have h5:=hrd.at_ _ _ hy2;unfold Slc.at_ at h5 ⊢;rw [hta] at h5;exact cast (by
     congr 1;show (⟨g,0,none⟩:Addr).add ((3*pre.length+i)*1)=(⟨g,0+3*pre.length,none⟩:Addr).add (i*1);rw [q4,q4];congr 1;omega) h5
   ·cases hk;exact hblk.lt
 clear htn;refine q6p rfl (by omega) (gf:=118) (lb:=#[.pointer (some ⟨w.heap.size+1,0,none⟩),.pointer (some ⟨w.heap.size+1+1,0,none⟩)]) rfl trivial (enters_of Tryz.func118 (by kernel_rfl) rfl)
  (q91 Fence.wide 8 trivial rfl (by omega) (w.heap.size+1) (w.heap.size+1+1) t (by rw [ht.rd.n];exact hl) hform w3 (by omega) (by omega) (x1.cell 0 rfl) (x2.cell 0 rfl)) (λh k=>h.trans k)
  (λW l o hl=>⟨World.putObj_heap_other (by omega),World.putObj_heap_other (by omega)⟩) (λ_=>rfl)
  (zch w bs w.heap.size (w.heap.size+3)) (by rw [hs3];exact zb2 w bs _ _ (by omega)) (q8s w bs _ _)
  ⟨⟨none,0,0⟩,hb3,Own.nil _ _ _,hB13,by omega⟩
  (λx=>{ tmps:=#[Value.slice t.a t.n t.c,undef,Value.slice none 0 0,Value.pointer (some { block:=w.heap.size,off:=0 }),.slice x.a x.n x.c,undef,undef,undef,Value.slice t.a t.n t.c,Value.func (Fn.func 118) #[] #[Value.pointer (some { block:=w.heap.size+1,off:=0 }),Value.pointer (some { block:=w.heap.size+1+1,off:=0 })],
   .slice x.a x.n x.c,undef,undef,undef,undef,undef,undef,undef,undef,undef,undef,undef,undef,undef,undef,undef,undef,undef,undef,undef,undef,undef,undef,undef,undef,undef,undef,undef,undef,undef,undef,undef,undef,undef,undef,undef,undef,undef,undef,undef],defers:=[] }) ?assign ?body ?done
 case assign =>
  intro l x W K hK;simp only [zex]
  gi_wp2
  exact hK
 case body =>
  rintro l pre x W ⟨s,p1,p2,p3,p4⟩ hpx;obtain ⟨hlt3,hxr⟩:=hck pre x hpx;obtain ⟨hxr,hxb⟩:=hxr W p3;have hlen:((bs.drop (3*pre.length)).take 3).length=min 3 (bs.length-3*pre.length):=by rw [length_take,List.length_drop]
  have hel:(QE (bs.take (3*pre.length))).length<=100000000:=by
   have h1:=qtj _ (bs.take (3*pre.length)) (le_refl _);have h2:(bs.take (3*pre.length)).length<=bs.length:=by rw [length_take];omega
   omega
  refine wpIn_mono (c:=(qgb (Tryz.f27.body.getD .skip)).getD .skip) (q4d C.plain_ok C.mixed _ (by kernel_rfl) qti rfl (onN λW'=>KeepsOthers W W'/\Kp2k (w.heap.size+1) (w.heap.size+1+1) W W'/\zch w bs w.heap.size (w.heap.size+3) (pre++[x]) W') (qmu ⟨w.heap.size,0,none⟩ x) _ W ?agree ?vc) ?post
  case agree =>
   refine ⟨rfl,λi v hv=>?_,rfl⟩;rw [<-Array.getElem?_toList];refine zde ?_ i v hv;unfold qmu;simp [agL]
  case vc =>
   rw [q4q];refine qy1 p1 p2 p4 (by omega) hxr (λk hk=>by have:=hxb k hk;exact ⟨by omega,by omega⟩) (by omega) (by omega) hel λs' W' q1 q2 hc=>?_;have hno:∀k,k≠w.heap.size->k<w.heap.size+3->¬(k=w.heap.size\/s.blk=some k):=by
    rintro k h1 h2 (h | h)
    ·exact h1 h
    ·have:=(p2.lt k h).1;omega
   refine ⟨⟨hc.size,λk o hk ho=>?_⟩,⟨hc.block _ (by omega) (hno _ (by omega) (by omega)),hc.block _ (by omega) (hno _ (by omega) (by omega))⟩,s',q1,?_,?_,Nat.le_trans p4 hc.size⟩
   ·have hkl:k<W.heap.size:=(Array.getElem?_eq_some_iff.1 hk).1;refine (hc.block k hkl ?_).trans hk;rintro (rfl | h)
    ·rw [show W.heap[w.heap.size]?=_ from p1] at hk;cases hk;cases ho
    ·obtain ⟨cs,hcs⟩:=p2.blk_t h;rw [show W.heap[k]?=_ from hcs] at hk;cases hk;cases ho
   ·rw [List.length_append,List.length_singleton,zaq hlt3];exact q2
   ·refine p3.trans (hc.below (by have:=p3.size;omega) λi hi h=>?_);rcases h with h | h
    ·omega
    ·have:=(p2.lt i h).1;omega
  case post =>
   intro e a' W' h;cases e with
   | normal =>
    obtain ⟨_,_,_,h1,h2,h3⟩:=h;exact ⟨rfl,h1,h2,h3⟩
   | exit id=>obtain ⟨_,_,_,h⟩:=h;exact h.elim
   | ret=>obtain ⟨_,_,_,h⟩:=h;exact h.elim
   | goto l=>exact h.elim
   | panic c=>exact h.elim
   | outgrown=>exact h.elim
 case done =>
  rintro D W hD ⟨s,p1,p2,p3,p4⟩ hK;rw [hs3] at hD;have c1:W.cell? ⟨w.heap.size,0,none⟩=some (.slice s.a s.n s.c):=p1.cell 0 rfl;have hfull:bs.take (3*(cks t).length)=bs:=by
   refine List.take_of_length_le ?_;rcases ht.form with ⟨rfl,rfl⟩ | ⟨g,cur,hs,_⟩
   ·simp
   ·unfold cks;rw [show t.a=some ⟨g,0,none⟩ by rw [hs]];dsimp only;rw [qfv,ht.rd.n];unfold ckN;omega
  rw [hfull] at p2
  gi_wp2
  refine ⟨by simp,.inl ⟨_,_,rfl,run_takeDeferred hK,?_⟩⟩;have hg:=grownBy_putObj' W D (.deferred none);refine zb4 rfl ⟨s,rfl,(q7y p2 hg λr e=>?_).base (by omega),p3.grown hg p3.size λk e=>by cases e;omega⟩;cases e;exact ⟨hD,_,hK,rfl⟩
theorem qwp {t:Slc} {bs:List UInt8} {base:Nat} (ht:Go.Vc.Own qm w base t bs) (hl:bs.length<=1000000) {K:Slc->Ub}
  (hK:∀s w',Go.Vc.Own qm w' w.heap.size s (QE bs)->Uc w w'->K s w'):qgz t w K:=by
 refine Calls.mono (callsIn_wide.1 (q8u ht hl)) ?_;rintro e w' ⟨s,rfl,ho,hB⟩;exact ⟨s,rfl,hK s w' ho hB⟩
end
end Go.Proofs.YtokfefnmpjohpaaGreatDoor
namespace Go.Proofs.YtokfefnmpjohpaaGreatDoor
open Go.Vc Go.RowKit
set_option maxRecDepth 400000
open Builtin (append_)
open IntKind (i64)
open _root_.List (append_assoc length_append length_cons length_drop length_nil length_singleton length_take mem_cons)
open _root_.Nat (le_refl mul_one sub_self zero_le)
theorem qli {P:Program} (w:World) (t ty e:TypeId) (i:TypeInfo) (ht:P.underlying t=some (.slice e)) (hi:P.info? e=some i)
  (g off sLen sCap:Nat) (cur:Array Value) (hg:w.heap[g]?=some (.cells cur e (0,0)))
  (a:Addr) (m c:Nat) (news:List Value) (hl:news.length=m*i.size) (hnews:∀j u,news[j]?=some u->w.cell? (a.add j)=some u) (h1:∀u∈news,u.oneCell'=true)
  (hroom:sLen+m<=sCap) (hfit:off+sLen*i.size+news.length<=cur.size) :
  (append_ #[t,t] ty #[.slice (some ⟨g,off,none⟩) sLen sCap,.slice (some a) m c]).run P w =
   .ok (.slice (some ⟨g,off,none⟩) (sLen+m) sCap) (w.setRow g (cur.toList.take (off+sLen*i.size)++news++cur.toList.drop (off+sLen*i.size+news.length)).toArray):=by
 have hf:=run_firstCells_some (P:=P) w i.size m a m c news hl hnews;have hst:=run_storeCells_at P g (off+sLen*i.size) e news 0 cur w hg (by simpa using hfit) h1;simp only [Nat.add_zero] at hst;simp [append_,run_underlying ht,sizeOf,typeInfo,hi,Builtin.lenOf,hroom,hf,Addr.add_lit,hst]
def Vg (w:World) (B:Nat) (s:Slc) (l:List Int):Prop :=
 (s=⟨none,0,0⟩/\l=[])\/∃(g off:Nat) (cur:List Value),s.a=some ⟨g,off,none⟩/\B<=g/\Blk w g zd cur/\s.n=l.length/\s.n<=s.c/\s.c<=maxLen/\off+s.c<=cur.length/\∀(j:Nat) (x:Int),l[j]?=some x->cur[off+j]?=some (Ua x)
section
variable {w w':World} {B:Nat} {s:Slc} {l:List Int}
theorem Vg.chg {X:Nat->Prop} (h:Vg w B s l) (hc:Chg X w w') (hX:∀k,s.blk=some k->¬X k):Vg w' B s l:=by
 rcases h with h | ⟨g,off,cur,ha,hg,hb,r⟩
 ·exact .inl h
 ·exact .inr ⟨g,off,cur,ha,hg,hb.chg hc (hX g (slk.2 ⟨_,ha,rfl⟩)),r⟩
theorem Vg.ext (h:Vg w B s l) (hB:Uc w w'):Vg w' B s l:=h.chg (Chg.of_ext (S:=λ_=>False) hB) λ_ _ h=>h
theorem Vg.lt (h:Vg w B s l) {k:Nat} (hk:s.blk=some k):B<=k/\k<w.heap.size:=by
 rcases h with ⟨rfl,_⟩ | ⟨g,off,cur,ha,hg,hb,_⟩
 ·cases hk
 ·obtain ⟨a,ha',rfl⟩:=slk.1 hk;rw [ha] at ha';cases ha';exact ⟨hg,hb.lt⟩
theorem Vg.ty (h:Vg w B s l) {k:Nat} (hk:s.blk=some k):∃cs,Blk w k zd cs:=by
 rcases h with ⟨rfl,_⟩ | ⟨g,off,cur,ha,hg,hb,_⟩
 ·cases hk
 ·obtain ⟨a,ha',rfl⟩:=slk.1 hk;rw [ha] at ha';cases ha';exact ⟨cur,hb⟩
theorem Vg.n (h:Vg w B s l):s.n=l.length:=by
 rcases h with ⟨rfl,rfl⟩ | ⟨g,off,cur,ha,hg,hb,h,_⟩
 ·rfl
 ·exact h
theorem Vg.rd (h:Vg w B s l):Rd zw w s l:=by
 rcases h with ⟨rfl,rfl⟩ | ⟨g,off,cur,ha,hg,hb,hn,hc,hm,hf,hx⟩
 ·exact Rd.nil _ _
 ·refine ⟨hn,hc,hm,λ_=>by rw [ha];rfl,λi x hi j v hv=>?_⟩;have hj:j=0:=by
   have:=(List.getElem?_eq_some_iff.1 hv).1;simp [zw] at this;exact this
  subst hj;have e:v=.int .i64 x:=by simpa [zw] using hv.symm
  rw [e];unfold Slc.at_;rw [ha];show w.cell? (((⟨g,off,none⟩:Addr).add (i*1)).add 0)=_;rw [add_zero,q4,mul_one];exact hb.cell _ (hx i x hi)
theorem Vg.of_own {q:Slc} (h:Go.Vc.Own zw w B q l):Vg w B q l:=by
 rcases h.form with ⟨rfl,rfl⟩ | ⟨g,cur,hs,hg,hb,h1,h2,h3,h4⟩
 ·exact .inl ⟨rfl,rfl⟩
 ·have hrd:=h.rd;have hk:zw.k=1:=rfl;rw [hk,mul_one] at h3;have hqa:q.a=some ⟨g,0,none⟩:=by rw [hs]
  refine .inr ⟨g,0,cur,hqa,hg,hb,hrd.n,hrd.nc,hrd.cm,by omega,λj x hx=>?_⟩;have h5:=hrd.at_ j x hx 0 (Ua x) rfl;unfold Slc.at_ at h5;rw [hqa] at h5;have e:(((some ⟨g,0,none⟩:Option Addr).getD default).add (j*zw.k)).add 0=(⟨g,0+j,none⟩:Addr):=by
   rw [hk,mul_one,add_zero];exact q4 ..
  have h5:w.cell? ⟨g,0+j,none⟩=some (Ua x):=by rw [<-e];exact h5
  have hb':w.heap[g]?=some (.cells cur.toArray zd):=hb;simpa [World.cell?,hb'] using h5
theorem Vg.tail {x:Int} (h:Vg w B s (x::l)) {K:Slc->Prop} (hK:∀r,Vg w B r l->r.blk=s.blk->K r):slK s (some 1) none 1 K:=by
 have hrd:=h.rd;rcases h with ⟨_,h⟩ | ⟨g,off,cur,ha,hg,hb,hn,hc,hm,hf,hx⟩
 ·cases h
 ·rw [length_cons] at hn;refine hrd.slK (E:=zw) (k:=1) (l:=1) (m:=l.length+1) rfl (.inr rfl) (.inl ⟨rfl,by rw [length_cons]⟩) (by omega) (by rw [length_cons];omega) λ_=>?_;have ecut:cut s.a 1 s.c zw.k=some ⟨g,if 1<s.c then off+1 else off,none⟩:=by
   rw [ha];unfold cut;by_cases h1:1<s.c
   ·rw [if_neg (by omega),if_pos h1];show some ((⟨g,off,none⟩:Addr).add (1*1))=_;rw [q4]
   ·rw [if_pos (by omega),if_neg h1]
  have hblk:(⟨cut s.a 1 s.c zw.k,l.length+1-1,s.c-1⟩:Slc).blk=s.blk:=by
   unfold Slc.blk;rw [ecut,ha];rfl
  refine hK _ (.inr ⟨g,(if 1<s.c then off+1 else off),cur,ecut,hg,hb,by show l.length+1-1=_;omega,by show l.length+1-1<=s.c-1;omega,by show s.c-1<=_;omega,?_,λj x hj=>?_⟩) hblk
  ·show (if 1<s.c then off+1 else off)+(s.c-1)<=_;split<;>omega
  ·have hjl:=(List.getElem?_eq_some_iff.1 hj).1;rw [if_pos (by omega)];have:=hx (j+1) x (by rw [List.getElem?_cons_succ];exact hj);rw [<-this];congr 1;omega
theorem Vg.snoc (h:Vg w B s l) (hB:B<=w.heap.size) (hl:l.length<=1000) {x:Int} {K:Slc->Ub} (hK:∀r w',Vg w' B r (l++[x])->Chg (λk=>s.blk=some k) w w'->(∀k,r.blk=some k->s.blk=some k\/w.heap.size<=k)->K r w') :
  nw zd [.int .i64 x] w λa w1=>apK PG #[qU,qU] qU s ⟨some a,1,1⟩ w1 λr w2=>K r w2:=by
 refine nwb λw1 hb1 hB1 hs1=>?_;have h1:=h.ext hB1;rcases h1 with ⟨rfl,rfl⟩ | ⟨g,off,cur,ha,hg,hb,hn,hc,hm,hf,hx⟩
 ·refine jx zR (Go.Vc.Own.nil _ _ B) (yg (E:=zw) hb1 (y:=x) rfl) (by omega) (by rw [ZL];simp) (by simp [maxLen]) λr w2 ho hg hr=>?_;refine hK r w2 (.of_own ho) ((Chg.of_ext hB1).trans (Chg.of_grown (S:=λk=>(⟨none,0,0⟩:Slc).blk=some k) hg λk hk=>hk) λi _ hi=>hi) λk hk=>?_;rcases hr with e | e
  ·rw [e] at hk;cases hk
  ·rw [e] at hk;cases hk;right;omega
 ·have hi1:zR.i.size=1:=zR.hs;have hsb:s.blk=some g:=slk.2 ⟨_,ha,rfl⟩;have hne:w.heap.size≠g:=λe=>by have:=(h.lt hsb).2;omega
  have hgb:w1.heap[g]?=some (.cells cur.toArray zd):=hb;have hnews:∀(j:Nat) (u:Value),[Value.int .i64 x][j]?=some u->w1.cell? ((⟨w.heap.size,0,none⟩:Addr).add j)=some u:=by
   intro j u hu;exact hb1.cells j u hu
  have hcur:∀(j:Nat) (v:Value),((cur.drop off).take l.length)[j]?=some v->w1.cell? ((⟨g,off,none⟩:Addr).add j)=some v:=by
   intro j v hv;have hj:=(List.getElem?_eq_some_iff.1 hv).1;rw [length_take] at hj;rw [List.getElem?_take_of_lt (by omega),List.getElem?_drop] at hv;rw [q4];exact hb.cell _ hv
  have e1:(⟨some ⟨w.heap.size,0,none⟩,1,1⟩:Slc).a=some ⟨w.heap.size,0,none⟩:=rfl;by_cases hroom:l.length+1<=s.c
  ·have hrun:=qli (P:=PG) w1 qU qU zd zR.i zR.ht zR.hi g off l.length s.c cur.toArray hgb ⟨w.heap.size,0,none⟩ 1 1 [.int .i64 x] (by rw [hi1];rfl) hnews (by intro u hu;rw [List.mem_singleton] at hu;subst hu;rfl) hroom (by rw [hi1];simp;omega);rw [hi1,mul_one] at hrun;simp only [length_singleton] at hrun;refine ⟨⟨some ⟨g,off,none⟩,l.length+1,s.c⟩,_,(by rw [ha,hn];exact hrun),hK _ _ (.inr ⟨g,off,cur.take (off+l.length)++[.int .i64 x]++cur.drop (off+l.length+1),rfl,hg,?_,by simp,by show l.length+1<=s.c;omega,hm,?_,λj y hy=>?_⟩) ?_ λk hk=>.inl (by rw [hsb];exact hk)⟩
   ·exact setRow_heap w1 g cur.toArray _ zd _ hgb
   ·simp only [length_append,length_take,length_drop,length_singleton];show off+s.c<=_;omega
   ·have hjl:=(List.getElem?_eq_some_iff.1 hy).1;rw [length_append,length_singleton] at hjl;have htl:(cur.take (off+l.length)).length=off+l.length:=by rw [length_take];omega
    rw [append_assoc];by_cases hj:j<l.length
    ·rw [List.getElem?_append_left hj] at hy;rw [List.getElem?_append_left (by omega),List.getElem?_take_of_lt (by omega)];exact hx j y hy
    ·have hje:j=l.length:=by omega
     subst hje;rw [List.getElem?_append_right (le_refl _),sub_self] at hy;have hy:x=y:=by simpa using hy
     rw [List.getElem?_append_right (by omega),htl,sub_self,<-hy];rfl
   ·refine (Chg.of_ext (S:=λk=>s.blk=some k) hB1).trans (Chg.of_grown (row:=some g) ⟨rfl,rfl,rfl,by simp,λk hk hne=>setRow_other w1 g k _ λe=>hne (by rw [e])⟩ λk hk=>by rw [hsb];exact hk) λi _ hi=>hi
  ·have hrun:=run_append_grow (P:=PG) w1 qU qU zd zR.i zR.z zR.ht zR.hi zR.hz ⟨g,off,none⟩ l.length s.c ((cur.drop off).take l.length) (by rw [hi1,length_take,length_drop];omega) hcur ⟨w.heap.size,0,none⟩ 1 1 [.int .i64 x] (by rw [hi1];rfl) hnews (by omega) (by omega) (growslice_fits (by omega) (by rw [ZL];omega));have hge:=grownCap_ge w1 (l.length+1) s.c zd;have hcm:grownCap w1 (l.length+1) s.c zd<=maxLen:=grownCap_le_maxLen w1 _ s.c _ (by simp only [maxLen];omega);have hzs:zR.z.cells.size=1:=zR.hzs;have hB2:Uc w1 (w1.drew.alloc (.cells (((cur.drop off).take l.length).toArray++[Value.int .i64 x].toArray++Builtin.zeroCells zR.z.cells (grownCap w1 (l.length+1) s.c zd-(l.length+1))) zd)):=(kB w1).alloc (le_refl _) _;have z1:=hB1.size;refine ⟨⟨some ⟨w1.heap.size,0,none⟩,l.length+1,grownCap w1 (l.length+1) s.c zd⟩,_,(by rw [ha,hn];exact hrun),hK _ _ (.inr ⟨w1.heap.size,0,(((cur.drop off).take l.length).toArray++[Value.int .i64 x].toArray++Builtin.zeroCells zR.z.cells (grownCap w1 (l.length+1) s.c zd-(l.length+1))).toList,rfl,by omega,?_,by simp,hge,hcm,?_,λj y hy=>?_⟩) ?_ λk hk=>by cases hk;right;omega⟩
   ·unfold Blk;rw [Array.toArray_toList];exact heap_alloc_new w1.drew _
   ·simp only [Array.length_toList,Array.size_append,List.size_toArray,size_zeroCells,hzs,length_take,length_drop,length_singleton];show 0+grownCap w1 (l.length+1) s.c zd<=_;omega
   ·have hjl:=(List.getElem?_eq_some_iff.1 hy).1;rw [length_append,length_singleton] at hjl;have htl:((cur.drop off).take l.length).length=l.length:=by rw [length_take,length_drop];omega
    simp only [Array.toList_append,append_assoc,Nat.zero_add];by_cases hj:j<l.length
    ·rw [List.getElem?_append_left hj] at hy;rw [List.getElem?_append_left (by omega),List.getElem?_take_of_lt hj,List.getElem?_drop];exact hx j y hy
    ·have hje:j=l.length:=by omega
     subst hje;rw [List.getElem?_append_right (le_refl _),sub_self] at hy;have hy:x=y:=by simpa using hy
     rw [List.getElem?_append_right (by omega),htl,sub_self,<-hy];rfl
   ·exact (Chg.of_ext (S:=λk=>s.blk=some k) hB1).trans (Chg.of_ext hB2) λi _ hi=>hi
end
section
variable {w w':World}
theorem q2t (n:Nat):IntKind.u8.wrap (i64.wrap ((48:Int)+((n:Int).tmod 10)))=((UInt8.ofNat (48+n%10)).toNat:Int):=by
 have h1:(n:Int).tmod 10=((n%10:Nat):Int):=(Int.ofNat_tmod n 10).symm;have h2:(48:Int)+((n%10:Nat):Int)=((48+n%10:Nat):Int):=by omega
 have h3:n%10<10:=Nat.mod_lt _ (by decide);rw [h1,qP (by omega),h2,jE .u8 (by show _<2^8;omega),UInt8.toNat_ofNat'];have:(48+n%10)%2^8=48+n%10:=Nat.mod_eq_of_lt (by omega);rw [this]
theorem qfm {n:Nat} (hn:n<100) {K:ByteArray->Ub} (hK:∀w',Uc w w'->K (qS (qsy n)) w'):zE (n:Int) w K:=by
 refine qb6 _ ?_;refine cF (dFq (by omega)) ⟨by decide,?_⟩;rw [q2t];refine nwb λw1 hb1 hB1 hs1=>?_;refine yK (bs:=[UInt8.ofNat (48+n%10)]) (yg (E:=qm) hb1 rfl) ?_;refine lpR (λ(st:Int×ByteArray×Unit) w2=>Uc w w2/\((st.1=(n:Int)/\st.2.1=qS [UInt8.ofNat (48+n%10)])\/(10<=n/\st.1=((n/10:Nat):Int)/\st.2.1=qS (qsy n)))) (λst=>st.1.toNat) ⟨hB1,.inl ⟨rfl,rfl⟩⟩ ?_;rintro ⟨x,s,u⟩ w2 ⟨hB,h⟩ I hI;dsimp only at h ⊢;rcases h with ⟨rfl,rfl⟩ | ⟨h10,rfl,rfl⟩
 ·by_cases h10:10<=n
  ·refine cT (dTq (by omega)) ⟨by decide,by decide,?_⟩;have h1:(n:Int).tdiv 10=((n/10:Nat):Int):=(Int.ofNat_tdiv n 10).symm;have e:i64.wrap ((n:Int).tdiv 10)=((n/10:Nat):Int):=by rw [h1,qP (by omega)]
   rw [e,q2t];refine nwb λw3 hb3 hB3 hs3=>?_;refine yK (bs:=[UInt8.ofNat (48+n/10%10)]) (yg (E:=qm) hb3 rfl) ?_;rw [jh];refine ⟨by rw [qD,qD];simp only [length_cons,length_nil];omega,hI _ _ ⟨bT hB hB3,.inr ⟨h10,rfl,?_⟩⟩ (by show ((n/10:Nat):Int).toNat<((n:Nat):Int).toNat;omega)⟩;unfold qsy;rw [if_neg (by omega),show n/10%10=n/10 by omega];rfl
  ·refine cF (dFq (by omega)) ?_;have e:qsy n=[UInt8.ofNat (48+n%10)]:=by
    unfold qsy;rw [if_pos (by omega),show n%10=n by omega]
   rw [<-e];exact hK w2 hB
 ·exact cF (dFq (by omega)) (hK w2 hB)
theorem qn6 {n:Nat}:(qsy n).length<=2:=by
 unfold qsy;split
 ·show 1<=2;omega
 ·show 2<=2;omega
def qzq (hb xs:List UInt8):List UInt8:=[27,95,71]++hb++[59]++xs++[27,92]
theorem qo1 {hb:List UInt8} {text:Slc} {xs:List UInt8} (hx:Rd qm w text xs) (hl:hb.length+xs.length<=10000) {K:Slc->Ub} (hK:∀q w',Rd qm w' q (qzq hb xs)->(∀k,q.blk=some k->w.heap.size<=k)->Uc w w'->K q w'):jZ (qS hb) text w K:=by
 refine qck _ _ ?_;have e1:(⟨#[27,95,71]⟩:ByteArray)=qS [27,95,71]:=rfl;have e2:(⟨#[59]⟩:ByteArray)=qS [59]:=rfl;have e3:(⟨#[27,92]⟩:ByteArray)=qS [27,92]:=rfl;rw [e1,e2,e3,jh,jh,qD,qD,qD,qD];simp only [length_append,length_cons,length_nil];refine ⟨by omega,by omega,yK hx ?_⟩;rw [jh,jh,qD,qD,qD,qD];simp only [length_append,length_cons,length_nil];refine ⟨by omega,by omega,qf3 (by simp only [length_append,length_cons,length_nil];omega) λq w' hq hqb hB _=>hK q w' hq hqb hB⟩
theorem q90 {hb:List UInt8} {b:Slc} {bs:List UInt8} {B:Nat} (hbs:Go.Vc.Own qm w B b bs) (hbl:bs.length<=3000) (hl:hb.length<=1000) {K:Slc->Ub}
  (hK:∀q w',Rd qm w' q (qzq (hb++[44,109,61,48]) (QE bs))->(∀k,q.blk=some k->w.heap.size<=k)->Uc w w'->K q w'):j8 (qS hb) b 4096 w K:=by
 refine qhs _ _ _ ?_;have hel:=qtj _ bs (le_refl _);refine qwp hbs (by omega) λt w1 ht hB1=>?_;have z1:=hB1.size;refine lpR (λ(st:Slc×Slc×Bool×Unit) w2=>Uc w w2/\((st=(t,⟨none,0,0⟩,true,())/\w2=w1)\/(st.1.n=0/\st.2.2.1=false/\Go.Vc.Own qm w2 w.heap.size st.2.1 (qzq (hb++[44,109,61,48]) (QE bs))))) (λst=>if st.2.2.1 then 1 else 0) ⟨hB1,.inl ⟨rfl,rfl⟩⟩ ?_;rintro ⟨s1,s2,fi,u⟩ w2 ⟨hB,h⟩ I hI;dsimp only at h ⊢;rcases h with ⟨h,rfl⟩ | ⟨h1,h2,h3⟩
 ·cases h;have htr:=ht.rd;have htn:=htr.n;refine jpO λJ2 hJ2=>cT rfl (hJ2 _ _ (jpO λJ3 hJ3=>?_));refine cT (dTq (by omega)) (hJ3 _ _ ?_);have e1:(⟨#[109,61]⟩:ByteArray)=qS [109,61]:=rfl;have e2:(⟨#[48]⟩:ByteArray)=qS [48]:=rfl;have e3:(⟨#[44]⟩:ByteArray)=qS [44]:=rfl;dsimp only;rw [e1,e2,e3];refine ⟨by rw [qD,qD];decide,jpO λJ4 hJ4=>cT rfl ⟨by rw [qD,qD];simp only [length_cons,length_nil];omega,?_⟩⟩;rw [jh,jh,jh];refine ⟨by rw [qD,qD];simp only [length_append,length_cons,length_nil];omega,hJ4 _ _ ?_⟩;dsimp only;refine htr.slK (l:=0) (m:=(QE bs).length) rfl (.inl ⟨rfl,rfl⟩) (.inr (by rw [htn])) (zero_le _) (le_refl _) λhx=>?_;rw [List.take_length,List.drop_zero] at hx;have ea:hb++[44]++([109,61]++[48])=hb++[44,109,61,48]:=by simp
  rw [ea];refine qo1 hx (by simp only [length_append,length_cons,length_nil];omega) λq w3 hq hqb hB3=>?_;have z3:=hB3.size;have hcl:(qzq (hb++[44,109,61,48]) (QE bs)).length<=10000:=by
   unfold qzq;simp only [length_append,length_cons,length_nil];omega
  refine jx zc (Go.Vc.Own.nil qm w3 w.heap.size) hq (by omega) (by rw [xL];simp;omega) (by simp [maxLen];omega) λr w4 hr hg hrb=>?_;have hB4:Uc w w4:=(bT hB hB3).grown hg (by omega) λk hk=>by cases hk
  have htr4:Rd qm w4 t (QE bs):=((htr.ext hB3).chg (Chg.of_grown (S:=λ_=>False) hg λk hk=>by cases hk) λ_ _ h=>h);refine htr4.slK (l:=(QE bs).length) (m:=(QE bs).length) rfl (.inr (by rw [htn])) (.inl ⟨rfl,rfl⟩) (le_refl _) (le_refl _) λ_=>?_;refine hI _ _ ⟨hB4,.inr ⟨?_,rfl,by simpa using hr⟩⟩ (by show (0:Nat)<1;omega);show (QE bs).length-(QE bs).length=0;omega
 ·refine jpO λJ2 hJ2=>?_;rw [h2];refine cF rfl (cF (by rw [h1];rfl) ?_);exact hK _ _ h3.rd (λk hk=>(h3.lt k hk).1) hB
end
structure QSt (m k:Nat) (T:TS) (l:List Int):Prop where
 c:T.c=⟨3,3,2,2,4,((16*m:Nat):Int)⟩
 S:T.S=zda 3 3 4
 f:T.f0=0/\T.f1=0
 n:T.n<=2*k
 rep:T.rep.length<=300*k
 q:QInv m T.n T.E l
theorem zgv:QE z16=qfc:=by kernel_rfl
theorem ze9 (i:Nat):qzq ([97,61,116,44,105,61]++qsy i++[44,115,61,52,44,118,61,49]++[44,109,61,48]) (QE z16)=27::95::71::(kN i++[27,92]):=by
 rw [zgv];unfold qzq kN;simp only [append_assoc,List.cons_append,List.nil_append]
theorem zen (i:Nat):qzq ([97,61,112,44,105,61]++qsy i++[44,67,61,49]) []=27::95::71::(y3 i++[27,92]):=by
 unfold qzq y3;simp only [append_assoc,List.cons_append,List.nil_append]
theorem zhn {i:Nat} (h:1<=i/\i<=12):∀b∈kN i,JB b.toNat=false/\b.toNat<128:=by
 have key:(kN i).all (λb=>!JB b.toNat && decide (b.toNat<128))=true:=by
  rcases zbt h with rfl | rfl | rfl | rfl | rfl | rfl | rfl | rfl | rfl | rfl | rfl | rfl<;>kernel_rfl
 intro b hb;have:=List.all_eq_true.1 key b hb;rw [Bool.and_eq_true,Bool.not_eq_true',decide_eq_true_eq] at this;exact this
theorem zgf {i:Nat} (h:1<=i/\i<=12):∀b∈y3 i,JB b.toNat=false/\b.toNat<128:=by
 have key:(y3 i).all (λb=>!JB b.toNat && decide (b.toNat<128))=true:=by
  rcases zbt h with rfl | rfl | rfl | rfl | rfl | rfl | rfl | rfl | rfl | rfl | rfl | rfl<;>kernel_rfl
 intro b hb;have:=List.all_eq_true.1 key b hb;rw [Bool.and_eq_true,Bool.not_eq_true',decide_eq_true_eq] at this;exact this
theorem zim {i:Nat}:(kN i).length<=100:=by
 have:=@qn6 i;unfold kN qfc;simp only [length_append,length_cons,length_nil,List.length_replicate];omega
theorem zik {i:Nat}:(y3 i).length<=100:=by
 have:=@qn6 i;unfold y3;simp only [length_append,length_cons,length_nil];omega
theorem zic {i:Nat} (h:1<=i/\i<=12):VX (toL (kS i)):=by have:=qfq (yw 59 (kN i));rw [(qu3 h).1] at this;exact this
theorem zgc {i:Nat} (h:1<=i/\i<=12):VX (toL (kP i)):=by have:=qfq (yw 59 (y3 i));rw [(q6o h).1] at this;exact this
section
variable {m k:Nat} {T:TS} {l:List Int}
theorem QSt.fs (h:QSt m k T l):T.S.areas=[]/\Zj T.S=0/\T.S.g1.top=0:=by
 rw [h.S];exact ⟨rfl,rfl,rfl⟩
theorem QSt.view (h:QSt m k T l) (bs:List UInt8):yp (qbe T bs)=v33:=by
 show (⟨⟨T.S.alt,T.S.g.top,T.S.g.rows,T.S.g.cols,T.S.c.Row,T.S.c.Col⟩,T.c.CellW,T.c.CellH⟩:qh)=v33;rw [h.S,h.c];rfl
theorem QSt.go (h:QSt m k T l) (hk:k<=100) (hm:m<=8) {bs:List UInt8} (hok:CmdOk bs/\(kO bs).More≠1) (hlen:bs.length<=100) (hr:∀P,(doK T.E bs P v33).2.moves=false/\(doK T.E bs P v33).2.reply.length<=300):CmdGo T bs/\∀P,(Vj T bs P).c=T.c/\(Vj T bs P).S=T.S/\((Vj T bs P).f0=0/\(Vj T bs P).f1=0)/\(Vj T bs P).n=T.n+2/\(Vj T bs P).E=(doK T.E bs P v33).1/\(Vj T bs P).rep.length<=T.rep.length+300:=by
 obtain ⟨f1,f2,f3⟩:=h.fs;have hv:=h.view bs;have hS:∀P,(Vx (qbe T bs) P).S=T.S:=λP=>by
  show qt2 T.S (doK T.E bs P (yp (qbe T bs))).2=T.S;rw [hv];unfold qt2;rw [if_neg (by rw [(hr P).1];decide)]
 have hrep:∀P,(Vx (qbe T bs) P).rep.length<=T.rep.length+300:=λP=>by
  show (T.rep++(doK T.E bs P (yp (qbe T bs))).2.reply).length<=_;rw [hv,length_append];have:=(hr P).2;omega
 have hn:=h.n;have hrl:=h.rep;refine ⟨⟨hok.1,hok.2,by omega,⟨f1,.inl ⟨f2.trans h.f.1.symm,f3.trans h.f.2.symm⟩⟩,λP=>⟨by rw [hS];exact f1,.inl ⟨by rw [hS];rfl,by rw [hS];rfl⟩⟩,by rw [h.q.q];omega,by omega,by omega,λP=>by have:=hrep P;omega⟩,λP=>⟨rfl,hS P,⟨?_,?_⟩,rfl,?_,hrep P⟩⟩
 ·show Zj (Vx (qbe T bs) P).S=0;rw [hS,f2]
 ·show (Vx (qbe T bs) P).S.g1.top=0;rw [hS,f3]
 ·show (doK T.E bs P (yp (qbe T bs))).1=_;rw [hv]
theorem QSt.send (h:QSt m k T l) (hk:k<=100) (hm:1<=m/\m<=8) {i:Nat} (hi:1<=i/\i<=12) (hn:(i:Int) ∉ l) (hl:l.length<=m):CmdGo T (kN i)/\∀P,StOk (Vj T (kN i) P).n (Vj T (kN i) P).E.S->(Vj T (kN i) P).E.ld=none->QSt m (k+1) (Vj T (kN i) P) (QX m l++[(i:Int)]):=by
 have hTn:=h.n;have hq:=λP=>zh7 h.q hm hi hn hl (by omega) P v33;obtain ⟨h1,h2⟩:=h.go hk hm.2 (zg2 hi) zim λP=>by
  rw [(hq P).1];exact ⟨rfl,quq (zic hi) 0⟩
 refine ⟨h1,λP hok hld=>?_⟩;obtain ⟨a1,a2,a3,a4,a5,a6⟩:=h2 P;have hrl:=h.rep;rw [a4,a5] at hok;rw [a5] at hld;exact ⟨a1.trans h.c,a2.trans h.S,a3,by rw [a4];omega,by omega,by rw [a4,a5];exact (hq P).2 hok hld⟩
theorem QSt.shown (h:QSt m k T l) (hk:k<=100) (hm:m<=8) {i:Nat} (hi:1<=i/\i<=12):CmdGo T (y3 i)/\∀P,StOk (Vj T (y3 i) P).n (Vj T (y3 i) P).E.S->(Vj T (y3 i) P).E.ld=none->QSt m (k+1) (Vj T (y3 i) P) (VH l i):=by
 have hTn:=h.n;have hq:=λP=>zh8 h.q hi P;obtain ⟨h1,h2⟩:=h.go hk hm (zha hi) zik λP=>by
  rcases (hq P).1 with e | e
  ·rw [e];exact ⟨rfl,quq (zgc hi) 7⟩
  ·rw [e];exact ⟨rfl,quq (zgc hi) 0⟩
 refine ⟨h1,λP hok hld=>?_⟩;obtain ⟨a1,a2,a3,a4,a5,a6⟩:=h2 P;have hrl:=h.rep;rw [a4,a5] at hok;rw [a5] at hld;exact ⟨a1.trans h.c,a2.trans h.S,a3,by rw [a4];omega,by omega,by rw [a4,a5];exact (hq P).2 hok hld⟩
theorem QSt.up (h:QSt m k T l):QSt m (k+1) T l:=⟨h.c,h.S,h.f,by have:=h.n;omega,by have:=h.rep;omega,h.q⟩
theorem q8x (l:List Int) (u:Int) (hd:l.Nodup):(VH l u).length<=l.length:=by
 unfold VH;split
 ·rename_i hu;have h1:(l.filter λk=>k !=u).length<l.length:=by
   rw [List.length_filter_lt_length_iff_exists];exact ⟨u,hu,by simp⟩
  rw [length_append,length_singleton];omega
 ·exact le_refl _
end
structure QR (w:World) (B m j:Nat) (F:TmF) (PF:PF) (T:TS) (s:Slc) (l:List Int):Prop where
 tp:TPI w B F PF ps0 T
 q:QSt m (2*j) T l
 o:Vg w B s l
 d:∀k,s.blk=some k->¬(vE PF k\/qap F T k)
 len:l.length<=m
 rng:∀x∈l,1<=x/\x<=(j:Int)
section
variable {w w':World} {B m j:Nat} {F:TmF} {PF:PF} {T:TS} {s:Slc} {l:List Int}
theorem QR.ext (h:QR w B m j F PF T s l) (hB:Uc w w'):QR w' B m j F PF T s l:=⟨h.tp.ext hB,h.q,h.o.ext hB,h.d,h.len,h.rng⟩
theorem zgy {i:Nat} (hi:i<100) {TL:Slc->Ub} (h:∀t w',Go.Vc.Own qm w' w.heap.size t z16->Uc w w'->j8 (qS ([97,61,116,44,105,61]++qsy i++[44,115,61,52,44,118,61,49])) t 4096 w' TL) :
  (zE (i:Int) w λt44 w6=>
   ((((⟨#[97,61,116,44,105,61]⟩:ByteArray).size+t44.size:Nat):Int)<=9223372036854775807) /\
   (((((⟨#[97,61,116,44,105,61]⟩:ByteArray)++t44).size+(⟨#[44,115,61,52,44,118,61,49]⟩:ByteArray).size:Nat):Int)<=9223372036854775807) /\
   qwx PG qg (Ua 16) (Ua 16) w6 λt47 w7=>
   j8 (((⟨#[97,61,116,44,105,61]⟩:ByteArray)++t44)++(⟨#[44,115,61,52,44,118,61,49]⟩:ByteArray)) t47 4096 w7 TL) /\
  qwx PG qg (Ua 16) (Ua 16) w λt47_1 w22=>
   zE (i:Int) w22 λt44_1 w23=>
   ((((⟨#[97,61,116,44,105,61]⟩:ByteArray).size+t44_1.size:Nat):Int)<=9223372036854775807) /\
   (((((⟨#[97,61,116,44,105,61]⟩:ByteArray)++t44_1).size+(⟨#[44,115,61,52,44,118,61,49]⟩:ByteArray).size:Nat):Int)<=9223372036854775807) /\
   j8 (((⟨#[97,61,116,44,105,61]⟩:ByteArray)++t44_1)++(⟨#[44,115,61,52,44,118,61,49]⟩:ByteArray)) t47_1 4096 w23 TL:=by
 have e1:(⟨#[97,61,116,44,105,61]⟩:ByteArray)=qS [97,61,116,44,105,61]:=rfl;have e2:(⟨#[44,115,61,52,44,118,61,49]⟩:ByteArray)=qS [44,115,61,52,44,118,61,49]:=rfl;rw [e1,e2];have hd:=@qn6 i;have mk:∀(wx:World) (Kx:Slc->Ub),(∀w',Go.Vc.Own qm w' wx.heap.size ⟨some ⟨wx.heap.size,0,none⟩,16,16⟩ z16->Uc wx w'->Kx ⟨some ⟨wx.heap.size,0,none⟩,16,16⟩ w')->qwx PG qg (Ua 16) (Ua 16) wx Kx:=λwx Kx hk=>
  qz5 (E:=qm) zc (x0:=(0:UInt8)) rfl (n:=16) rfl rfl (by rw [xL];omega) (by decide) hk
 refine ⟨qfm hi λw1 hB1=>?_,?_⟩
 ·rw [jh,jh,qD,qD,qD,qD];simp only [length_append,length_cons,length_nil];refine ⟨by omega,by omega,mk _ _ λw2 ho hB2=>?_⟩;exact h _ w2 (ho.base hB1.size) (bT hB1 hB2)
 ·refine mk _ _ λw1 ho hB1=>qfm hi λw2 hB2=>?_;rw [jh,jh,qD,qD,qD,qD];simp only [length_append,length_cons,length_nil];exact ⟨by omega,by omega,h _ w2 (ho.ext hB2) (bT hB1 hB2)⟩
theorem q78 {F:TmF} {base:Nat} (h:TermM w base F T) (hn:T.n<=1000) {a:Addr} {id:Int} (ha:w.cell? a=some (Ua id)) (hi:(zp T.E.S.L id).isSome=true) {TL:Bool->Ub} (hK:∀w',Uc w w'->TL true w') :
  (zC (some ⟨F.tg,0,none⟩) w λt133 w42=>
   w42.cell? a=some (Ua id) /\
    (
     zK t133 id w42 λt138 t138_1 w43=>
     nw qq [(Ua 0),(Ua 0),(.slice none 0 0)] w43 λx_ w44=>
     w44.cell? a=some (Ua id) /\
     stK x_ (qa.rep.cells t138) w44 λw45=>TL t138_1 w45) /\
   nw qq [(Ua 0),(Ua 0),(.slice none 0 0)] w42 λx__1 w46=>
   w46.cell? a=some (Ua id) /\
   zK t133 id w46 λt138_2 t138_3 w47=>
   stK x__1 (qa.rep.cells t138_2) w47 λw48=>TL t138_3 w48) /\
  nw qq [(Ua 0),(Ua 0),(.slice none 0 0)] w λx__2 w49=>
   w49.cell? a=some (Ua id) /\
   zC (some ⟨F.tg,0,none⟩) w49 λt133_1 w50=>
   w50.cell? a=some (Ua id) /\
   zK t133_1 id w50 λt138_4 t138_5 w51=>
   stK x__2 (qa.rep.cells t138_4) w51 λw52=>TL t138_5 w52:=by
 have hlt:=World.block_lt_of_cell? w _ ha;have keep:∀{w'},Uc w w'->w'.cell? a=some (Ua id):=λhB=>(World.cell?_of_block (hB.block _ hlt)).trans ha;have hok:=h.en.ok;have fin:∀(wz:World) (b:Nat) (x:qa) (bb:Bool),Uc w wz->w.heap.size<=b->Blk wz b qq [(Ua 0),(Ua 0),(.slice none 0 0)]->bb=true->stK ⟨b,0,none⟩ (qa.rep.cells x) wz λw45=>TL bb w45:=by
  rintro wz b x bb hB hb hblk rfl;exact x5 hblk rfl λw' _ hc _=>hK w' (b1o hB hc hb)
 refine ⟨QS h λg' r' w1 hst hB1=>⟨keep hB1,?_,?_⟩,?_⟩
 ·refine qto hst hok id λP w2 _ hB2=>nwb λw3 hb3 hB3 hs3=>?_;have B2:=bT hB1 hB2;exact ⟨keep (bT B2 hB3),fin w3 _ _ _ (bT B2 hB3) B2.size hb3 hi⟩
 ·refine nwb λw2 hb2 hB2 hs2=>⟨keep (bT hB1 hB2),?_⟩;refine qto (hst.ext hB2) hok id λP w3 _ hB3=>?_;exact fin w3 _ _ _ (bT (bT hB1 hB2) hB3) hB1.size (hb2.ext hB3) hi
 ·refine nwb λw1 hb1 hB1 hs1=>⟨keep hB1,QS (h.ext hB1) λg' r' w2 hst hB2=>⟨keep (bT hB1 hB2),?_⟩⟩;refine qto hst hok id λP w3 _ hB3=>?_;exact fin w3 _ _ _ (bT (bT hB1 hB2) hB3) (le_refl _) ((hb1.ext hB2).ext hB3) hi
end
theorem qvt {T:TS} {v:EvP} (h:v.k≠11) (P:Slc):qd4 T v P=qd4 T v ⟨none,0,0⟩:=by
 unfold qd4 X9;split
 ·rfl
 ·split
  ·rfl
  ·rfl
noncomputable def kT1:TS:=qd4 (qu6 kc) (q0k 120) ⟨none,0,0⟩
noncomputable def kT2:TS:=qd4 kT1 ⟨4,0,110,0,[],[5],[]⟩ ⟨none,0,0⟩
theorem k2x:kT2.S.g.L=[[⟨120,0,at0⟩,qei,qei],[qei,qei,qei]]:=by kernel_rfl
theorem qs0 {l r:List UInt8} {n:Nat} (h:l=r) (hr:r.length<=n):l.length<=n:=by rw [h];exact hr
theorem zh6 (b tg pg:Nat):jf (TH2 b tg pg) (qu6 kc) kev:=by
 refine ⟨⟨.inr (.inr (.inr ⟨.inl rfl,.inl rfl⟩)),λP=>⟨by kernel_rfl,.inr (by kernel_rfl)⟩,qs0 (r:=[]) (by kernel_rfl) (by decide),λP=>qs0 (r:=[]) (by kernel_rfl) (by decide),?_⟩,?_⟩
 ·rw [show (qu6 kc).n=0 by kernel_rfl];decide
 rintro m ⟨P1,rfl⟩;rw [qvt (show (q0k 120).k≠11 by decide)];refine ⟨⟨.inr (.inr (.inr ⟨.inr rfl,.inr ⟨rfl,rfl,rfl,.inl rfl⟩⟩)),λP=>⟨by kernel_rfl,.inr (by kernel_rfl)⟩,qs0 (r:=[]) (by kernel_rfl) (by decide),λP=>qs0 (r:=[27,91,48,110]) (by kernel_rfl) (by decide),?_⟩,λ_ _=>trivial⟩;show kT1.n<=880;rw [show kT1.n=0 by kernel_rfl];decide
theorem ze4 {b tg pg:Nat} {T':TS} (h:ZM (TH2 b tg pg) (qu6 kc) kev T'):T'=kT2:=by
 obtain ⟨m1,⟨P1,rfl⟩,m2,⟨P2,rfl⟩,rfl⟩:=h;rw [qvt (show (q0k 120).k≠11 by decide)];exact qvt (show (4:Int)≠11 by decide) P2
theorem q3c {P:Cel->Prop} (h0:P qei) (h1:P ⟨120,0,at0⟩):∀r c,P (xQ kT2.S.g.L r c):=by
 refine zdt (λxs hx c hc=>?_) h0;rw [k2x] at hx;simp only [mem_cons,List.not_mem_nil,or_false] at hx;rcases hx with rfl | rfl
 ·simp only [mem_cons,List.not_mem_nil,or_false] at hc;rcases hc with rfl | rfl | rfl
  ·exact h1
  ·exact h0
  ·exact h0
 ·simp only [mem_cons,List.not_mem_nil,or_false] at hc;rcases hc with rfl | rfl | rfl<;>exact h0
section
variable {w w':World} {base:Nat} {F F':TmF} {T T':TS}
theorem zay {PF:PF} {p:PS} (h:TPI w base F PF p T) {q:Slc} {bs:List UInt8} {w3:World} (hB:Uc w w3) (hq:Cmd w3 w.heap.size q bs):∀a,q.a=some a->¬vE PF a.block/\¬qap F T a.block/\a.block<w3.heap.size:=by
 intro a ha;have hb:w.heap.size<=a.block/\a.block<w3.heap.size:=by
  rcases hq with h | ⟨g,hg,rfl,h⟩
  ·exact h.lt a.block (slk.2 ⟨a,ha,rfl⟩)
  ·cases ha;exact ⟨hg,h.lt⟩
 exact ⟨λhs=>by have:=(h.lt (.inl hs)).2;omega,λhs=>by have:=(h.lt (.inr hs)).2;omega,hb.2⟩
theorem q7c (hT:Tab w) (h4:4<=w.heap.size) {K:Bool->Ub} (hK:∀w',Uc w w'->K true w'):Q7 w K:=by
 refine qf1 ?_;unfold KW;refine qva (by unfold okC;decide) rfl hT h4 λF PF w1 M1 hB1=>cF rfl ?_;refine zab (bs:=kbs) rfl rfl λq w3 hq hB3=>?_;have M3:=M1.two.ext hB3;refine qrv M3 (hq.rd (by decide)) (by decide) (by decide) (zay M1.two hB3 hq) (by rw [zcy];exact zh6 _ _ _) λF4 PF4 T4 w4 M4 hR e4 hc4 hold=>?_;rw [zcy] at hR;have hT4:=ze4 hR;subst hT4;rw [<-e4];have B1:=bT hB1 hB3;have B4:Uc w w4:=B1.trans (M3.belowB hc4);have m4:=M4.tm;refine qvx m4 (by rw [show kT2.n=0 by kernel_rfl];decide) (by kernel_rfl) (by kernel_rfl) (cw:=2) (ch:=2) (by kernel_rfl) (by kernel_rfl) (by decide) (q3c (P:=λc=>c.A=at0) rfl rfl) (q3c (P:=λc=>0<=c.R/\c.R<=1114111) ⟨by decide,by decide⟩ ⟨by decide,by decide⟩) (by rw [show kT2.S.g.cols=3 by kernel_rfl];decide) (by rw [show kT2.S.g.rows=2 by kernel_rfl];decide) (by rw [show kT2.S.g.cols=3 by kernel_rfl,show kT2.S.g.rows=2 by kernel_rfl];decide) (by rw [show kT2.S.c.Row=0 by kernel_rfl];decide) (by rw [show kT2.S.c.Col=1 by kernel_rfl];decide) λm w5 hmw hmh hB5=>?_;have hw6:m.W=6:=hmw.trans (by kernel_rfl);have hh4:m.H=4:=hmh.trans (by kernel_rfl);refine ko (vs:=qa.rep.cells m) rfl λw7 h7 hB7 hs7=>?_;have B7:=bT hB5 hB7;have m7:=m4.ext B7;refine qpk m7 λql ls w8 hql hls hB8=>cT rfl ?_;rw [k2x] at hls;have h8:=h7.ext hB8;refine lI (x:=6) (by rw [<-hw6];exact h8.cells 0 _ rfl) (cT rfl (lI (x:=4) (by rw [<-hh4];exact h8.cells 1 _ rfl) (cT rfl ?_)));have hlen:ls.length=2:=hls.1;refine cT (by rw [hql.rd.n,hlen];rfl) ?_;obtain ⟨s0,hs0,hss⟩:=q6r (xs:=ls) (k:=0) (by omega);refine hql.rd.ix (i:=0) (k:=1) rfl (by decide) (by omega) λhc=>?_;have hss':=hss (by show (0:Nat)<ls.length;omega);refine lSl (x:=s0) (by have:=hc 0 _ rfl;rw [show ls[(0:Int).toNat]'(by show (0:Nat)<ls.length;omega)=s0 from hss'] at this;simpa using this) ?_;refine q96 (hls.2 0 s0 _ hs0 rfl).rd (by decide) λw9 hB9=>cT zhy ?_;have m9:=(m7.ext hB8).ext hB9;refine qtv m9 λqr F10 w10 hqr t10=>yK hqr ?_;have hr:((qS kT2.rep).toList==(⟨#[27,91,48,110]⟩:ByteArray).toList)=true:=by
  rw [Ky,show kT2.rep=[27,91,48,110] by kernel_rfl];kernel_rfl
 rw [hr];refine hK w10 ?_;have B9:=bT (bT (bT B4 B7) hB8) hB9;exact B9.trans ((m9.belowB t10).mono (le_refl _))
end
section
variable {w w':World} {B m j:Nat} {F:TmF} {PF:PF} {T:TS} {s:Slc} {l:List Int}
theorem QR.feed (h:QR w B m j F PF T s l) {bs:List UInt8} (hgo:CmdGo T bs) (hsp:∀b∈bs,JB b.toNat=false/\b.toNat<128) {w1:World} (hB:Uc w w1) {q:Slc} (hq:Rd qm w1 q (27::95::71::(bs++[27,92]))) (hqn:∀k,q.blk=some k->w.heap.size<=k) {K:Ub}
  (hK:∀P F' PF' w',TPI w' B F' PF' ps0 (Vj T bs P)->F'.tg=F.tg->Vg w' B s l->(∀k,s.blk=some k->¬(vE PF' k\/qap F' (Vj T bs P) k))->w1.heap.size<=w'.heap.size->Below B w w'->(∀(q:Slc) (xs:List Int),Rd zw w q xs->(∀k,q.blk=some k->k<B)->Rd zw w' q xs)->K w'):jq (some ⟨F.tg,0,none⟩) q w1 K:=by
 have h1:=h.ext hB;refine zdy h1.tp rfl rfl hgo hsp hq (λa ha=>?_) λP F' PF' w' hM ht hc hold=>?_
 ·have hk:=hqn a.block (slk.2 ⟨a,ha,rfl⟩);have hpos:0<(27::95::71::(bs++[27,92]):List UInt8).length:=by simp
  refine ⟨λhs=>?_,λhs=>?_,q0y hq hpos a ha⟩
  ·have:=(h.tp.lt (.inl hs)).2;omega
  ·have:=(h.tp.lt (.inr hs)).2;omega
 ·have hb:=h1.tp.belowB hc;have hBw:B<=w.heap.size:=h.tp.tm.base_le;refine hK P F' PF' w' hM ht (h1.o.chg hc h1.d) (λk hk hs=>?_) hc.size ((hB.mono hBw).trans hb) λq xs hr hlt=>?_
  ·rcases hold k hs with h3 | h3
   ·exact h1.d k hk h3
   ·have:=(h1.o.lt hk).2;omega
  ·exact (hr.ext hB).chg hc λa ha hs=>by
    have h4:=(h1.tp.lt hs).1;have h5:=hlt a.block (slk.2 ⟨a,ha,rfl⟩);omega
theorem q6h {m:Nat} {l:List Int} (hm:1<=m) (hl:l.length<=m) (i:Int):(l.length+1>m->∃x r,l++[i]=x::r/\r=QX m l++[i])/\(¬l.length+1>m->l++[i]=QX m l++[i]):=by
 unfold QX;refine ⟨λh=>?_,λh=>?_⟩
 ·rw [if_pos (by omega)];cases l with
  | nil=>simp at h;omega
  | cons x r=>exact ⟨x,r++[i],rfl,rfl⟩
 ·rw [if_neg (by omega)]
theorem q2e (l:List Int) (u:Int) {k:Nat} {x:Int} (hx:l[k]?=some x):(l.take (k+1)).filter (λy=>y !=u)=(l.take k).filter (λy=>y !=u)++(if x !=u then [x] else []):=by
 rw [List.take_add_one,hx,List.filter_append];congr 1;cases hxu:(x !=u)<;>simp [hxu]
theorem zam {n room:Int} {uses:Slc} {us:List Int} (hT:Tab w) (hus:Rd zw w uses us) {K:Bool->Ub} (hK:∀w',Uc w w'->K true w'):Jx n room uses w K:=by
 have h4:4<=w.heap.size:=zdb (g:=3) (by kernel_rfl) hT;refine qau _ _ _ ?_;refine q7c hT h4 λw1 hB1=>cF rfl ?_;refine qjl (by omega) λk1 hk1=>qjl (by omega) λk2 hk2=>?_;have hun:=hus.n;refine cO (λe=>hK w1 hB1) λe30=>?_;have e30:=oFq e30;have e16:i64.wrap ((16:Int)*(i64.wrap ((1:Int)+(k2:Int))))=((16*(k2+1):Nat):Int):=by
  rw [qP (x:=(1:Int)+(k2:Int)) (by omega),qP (by omega)];omega
 have eN:i64.wrap ((1:Int)+(k1:Int))=((k1+1:Nat):Int):=by rw [qP (by omega)];omega
 have eM:i64.wrap ((1:Int)+(k2:Int))=((k2+1:Nat):Int):=by rw [qP (by omega)];omega
 rw [e16,eN,eM];obtain ⟨m,hm⟩:∃m,m=k2+1:=⟨_,rfl⟩;obtain ⟨N,hN⟩:∃N,N=k1+1:=⟨_,rfl⟩;rw [<-hm,<-hN];have hm8:1<=m/\m<=8:=by omega
 have hN12:1<=N/\N<=12:=by omega
 have hT1:=hT.ext hB1;have z1:=hB1.size;refine qva (by unfold okC;dsimp only;omega) (by unfold Vl;rw [if_neg (by omega)]) hT1 (by omega) λF0 PF0 w2 M2 hB2=>cF rfl ?_;have z2:=hB2.size;have B2:=bT hB1 hB2;obtain ⟨B,hBe⟩:∃B,B=w1.heap.size:=⟨_,rfl⟩;rw [<-hBe] at M2;have q0:QSt m 0 (qu6 ⟨3,3,2,2,4,((16*m:Nat):Int)⟩) []:=by
  refine ⟨rfl,rfl,⟨rfl,rfl⟩,le_refl _,le_refl _,⟨M2.tm.en.ok,⟨List.nodup_nil,λk=>⟨(λh=>by cases h),λ⟨x,hx⟩=>by cases hx⟩,List.Pairwise.nil,λp hp=>by cases hp⟩,rfl,⟨(λp hp=>by cases hp),rfl,qza.none rfl⟩,rfl⟩⟩
 refine lpR (λ(st:Slc×Int×Unit) w5=>∃(j:Nat) (l:List Int) (F:TmF) (PF:PF) (T:TS),st.2.1=((j+1:Nat):Int)/\j<=N/\QR w5 B m j F PF T st.1 l/\F.tg=F0.tg/\Below B w1 w5/\Rd zw w5 uses us) (λst=>N+1-st.2.1.toNat)
  ⟨0,[],F0,PF0,_,rfl,by omega,⟨M2.two,q0,.inl ⟨rfl,rfl⟩,(λk hk=>by cases hk),zero_le _,λx hx=>by cases hx⟩,rfl,by rw [hBe];exact hB2,(hus.ext hB1).ext hB2⟩ ?_
 have rows:∀{wx},Below B w1 wx->Rd zw wx uses us:=λhB=>qfw (hus.ext hB1) (Chg.of_below hB) λhp a ha hs=>by have:=q0y hus hp a ha;omega
 rintro ⟨s,i,u⟩ w5 ⟨j,l,F,PF,T,hi,hj,hR,htg,hB5,hu5⟩ I hI;dsimp only at hi hR ⊢;subst hi;have hB15:Uc w w5:=hB1.trans (hB5.mono (by omega));refine cO (λe=>?_) λe=>?_
 ·
  have e:=oTq e;have hjN:j+1<=12:=by omega
  have hi12:1<=j+1/\j+1<=12:=by omega
  have hni:((j+1:Nat):Int) ∉ l:=λhh=>by have:=(hR.rng _ hh).2;omega
  have hRd:=hR.ext (bdw w5);have z5d:w5.drew.heap.size=w5.heap.size:=rfl;refine zgy (i:=j+1) (by omega) λt w6 ht hB6=>?_;refine q90 ht (by decide) (by have:=@qn6 (j+1);simp only [length_append,length_cons,length_nil];omega) λq w7 hq hqn hB7=>?_;rw [ze9] at hq;have B7:=bT hB6 hB7;obtain ⟨hgo,hst⟩:=hRd.q.send (by omega) hm8 hi12 hni hRd.len;rw [<-htg];have z6:=hB6.size;refine hRd.feed hgo (zhn hi12) B7 hq (λk hk=>by have:=hqn k hk;omega) λP F1 PF1 w8 hM1 ht1 ho1 hd1 hz1 hBw1 hrd1=>?_;have hq1:=hst P hM1.tm.en.ok hM1.tm.ld;have hB18:Below B w1 w8:=(hB5.trans ((bdw w5).mono (by have:=hR.tp.tm.base_le;omega))).trans hBw1;have hl8:l.length<=8:=by have:=hR.len;omega
  refine ho1.snoc hM1.tm.base_le (by omega) λs1 w9 ho9 hc9 hs9=>?_;have hne:∀k,s.blk=some k->¬(vE PF1 k\/qap F1 (Vj T (kN (j+1)) P) k):=hd1;have tpi:∀{wa wb:World} {sb:Slc} {F2:TmF} {PF2:Go.Proofs.YtokfefnmpjohpaaGreatDoor.PF} {T2:TS} {p2:PS},TPI wa B F2 PF2 p2 T2->(∀k,sb.blk=some k->¬(vE PF2 k\/qap F2 T2 k))->(∀k,sb.blk=some k->∃cs,Blk wa k zd cs)->(∀k,sb.blk=some k->B<=k)->Chg (λk=>sb.blk=some k) wa wb->TPI wb B F2 PF2 p2 T2:=by
   intro wa wb sb F2 PF2 T2 p2 hM hd hty hge hc;obtain ⟨fv,hp⟩:=hM.pm;refine ⟨hM.tm.keep hc (λk hk hs=>hd k hs (.inr (.inl hk))) (λk hk hs=>hd k hs (.inr (.inr hk))) (λk cs hk hb=>?_) (qb5 hM.tm hc hge),⟨fv,hp.chg hc λk hk hs=>hd k hs (.inl hk)⟩,hM.e,hM.dj⟩;obtain ⟨cs2,hcs2⟩:=hty k hk;exact hcs2.ne_t hb (by decide) rfl
  have hM9:=tpi hM1 hne (λk hk=>ho1.ty hk) (λk hk=>(ho1.lt hk).1) hc9;have hd9:∀k,s1.blk=some k->¬(vE PF1 k\/qap F1 (Vj T (kN (j+1)) P) k):=λk hk hs=>by
   rcases hs9 k hk with h3 | h3
   ·exact hne k h3 hs
   ·have:=(hM1.lt hs).2;omega
  have hB19:Below B w1 w9:=hB18.trans (hc9.below hM1.tm.base_le λi hi hs=>by have:=(ho1.lt hs).1;omega);have hu9:Rd zw w9 uses us:=rows hB19;refine jpO λJ2 hJ2=>?_;have lroom:=qyl hR.len hm8.1;have cut:∀s2,Vg w9 B s2 (QX m l++[((j+1:Nat):Int)])->(∀k,s2.blk=some k->s1.blk=some k)->J2 (s2,()) w9:=by
   intro s2 ho2 hs2;refine hJ2 _ _ ?_;dsimp only;have eij:i64.wrap (((j+1:Nat):Int)-(1:Int))=(j:Int):=by rw [qP (by omega)];omega
   have ein:i64.wrap (((j+1:Nat):Int)+(1:Int))=((j+1+1:Nat):Int):=by rw [qP (by omega)];omega
   rw [eij,ein];have hd2:∀k,s2.blk=some k->¬(vE PF1 k\/qap F1 (Vj T (kN (j+1)) P) k):=λk hk=>hd9 k (hs2 k hk);have hlen2:(QX m l++[((j+1:Nat):Int)]).length<=m:=by rw [length_append,length_singleton];omega
   have hrng2:∀x∈QX m l++[((j+1:Nat):Int)],1<=x/\x<=((j+1:Nat):Int):=λx hx=>by
    rcases List.mem_append.1 hx with h3 | h3
    ·have:=hR.rng x (qw3 h3);omega
    ·rw [List.mem_singleton] at h3;omega
   have hR2:QR w9 B m (j+1) F1 PF1 (Vj T (kN (j+1)) P) s2 (QX m l++[((j+1:Nat):Int)]):=⟨hM9,hq1.up,ho2,hd2,hlen2,hrng2⟩;have ht1':F1.tg=F0.tg:=ht1.trans htg;refine cO (λeu=>?_) λeu=>?_
   ·have eu:=oTq eu;have hjl:j<us.length:=by omega
    refine hu9.ix (E:=zw) (i:=(j:Int)) (k:=1) rfl (by omega) (by omega) λhc=>?_;refine lI (x:=us[(j:Int).toNat]'(by omega)) (by simpa using hc 0 _ rfl) ?_;refine qjl (by omega) λk3 hk3=>?_;have ek3:i64.wrap ((1:Int)+(k3:Int))=((k3+1:Nat):Int):=by rw [qP (by omega)];omega
    rw [ek3];obtain ⟨v,hv⟩:∃v,v=k3+1:=⟨_,rfl⟩;rw [<-hv];have hv12:1<=v/\v<=12:=by omega
    refine qfm (n:=v) (by omega) λw10 hB10=>?_;have e1:(⟨#[97,61,112,44,105,61]⟩:ByteArray)=qS [97,61,112,44,105,61]:=rfl;have e2:(⟨#[44,67,61,49]⟩:ByteArray)=qS [44,67,61,49]:=rfl;have hdl:=@qn6 v;rw [e1,e2,jh,jh,qD,qD,qD,qD];simp only [length_append,length_cons,length_nil];refine ⟨by omega,by omega,?_⟩;refine qo1 (xs:=[]) (Rd.nil _ _) (by simp only [length_append,length_cons,length_nil];omega) λq2 w11 hq2 hqn2 hB11=>?_;rw [zen] at hq2;have B11:=bT hB10 hB11;have z10:=hB10.size;have hQS:QSt m (2*j+1) (Vj T (kN (j+1)) P) (QX m l++[((j+1:Nat):Int)]):=hq1;obtain ⟨hgo2,hst2⟩:=hQS.shown (by omega) hm8.2 hv12;rw [<-ht1];refine hR2.feed hgo2 (zgf hv12) B11 hq2 (λk hk=>by have:=hqn2 k hk;omega) λP2 F2 PF2 w12 hM2 ht2 ho12 hd12 hz12 hBw2 hrd2=>?_;have hq2':=hst2 P2 hM2.tm.en.ok hM2.tm.ld;have hB112:Below B w1 w12:=hB19.trans hBw2;have hu12:=rows hB112;have hos:=ho12.rd;have hosn:=ho12.n;obtain ⟨lo,hlo⟩:∃lo,lo=QX m l++[((j+1:Nat):Int)]:=⟨_,rfl⟩;rw [<-hlo] at hos hosn ho12 hlen2 hrng2 hq2';have hlo8:lo.length<=8:=by omega
    refine lpR (λ(st:Slc×Int×Unit) w13=>∃k:Nat,st.2.1=(k:Int)/\k<=lo.length/\Go.Vc.Own zw w13 w12.heap.size st.1 ((lo.take k).filter λy=>y !=(v:Int))/\Uc w12 w13) (λst=>lo.length-st.2.1.toNat)
     ⟨0,rfl,zero_le _,Go.Vc.Own.nil _ _ _,Below.refl _ _⟩ ?_
    rintro ⟨r,kk,u2⟩ w13 ⟨k,hk,hkl,hr,hB13⟩ I2 hI2;dsimp only at hk hr ⊢;subst hk;have z13:=hB13.size;have hos13:=hos.ext hB13;have hfl:((lo.take k).filter λy=>y !=(v:Int)).length<=8:=Nat.le_trans (List.length_filter_le _ _) (by rw [length_take];omega);refine cO (λek=>?_) λek=>?_
    ·have ek:=oTq ek;have hkl2:k<lo.length:=by omega
     have hx:lo[k]?=some lo[k]:=List.getElem?_eq_getElem hkl2;have ekn:i64.wrap ((k:Int)+(1:Int))=((k+1:Nat):Int):=by rw [qP (by omega)];omega
     rw [ekn];have hft:=q2e lo (v:Int) hx;refine hos13.ix (E:=zw) (i:=(k:Int)) (k:=1) rfl (by omega) (by omega) λhc=>?_;have hc:w13.cell? (s2.at_ zw.k (k:Int).toNat)=some (Ua lo[k]):=by simpa using hc 0 _ rfl
     refine lI (x:=lo[k]) hc (cO (λen=>?_) λen=>?_)
     ·rw [if_pos en] at hft;refine hos13.ix (E:=zw) (i:=(k:Int)) (k:=1) rfl (by omega) (by omega) λ_=>?_;refine lI (x:=lo[k]) hc ?_;refine YZ (E:=zw) zR hr (y:=lo[k]) rfl z13 (by rw [ZL];omega) (by unfold maxLen;omega) λr2 w14 ho14 hc14 hr14=>?_;refine hI2 _ _ ⟨k+1,rfl,hkl2,by rw [hft];exact ho14,hB13.trans (hc14.below z13 λi hi hs=>by have:=(hr.lt i hs).1;omega)⟩ (by show lo.length-((k+1:Nat):Int).toNat<lo.length-((k:Nat):Int).toNat;omega)
     ·rw [if_neg (by rw [en];decide),List.append_nil] at hft;refine hI2 _ _ ⟨k+1,rfl,hkl2,by rw [hft];exact hr,hB13⟩ (by show lo.length-((k+1:Nat):Int).toNat<lo.length-((k:Nat):Int).toNat;omega)
    ·have ek:=oFq ek;have hke:k=lo.length:=by omega
     subst hke;rw [List.take_length] at hr hfl;have hrn:=hr.rd.n;have hM13:=hM2.ext hB13;have hB113:Below B w1 w13:=hB112.trans (hB13.mono (by have:=hM2.tm.base_le;omega));have hmem:∀x∈VH lo (v:Int),x∈lo:=λx hx=>by
      unfold VH at hx;split at hx
      ·rename_i hin;rcases List.mem_append.1 hx with h3 | h3
       ·exact (List.mem_filter.1 h3).1
       ·rw [List.mem_singleton] at h3;rw [h3];exact hin
      ·exact hx
     have hul2:(VH lo (v:Int)).length<=m:=Nat.le_trans (q8x lo _ (by have:=hq1.q.ord.nd;rw [<-hlo] at this;exact this)) hlen2;have ht2':F2.tg=F0.tg:=ht2.trans ht1';have hbl:B<=w12.heap.size:=hM2.tm.base_le;by_cases hin:(v:Int)∈lo
     ·have hlt:(lo.filter λy=>y !=(v:Int)).length<lo.length:=by
       rw [List.length_filter_lt_length_iff_exists];exact ⟨_,hin,by simp⟩
      refine cT (dTq (by rw [hrn,hosn];omega)) ?_;refine YZ (E:=zw) zR hr (y:=(v:Int)) rfl z13 (by rw [ZL];omega) (by unfold maxLen;omega) λr2 w14 ho14 hc14 hr14=>?_;have eu1:VH lo (v:Int)=(lo.filter λy=>y !=(v:Int))++[(v:Int)]:=by unfold VH;rw [if_pos hin]
      rw [<-eu1] at ho14;have hB14:Uc w12 w14:=hB13.trans (hc14.below z13 λi hi hs=>by have:=(hr.lt i hs).1;omega);refine hI _ _ ⟨j+1,VH lo (v:Int),F2,PF2,_,rfl,by omega,⟨hM2.ext hB14,hq2',.of_own (ho14.base hbl),λk hk hs=>?_,hul2,λx hx=>hrng2 x (hmem x hx)⟩,ht2',hB112.trans (hB14.mono hbl),hu12.ext hB14⟩ (by show N+1-((j+1+1:Nat):Int).toNat<N+1-((j+1:Nat):Int).toNat;omega);have:=(hM2.lt hs).2;have:=(ho14.lt k hk).1;omega
     ·have heq:(lo.filter λy=>y !=(v:Int))=lo:=List.filter_eq_self.2 λy hy=>by
       have:y≠(v:Int):=λe=>hin (e ▸ hy);simpa using this
      refine cF (dFq (by rw [hrn,hosn,heq];omega)) ?_;have eu1:VH lo (v:Int)=lo:=by unfold VH;rw [if_neg hin]
      rw [eu1] at hq2';refine hI _ _ ⟨j+1,lo,F2,PF2,_,rfl,by omega,⟨hM13,hq2',ho12.ext hB13,hd12,hlen2,hrng2⟩,ht2',hB113,hu12.ext hB13⟩ (by show N+1-((j+1+1:Nat):Int).toNat<N+1-((j+1:Nat):Int).toNat;omega)
   ·refine hI _ _ ⟨j+1,_,F1,PF1,_,rfl,by omega,hR2,ht1',hB19,hu9⟩ (by show N+1-((j+1+1:Nat):Int).toNat<N+1-((j+1:Nat):Int).toNat;omega)
  obtain ⟨r1,r2⟩:=q6h hm8.1 hR.len ((j+1:Nat):Int);have hn9:=ho9.n;rw [length_append,length_singleton] at hn9;refine cO (λeg=>?_) λeg=>?_
  ·have eg:=oTq eg;obtain ⟨x,r,he,hr⟩:=r1 (by omega);rw [he] at ho9;refine ho9.tail λs2 ho2 hs2=>cut s2 (by rw [<-hr];exact ho2) λk hk=>by rw [<-hs2];exact hk
  ·have eg:=oFq eg;refine cut s1 (by rw [<-r2 (by omega)];exact ho9) λk hk=>hk
 ·
  have e:=oFq e;have hTm:=hR.tp.tm;have hTn:=hR.q.n;have hjN:j<=12:=by omega
  have hok:=hTm.en.ok;have hlen:=hR.q.q.ord.len hok.srt;have hused:=hR.q.q.ord.used hok;have hsn:=hR.o.n;have hl8:l.length<=8:=by have:=hR.len;omega
  rw [<-htg];have hext:∀{wx},Uc w5 wx->Uc w wx:=λhB=>hB15.trans (hB.mono hB15.size);refine QS hTm λg1 r1 w6 hst6 hB6=>?_;refine q23 hst6 hok (by omega) λiq w7 hiq hB7=>?_;have B7:=bT hB6 hB7;have hin:=hiq.rd.n;rw [List.length_map] at hin;refine jpO λJ6 hJ6=>cF (by rw [hin,hsn,hlen];simp) ?_;refine QS (hTm.ext B7) λg2 r2 w8 hst8 hB8=>?_;have B8:=bT B7 hB8;have hU:Zz (some ⟨g2,0,none⟩) w8 λt119 w68=>cond (t119 !=(i64.wrap ((16:Int)*((s.n:Nat):Int)))) (K false w68) (J6 (()) w68):=by
   refine qhx _ ?_;refine qH (lI (x:=T.E.S.used) (hst8.blk.cells 2 _ rfl) (cF ?_ (hJ6 _ _ ?_)))
   ·rw [hused,hsn,qP (by omega)];simp
   refine lpR (λ(st:Int×Unit) w9=>∃k:Nat,st.1=(k:Int)/\k<=l.length/\Uc w5 w9) (λst=>l.length-st.1.toNat) ⟨0,rfl,zero_le _,B8⟩ ?_;rintro ⟨i2,u2⟩ w9 ⟨k,hk,hkl,hB9⟩ I7 hI7;dsimp only at hk ⊢;subst hk;have hT9:=(hTm.ext hB9).drew;have ho9:=(hR.o.ext hB9);refine cO (λek=>?_) λek=>?_
   ·have ek:=oTq ek;have hkl2:k<l.length:=by omega
    have ekn:i64.wrap ((k:Int)+(1:Int))=((k+1:Nat):Int):=by rw [qP (by omega)];omega
    rw [ekn];refine ho9.rd.ix (E:=zw) (i:=(k:Int)) (k:=1) rfl (by omega) (by omega) λhc=>?_;have hc:w9.drew.cell? (s.at_ zw.k (k:Int).toNat)=some (Ua l[k]):=by simpa using hc 0 _ rfl
    refine lI (x:=l[k]) hc ?_;refine q78 (TL:=λb wz=>cond (!b) (K false wz) (I7 (((k+1:Nat):Int),()) wz)) hT9 (by omega) hc ?_ λw10 hB10=>cF rfl (hI7 _ _ ⟨k+1,rfl,hkl2,bT (hB9.trans ((bdw w9).mono hB9.size)) hB10⟩ (by show l.length-((k+1:Nat):Int).toNat<l.length-((k:Nat):Int).toNat;omega));obtain ⟨x,hx⟩:=(hR.q.q.ord.mem l[k]).1 (List.getElem_mem hkl2);rw [(zG hok.srt).2 hx];rfl
   ·refine qh6 _ ?_;have hT9:=hTm.ext hB9;refine qH (qK (x:=some ⟨F.eg,0,none⟩) (hT9.blk.cells 7 _ rfl) ?_);refine qwd hT9.en (by omega) λg3 q3 w10 hpl hB10=>?_;refine q4i hpl (by have:=hTm.en.tl;omega) λr3 w11 hr3 hB11=>?_;have B11:=bT (bT hB9 hB10) hB11;have hr3n:=hr3.rd.n;refine lpR (λ(st:Int×Unit) w12=>∃k:Nat,st.1=(k:Int)/\k<=T.E.T.length/\Uc w5 w12/\Rd qY w12 r3 T.E.T) (λst=>T.E.T.length-st.1.toNat) ⟨0,rfl,zero_le _,B11,hr3.rd⟩ ?_;rintro ⟨i3,u3⟩ w12 ⟨k2,hk2,hkl2,hB12,hr12⟩ I8 hI8;dsimp only at hk2 ⊢;subst hk2;have htl:=hTm.en.tl;refine cO (λep=>?_) λep=>hK w12 (hext hB12);have ep:=oTq ep;have hkp:k2<T.E.T.length:=by omega
    have ekn:i64.wrap ((k2:Int)+(1:Int))=((k2+1:Nat):Int):=by rw [qP (by omega)];omega
    rw [ekn];have hrd:=hr12.ext (bdw w12);refine hrd.ix (E:=qY) (i:=(k2:Int)) (k:=14) rfl (by omega) (by omega) λhc=>?_;have hc:w12.drew.cell? ((r3.at_ qY.k (k2:Int).toNat).add 0)=some (Ua (T.E.T[k2]).Image):=by
     have:=hc 0 _ rfl;simpa using this
    refine lI (x:=(T.E.T[k2]).Image) hc ?_;refine q78 (TL:=λb wz=>cond (!b) (K false wz) (I8 (((k2+1:Nat):Int),()) wz)) (hTm.ext hB12).drew (by omega) hc ?_ λw13 hB13=>cF rfl (hI8 _ _ ⟨k2+1,rfl,hkp,bT (hB12.trans ((bdw w12).mono hB12.size)) hB13,hrd.ext hB13⟩ (by show T.E.T.length-((k2+1:Nat):Int).toNat<T.E.T.length-((k2:Nat):Int).toNat;omega));obtain ⟨x,hx⟩:=hR.q.q.inv.here (T.E.T[k2]) (List.getElem_mem hkp);rw [(zG hok.srt).2 hx];rfl
  exact hU
end
end Go.Proofs.YtokfefnmpjohpaaGreatDoor
namespace Go.Proofs.YtokfefnmpjohpaaGreatDoor
def jnA (P:Program) (fn:Func) (s:ChangeSpec) (c:OpenClaim):Bool :=
 c.wf (OpenSpec.ofChange s) && laidOutB P && mapsRowed P && fn.params.all (P.readableRec ·) && namedTie P c.named s.vars && (c.stops==[]) && (P.stops==[]) && (c.knobs==[]) && (P.stopKnobs==[])
def jnB (P:Program) (fn:Func) (s:ChangeSpec) (c:OpenClaim):Bool :=
 (c.maps==(fn.params.toList++s.plain.varTypes P).any (P.mapsRec ·)) && (c.ifaces==(fn.params.toList++s.plain.varTypes P).any (P.ifacesRec ·)) && (c.mapsOut==P.mapsAmong fn.resultTypes.toList) &&
 (c.loops==(fn.params.toList++s.plain.varTypes P).any (P.loopsFrom ·)) && (c.wideKeys==(fn.params.toList++s.plain.varTypes P++fn.resultTypes.toList).any (P.wideKeysFrom ·)) &&
 s.vars.all (P.varReadable ·) && fn.resultTypes.all (λt=>P.readableRec t && decide (t<P.types.size)) && (c.ifacesOut==fn.resultTypes.toList.any (P.ifacesRec ·)) && (c.loopsOut==fn.resultTypes.toList.any (P.loopsFrom ·))
def jnC (P:Program) (fn:Func) (s:ChangeSpec) (c:OpenClaim):Bool :=
 (c.plainKeys==P.plainKeys) && c.shortTexts.isNone && P.stopsHeard && P.mayEnter && (c.lifted==P.liftsFinal) && (P.make==some c.make) && (c.kinds==(if c.domain.isEmpty then [] else fn.params.toList.map λt=>match P.underlying t with | some (.int k)=>some k | _=>none)) && (c.pinned==c.pinnedBy) &&
 (c.veiled==(fn.params.toList++s.plain.varTypes P++fn.resultTypes.toList).any (P.veiledRec ·)) && c.veiledFits P fn.params.toList (fn.params.toList++s.plain.varTypes P++fn.resultTypes.toList)
theorem q9y {P:Program} {f:FuncId} {fn:Func} {s:ChangeSpec} {c:OpenClaim} (a:jnA P fn s c=true) (b1:(c.inPlace==P.inPlace f)=true) (b2:(c.unfollowed==P.unfollowed f)=true) (b3:(c.recurses==P.recurses f)=true) (b4:(c.named==P.varsNamed f)=true)
  (d:jnB P fn s c=true) (e:jnC P fn s c=true):joinedFacts P f fn s c=true:=by
 unfold jnA at a;unfold jnB at d;unfold jnC at e;unfold joinedFacts;simp only [Bool.and_eq_true,and_assoc] at a d e ⊢;exact ⟨a.1,a.2.1,a.2.2.1,a.2.2.2.1,a.2.2.2.2.1,a.2.2.2.2.2.1,a.2.2.2.2.2.2.1,a.2.2.2.2.2.2.2.1,a.2.2.2.2.2.2.2.2,b1,b2,b3,b4,d.1,d.2.1,d.2.2.1,d.2.2.2.1,d.2.2.2.2.1,d.2.2.2.2.2.1,d.2.2.2.2.2.2.1,d.2.2.2.2.2.2.2.1,d.2.2.2.2.2.2.2.2,e⟩
set_option maxRecDepth 100000
def qxi (T:List (List Nat)):Nat->List Nat->List Nat->Nat->List Nat
 | 0,_,xF,_=>xF.reverse
 | _+1,[],xF,_=>xF.reverse
 | n+1,f::todo,xF,m=>cond (Nat.testBit m f) (qxi T n todo xF m) (qxi T n ((T[f]?).getD []++todo) (f::xF) (m ||| 1 <<< f))
theorem zcw {P:Program} {T:List (List Nat)} (hT:P.funcs.toList.map P.leadsTo=T):∀(n:Nat) (todo xF:List FuncId) (m:Nat),(∀f,xF.contains f=Nat.testBit m f)->P.closureVia n todo xF=qxi T n todo xF m:=by
 have hg:∀f:Nat,(P.funcs[f]?).elim [] P.leadsTo=(T[f]?).getD []:=λf=>by
  rw [<-hT,List.getElem?_map,Array.getElem?_toList];cases P.funcs[f]?<;>rfl
 intro n
 induction n with
 | zero=>intro todo xF m h;cases todo<;>rfl
 | succ n ih =>
  intro todo xF m h;cases todo with
  | nil=>rfl
  | cons f todo =>
   show (if xF.contains f then P.closureVia n todo xF else P.closureVia n ((P.funcs[f]?).elim [] P.leadsTo++todo) (f::xF))=cond (Nat.testBit m f) (qxi T n todo xF m) (qxi T n ((T[f]?).getD []++todo) (f::xF) (m ||| 1 <<< f));rw [h f];cases hb:Nat.testBit m f
   ·rw [if_neg (by decide),hg];refine ih _ _ _ λx=>?_;rw [List.contains_cons,h x,Nat.testBit_or,Nat.one_shiftLeft,Nat.testBit_two_pow,Bool.or_comm];congr 1;by_cases e:x=f
    ·subst e;simp
    ·rw [beq_eq_false_iff_ne.2 e,Go.Vc.dFq (λh=>e h.symm)]
   ·rw [if_pos rfl];exact ih _ _ _ h
theorem q5e {P:Program} {T:List (List Nat)} (hT:P.funcs.toList.map P.leadsTo=T) (f:FuncId):P.closure f=qxi T (1+(T.map λl=>l.length+1).sum) [f] [] 0:=by
 unfold Program.closure;rw [zcw hT _ _ _ 0 (λf=>by rw [Nat.zero_testBit];rfl)];subst hT;rw [List.map_map];rfl
theorem qzz {P:Program} (h:P.funcs.any Func.goes=false) (c:OpenClaim) (hs:c.start=.entering):c.goesBy P=false:=by
 have hg:∀f,P.goes f=false:=λf=>by
  unfold Program.goes;rw [h,Bool.and_false,Bool.or_false,List.any_eq_false];intro g _ hx;cases hp:P.funcs[g]? with
  | none=>rw [hp] at hx;cases hx
  | some fn =>
   rw [hp] at hx;rw [Array.any_eq_false] at h;obtain ⟨hi,rfl⟩:=Array.getElem?_eq_some_iff.1 hp;exact h g hi hx
 unfold OpenClaim.goesBy Program.goesAt Program.goesFrom;rw [hs];cases P.funcNamed c.func with
 | none=>rfl
 | some f=>simp [hg f]
def zg9:List (List Nat):=[[],[],[1],[5,6,6,7,10,9,8,6,10,11,8,12,13,12,14,12,15,16,17,12,15],[18,20,19,8,8,8,8,21,21,21],[7,8,22,23,24,21],[],[19],[26,25],[27,11],[10],[],[28],[30,29],[],[31,32],[33],[34],[19,8,21,22,23,24,21],[35,36,37],[],[38],[41,40,39],[43,44,42],[45,46,48,47,50,49],[51,52,53],[54,55,56,57,58,59,60,61],[62],[63],[64,65],[66],[],[],[67],[],[68,69,69,70],[71,72],[73,74],[],[75,75,75,75,76,77],[78,23,79,80,12,13],[31],[],[81,82],[83,84],[84,85],[86],[86],[87],[88,89,90,91],[],[92,93,94],[95,96,98,97,99,100],[],[101],[102,103,102,102,104,105],[105,106,78,107,60,108],[],[78,109,108],[36],[110,111,112,113],[114,115,116,117,117],[118],[119],[120],[122,121],[],[34],[123,123,123,123,123,123],[124,124,125,126],[127,128,129,130],[],[],[],[],[],[131],[132],[133,134,135,136],[137]]
def zgg:List (List Nat):=[[138],[],[139,140],[],[],[141,141],[142],[],[],[],[143],[144,145],[],[],[32],[146,99,99,100,147],[148,147,149,150],[],[151],[],[],[152],[],[153],[155,154,156],[104],[157,32],[158,156,160,159,104],[123,161,123,162],[163,164,165,166,167,168,169,170],[171,172],[162,173,162,161,162],[174,175],[176,177,178,180,179,179,181,182,181,179,183],[],[185,184],[186,187],[188,184],[],[189],[],[190,191,192,193,194,195,196,197,198,121,121],[199,200],[],[],[],[201],[81,202],[203],[],[],[],[],[127],[],[],[81,187],[204,205,206],[135],[140],[],[],[],[],[207,208],[209],[32],[210,211,212,213],[210,98,97,98,97,214,97],[210,210,211,212,215,216],[146],[],[],[217,157,218],[219],[220],[221],[217,222,223,222,222,224],[225,226,226,227,228,219,229,32,38],[230,231,170,170]]
def zg1:List (List Nat):=[[],[81,233,232,162],[127,234,234],[235,236,236],[160,237,238],[239,104,166,170,240],[227],[241,170,165],[242,170,159,243],[244,13,245,246,247],[248,249],[250],[251,127,162,161,162,161,81,253,252],[256,257,258],[127,259,81,260,162],[162,161,261,262,263,264,265],[],[127,130,129],[266,267,267],[],[181,181],[268],[138],[176,176,179,180,179,179,269,270,263,264,271,272,273,274,275,276,277,81,233,232,278],[246,279],[281,280],[282],[],[283,280],[],[196],[284,284],[285,286],[287,287,287,288],[],[196,196,196],[289,289],[196,196],[196,196,196,196],[],[],[259],[],[258],[],[290],[],[],[291],[292,293,292,294,295],[],[148],[],[100,100],[296,296],[],[215,297],[],[224],[298,30,64,300,228],[],[301,280],[],[222,302,152],[],[131],[],[],[],[],[31,303,303,304,305,305],[306,307,280],[201,308,201,308,309],[],[],[310],[],[311],[312,313,314,313,315,315,316],[317,318,319]]
def zhg:List (List Nat):=[[320,166,170,321],[322,323],[244,31],[],[],[324,280],[326,228],[],[],[181,327],[],[87,329,328,330,328],[83,331,83],[254,255],[45,332,334,333,45],[45,335],[],[],[336,29],[334],[83,331,83],[81,233,232,162],[256,256],[],[129,127,234,234],[202,126,337,187,70],[162],[263,127,338,264],[339],[340,340,341],[127,176,234,176,234,266],[],[],[127,172],[127,338,338,338,338,338,81,337],[127,338],[127,338,254,342,81,343,252],[81,233,232,162],[344,345,162,162,162,346,162,346,176,162,173,162,347,162,162],[],[],[204],[348],[],[196,196],[122],[],[288],[349,349,349],[],[350,350,351,351],[],[352],[],[],[],[],[],[299],[353,353],[],[],[],[],[305,305,305,305,305,354,354],[],[355,355,355,355,355,355,355,355,355],[],[356],[357],[358,359,360,358,359,294,360,358,359,361],[362,363,364],[365,316],[292],[],[292],[],[366],[],[367]]
def zgj:List (List Nat):=[[368,318,319,369,367,370,371],[158,170,156,170,159],[372,372],[],[325],[204,204,204,204,204,204],[374,373],[375,376,376,376,50],[],[],[],[45,45,334,333],[],[377],[],[85],[378],[379],[81,233,380,135,81,187],[381,382,383,384],[],[385],[45,332,334,333,45],[233],[162],[127,162],[234],[256,257,258,386],[],[196],[],[387,351,351],[388],[],[],[],[],[308],[389],[],[],[390],[391,208],[391,392,364],[393],[394],[292,395,396],[],[395,396,397],[398],[399],[400,401,402],[],[403],[],[86,404],[86],[],[],[],[405,252],[],[200,407,408],[],[409,410],[],[411],[412,412,412],[],[],[],[],[],[352,295,352,294,295,413],[414],[],[],[],[],[415,416,417,418]]
def zhv:List (List Nat):=[[419],[420,421,399,422],[419],[],[423],[406],[45,335],[],[],[],[424,425],[],[],[426],[],[427,428],[429,430,431,432,430,433,434,369,435,430],[],[434],[76],[436,437,438],[440,439],[76,442,443,439],[],[],[],[],[],[],[],[],[],[369,447,448,449,450,451,449,449,449,32],[],[433],[],[453,452],[435,435,454],[455,456],[457,458],[442,441],[459],[],[441,444,445,446],[460,32,461],[459],[462,462,462,462,462],[32],[463],[],[464,465,466,467,468],[],[469,359,470],[],[442,471],[],[],[472],[473,473],[],[],[474],[475],[476],[448,477,478,478],[479,448,448],[448,480,481,482],[448,448,448,448,478,483,478,478],[484,482,481,485,448,484,486,448,481],[],[435,487,489,488,435,32],[490],[],[],[491],[],[],[],[492,493],[]]
def zhk:List (List Nat):=[[449,449,447,448],[],[],[484,448],[476,463,448],[],[],[494,495],[],[],[],[],[],[496],[92],[],[],[],[],[],[],[],[],[],[],[],[],[],[],[],[],[],[],[],[],[523],[],[317,38],[519,515],[520,522,521],[524,524],[],[],[],[525,526,527,526],[],[],[526],[529,530,531],[304,75,75,75,75],[532,532,225],[225,225,532,532,534,534,533],[],[],[],[536,515],[538,537],[520,522,522],[521],[75,75],[],[],[],[],[],[],[],[],[],[],[],[],[]]
def zia:List (List Nat):=zg9++zgg++zg1++zhg++zgj++zhv++zhk
theorem zb0:Tryz.checked.prog.funcs.toList.map Tryz.checked.prog.leadsTo=zia:=by kernel_rfl
theorem q37:Tryz.checked.prog.funcs.any Func.goes=false:=by kernel_rfl
def zit:List Nat:=[3,5,7,19,35,68,123,69,124,125,126,201,259,334,70,127,81,202,128,203,258,336,378,29,64,120,65,122,199,200,121,190,196,289,191,284,192,285,286,193,287,288,349,194,195,197,198,129,130,36,71,72,37,73,74,8,26,54,101,152,55,102,103,153,217,157,222,223,302,224,218,104,155,220,154,219,298,299,353,30,66,300,228,156,221,301,280,105,56,106,32,78,133,134,135,136,187,107,158,225,131,226,227,229,38,160,159,230,31,303,304,305,354,231,306,355,307,170,248,249,181,268,339,381,382,407,408,383,384,409,410,424,425,327,375,86,142,404,423,376,50,60,110,171,250,172,251,87,329,328,330,162,234,161,233,232,308,356,309,357,253,254,45,84,85,141,332,333,377,255,335,252,83,331,111,173,256,257,112,174,260,175,261,262,263,264,265,337,379,113,176,177,178,266,267,338,380,405,406,180,179,182,138,183,269,340,341,385,270,271,272,273,274,275,276,342,343,277,278,344,345,346,347,386,411,108,57,58,109,163,235,310,358,389,359,360,294,361,390,236,164,237,311,362,391,208,291,363,392,364,393,352,388,295,413,426,238,312,365,394,414,316,313,292,314,315,165,239,317,366,395,396,318,319,367,166,240,320,368,397,369,398,370,399,415,427,428,416,429,430,431,432,447,448,463,476,449,450,464,477,478,492,493,496,465,479,466,480,481,482,467,483,484,468,485,486,451,433,434,435,417,418,371,400,419,76,401,420,436,453,452,469,470,487,494,92,495,489,488,437,454,442,471,490,438,455,456,421,440,441,459,439,457,472,458,473,422,443,444,460,461,474,491,445,446,462,475,402,321,167,241,322,372,323,168,242,244,243,169,13,245,324,325,204,246,326,374,373,403,247,59,61,114,115,185,281,184,279,116,186,282,348,117,188,283,25,51,93,94,52,95,146,99,100,147,210,211,148,98,151,97,214,296,212,213,96,149,215,216,297,150,53,22,41,40,23,43,82,139,140,44,42,79,137,205,290,350,351,387,412,206,80,12,28,63,119,189,39,75,77,132,24,46,48,47,49,88,89,90,143,91,144,207,145,209,293,21,6,10,9,27,62,118,11,14,15,16,33,67,34,17]
theorem qyv:Tryz.checked.prog.closure 3=zit:=(q5e zb0 3).trans (by kernel_rfl)
end Go.Proofs.YtokfefnmpjohpaaGreatDoor
