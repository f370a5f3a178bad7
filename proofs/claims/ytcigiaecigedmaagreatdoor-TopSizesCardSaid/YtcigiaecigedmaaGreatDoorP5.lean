import Derived.Test.YtcigiaecigedmaaGreatDoorP4
import Derived.Test.YtcigiaecigedmaaGreatDoorP3
import Derived.JoinedOf
import Derived.Test.YtcigiaecigedmaaGreatDoorP1
import GoSem.ClaimSeven
import Derived.Test.YtcigiaecigedmaaGreatDoorChecked
set_option linter.unusedVariables false
namespace Go.Proofs.YtcigiaecigedmaaGreatDoor
open Go.Vc Go.RowKit
set_option maxRecDepth 400000
open IntKind (i64)
open _root_.List (length_map length_set mem_cons)
open _root_.Nat (mod_lt zero_le)
theorem zea {r:Int} (h:33<=r/\r<=126):qhi r=1:=by
 have:∀k:Nat,k<127->33<=k->qhi (k:Int)=1:=by decide
 rw [show r=((r.toNat:Nat):Int) by omega];exact this _ (by omega) (by omega)
structure Tm (R C:Nat) (wr:Bool) (S:Sc):Prop where
 alt:S.alt=false
 rows:S.g0.rows=R
 cols:S.g0.cols=C
 modes:S.modes=[]
 wr:S.pmode 7=wr
 sets:S.c.Sets=⟨66,66⟩
 shift:S.c.Shift=0
 a:S.c.A=⟨0,0,0⟩
 row:0<=S.c.Row/\S.c.Row<(R:Int)
 col:0<=S.c.Col/\S.c.Col<(C:Int)
 len:S.g0.L.length=R
 lim:R<=1000/\C<=1000
 org:S.c.Origin=false
structure Pr (R C:Nat) (wr:Bool) (S S':Sc) (row col r:Int):Prop where
 tm:Tm R C wr S'
 Row:S'.c.Row=row
 Col:S'.c.Col=if col+1<(C:Int) then col+1 else (C:Int)-1
 Wrap:S'.c.Wrap=(wr && decide ((C:Int)<=col+1))
 g0:S'.g0={ S.g0 with L:=S.g0.L.set row.toNat (qa6 (putP (S.g0.L.getD row.toNat []) col r 1 ⟨0,0,0⟩) C) }
 past:S'.past=S.past
 top:S'.top=S.top
section
variable {R C:Nat} {wr:Bool} {S:Sc} {r:Int}
theorem Tm.g (h:Tm R C wr S):S.g=S.g0:=by
 unfold Sc.g;rw [h.alt];rfl
theorem Tm.dry (h:Tm R C wr S):Tm R C wr S.dry:=⟨h.alt,h.rows,h.cols,h.modes,h.wr,h.sets,h.shift,h.a,h.row,h.col,h.len,h.lim,h.org⟩
theorem Tm.char (h:Tm R C wr S) (r:Int):Tm R C wr { S with char:=r }:=⟨h.alt,h.rows,h.cols,h.modes,h.wr,h.sets,h.shift,h.a,h.row,h.col,h.len,h.lim,h.org⟩
theorem Tm.at_ (h:Tm R C wr S) {row col:Int} (hr:0<=row/\row<(R:Int)) (hc:0<=col/\col<(C:Int)) (b:Bool):Tm R C wr { S with c:={ S.c with Row:=row,Col:=col,Wrap:=b } } :=
 ⟨h.alt,h.rows,h.cols,h.modes,h.wr,h.sets,h.shift,h.a,hr,hc,h.len,h.lim,h.org⟩
theorem qq4 {v lo hi:Int} (h1:lo<=v) (h2:v<=hi):cutP v lo hi=v:=by
 unfold cutP;split<;>split at *<;>omega
theorem Tm.to_eq (h:Tm R C wr S) {row col:Int} (hr:0<=row/\row<(R:Int)) (hc:0<=col/\col<(C:Int)):S.to row col={ S with c:={ S.c with Row:=row,Col:=col,Wrap:=false } }:=by
 unfold Sc.to;have:=h.lim;rw [h.g,h.rows,h.cols,qck (x:=(R:Int)-1) (by omega),qck (x:=(C:Int)-1) (by omega),qq4 (by omega) (by omega),qq4 (by omega) (by omega)]
theorem Tm.laid (h:Tm R C wr S) (hw:S.c.Wrap=false):Pr R C wr S (Sc.layY S C r 1 wr) S.c.Row S.c.Col r:=by
 have hl:=h.lim;have hc:=h.col;have e1:w64 (S.c.Col+1)=S.c.Col+1:=qck (by omega);have e2:w64 ((C:Int)-1)=(C:Int)-1:=qck (by omega);have em:S.mode 4=false:=by
  unfold Sc.mode;rw [h.modes];rfl
 have ec:S.change (S.putL r 1)={ S with g0:={ S.g0 with L:=S.g0.L.set S.c.Row.toNat (qa6 (putP (S.g0.L.getD S.c.Row.toNat []) S.c.Col r 1 ⟨0,0,0⟩) C) } }:=by
  unfold Sc.change;rw [h.g,if_pos (by rw [h.rows];exact h.row)];unfold Sc.withG Sc.putL;rw [h.alt,em,h.a,show ((S.g0.cols:Nat):Int)=C by rw [h.cols]];rfl
 have hcols:S.g.cols=C:=by rw [h.g];exact h.cols
 unfold Sc.layY;rw [e1,if_neg (by omega)];unfold Sc.laid;rw [ec];unfold Sc.setCol;dsimp only;rw [e1,hcols,e2];by_cases hcc:S.c.Col+1<(C:Int)
 ·rw [if_neg (by omega)];refine ⟨⟨h.alt,h.rows,h.cols,h.modes,h.wr,h.sets,h.shift,h.a,h.row,⟨by show 0<=S.c.Col+1;omega,hcc⟩,by show (List.set _ _ _).length=R;rw [length_set];exact h.len,h.lim,h.org⟩,rfl,by rw [if_pos hcc],?_,rfl,rfl,rfl⟩;show S.c.Wrap=_;rw [hw,dFq (by omega),Bool.and_false]
 ·rw [if_pos (by omega)];refine ⟨⟨h.alt,h.rows,h.cols,h.modes,h.wr,h.sets,h.shift,h.a,h.row,⟨by show 0<=(C:Int)-1;omega,by show (C:Int)-1<C;omega⟩,by show (List.set _ _ _).length=R;rw [length_set];exact h.len,h.lim,h.org⟩,rfl,by rw [if_neg hcc],?_,rfl,rfl,rfl⟩;show wr=_;rw [dTq (by omega),Bool.and_true]
theorem Tm.print_eq (h:Tm R C wr S) (hr:33<=r/\r<=126):S.print r=Sc.layY (Sc.layX { S with char:=r } wr).dry C r 1 wr:=by
 unfold Sc.print;rw [if_pos (by omega),h.shift];have e:qtp (S.set2 0) r=r:=by
  unfold Sc.set2;rw [if_pos rfl,h.sets];unfold qtp;rw [if_neg (fun hh=>absurd hh.1 (by decide))]
 rw [e];unfold Sc.lay;rw [zea hr,if_neg (by decide),h.wr,h.g,h.cols]
theorem Tm.print_flat (h:Tm R C wr S) (hr:33<=r/\r<=126) (hw:S.c.Wrap=false):Pr R C wr S (S.print r) S.c.Row S.c.Col r:=by
 rw [h.print_eq hr];unfold Sc.layX;rw [if_neg (fun hh=>by have:=hh.1;rw [show ({ S with char:=r }:Sc).c.Wrap=S.c.Wrap from rfl,hw] at this;cases this)];have hp:=Tm.laid (r:=r) (h.char r).dry rfl;exact ⟨hp.tm,hp.Row,hp.Col,hp.Wrap,hp.g0,hp.past,hp.top⟩
theorem Tm.print_next (h:Tm R C wr S) (hr:33<=r/\r<=126) (hw:S.c.Wrap=true) (hwr:wr=true) (hrow:S.c.Row+1<(R:Int)) (hpast:S.past=R):Pr R C wr S (S.print r) (S.c.Row+1) 0 r:=by
 rw [h.print_eq hr];unfold Sc.layX;rw [if_pos ⟨hw,hwr⟩];have hl:=h.lim;have hc:=h.col;have hrr:=h.row;have e1:w64 (S.c.Row+1)=S.c.Row+1:=qck (by omega);have e2:w64 ((R:Int)-1)=(R:Int)-1:=qck (by omega);have hT:=h.char r;have en:({ S with char:=r }:Sc).next={ S with char:=r,c:={ S.c with Row:=S.c.Row+1,Col:=0,Wrap:=false } }:=by
  unfold Sc.next;have t1:({ S with char:=r }:Sc).to ({ S with char:=r }:Sc).c.Row 0={ S with char:=r,c:={ S.c with Row:=S.c.Row,Col:=0,Wrap:=false } }:=hT.to_eq (row:=S.c.Row) (col:=0) hrr (by omega);rw [t1];unfold Sc.index;have hne:¬S.c.Row=w64 (S.past-1):=by rw [hpast,e2];omega
  rw [if_neg hne];have h2:=(hT.at_ (row:=S.c.Row) (col:=0) hrr (by omega) false).dry;have t2:=h2.to_eq (row:=S.c.Row+1) (col:=0) (by omega) (by omega);show Sc.to _ (w64 (S.c.Row+1)) 0=_;rw [e1];exact t2
 rw [en];have h3:=(hT.at_ (row:=S.c.Row+1) (col:=0) (by omega) (by omega) false).dry;have hp:=Tm.laid (r:=r) h3 rfl;exact ⟨hp.tm,hp.Row,hp.Col,hp.Wrap,hp.g0,hp.past,hp.top⟩
end
structure TzI (R C k:Nat) (S:Sc):Prop where
 tm:Tm R C true S
 n:(k:Int)=S.c.Row*C+S.c.Col+(if S.c.Wrap=true then 1 else 0)
 w:S.c.Wrap=true->S.c.Col=(C:Int)-1
 past:S.past=R
 L:∀xs∈S.g0.L,Plain xs/\xs.length=C
 old:S.g0.old=[]
 top:S.g0.top=0
section
variable {R C:Nat} {S:Sc}
theorem zii {r:Int} {xs:List Cell} (hC:C<=1000) (hx:Plain xs) (hl:xs.length=C) {col:Int} (hc:0<=col/\col<(C:Int)):Plain (qa6 (putP xs col r 1 ⟨0,0,0⟩) C)/\(qa6 (putP xs col r 1 ⟨0,0,0⟩) C).length=C:=by
 rw [ze0 hx (by unfold qlv;rw [hl];omega)];have hs:Plain (xs.set col.toNat (⟨r,0,⟨0,0,0⟩⟩:Cell)):=q6q hx rfl;have h1:(xs.set col.toNat (⟨r,0,⟨0,0,0⟩⟩:Cell)).length=C:=by rw [length_set,hl]
 have h2:=zdq hs (by omega);rw [h1] at h2;rw [h2];exact ⟨hs,h1⟩
theorem za6 (hC:1<=C) {S':Sc} {k:Nat} {row col r:Int} (h:TzI R C k S) (hp:Pr R C true S S' row col r) (hr:0<=row/\row<(R:Int)) (hc:0<=col/\col<(C:Int)) (hk:(k:Int)=row*C+col):TzI R C (k+1) S':=by
 have hlim:=h.tm.lim;have hcc:=hp.Col;have hw:=hp.Wrap;rw [Bool.true_and] at hw;refine ⟨hp.tm,?_,fun e=>?_,hp.past.trans h.past,fun xs hx=>?_,?_,?_⟩
 ·rw [hp.Row,hcc,hw];by_cases hlt:col+1<(C:Int)
  ·rw [if_pos hlt,dFq (by omega),if_neg (by decide)];omega
  ·rw [if_neg hlt,dTq (by omega),if_pos rfl];omega
 ·rw [hw] at e;have e:=oTq e;rw [hcc,if_neg (by omega)]
 ·rw [hp.g0] at hx;rcases List.mem_or_eq_of_mem_set hx with h1 | h1
  ·exact h.L xs h1
  ·rw [h1];have hlt:row.toNat<S.g0.L.length:=by rw [h.tm.len];omega
   have hg:=h.L (S.g0.L.getD row.toNat []) (by rw [List.getD_eq_getElem?_getD,List.getElem?_eq_getElem hlt];exact List.getElem_mem hlt);exact zii hlim.2 hg.1 hg.2 hc
 ·rw [hp.g0];exact h.old
 ·rw [hp.g0];exact h.top
theorem q8j (hC:1<=C) {k:Nat} {r:Int} (hr:33<=r/\r<=126) (h:TzI R C k S) (hk:k+1<R*C):TzI R C (k+1) (S.print r):=by
 have hrow:=h.tm.row;have hcol:=h.tm.col;have hn:=h.n;cases hw:S.c.Wrap
 ·rw [hw,if_neg (by decide)] at hn;exact za6 hC h (h.tm.print_flat hr hw) hrow hcol (by omega)
 ·rw [hw,if_pos rfl,h.w hw] at hn;have hlt:S.c.Row+1<(R:Int):=by
   have e:(S.c.Row+1)*(C:Int)=(k:Int):=by rw [Int.add_mul];omega
   have h2:((R*C:Nat):Int)=(R:Int)*C:=by simp
   have h3:(S.c.Row+1)*(C:Int)<(R:Int)*C:=by omega
   exact Int.lt_of_mul_lt_mul_right h3 (by omega)
  refine za6 hC h (h.tm.print_next hr hw rfl hlt h.past) (by omega) (by omega) ?_;rw [Int.add_mul];omega
end
def tzS (S:Sc) (bs:List Int):Sc:=bs.foldl (fun S r=>S.print r) S
theorem zd7 {R C:Nat} (hC:1<=C):∀(bs:List Int) {S:Sc} {k:Nat},(∀r∈bs,33<=r/\r<=126)->TzI R C k S->k+bs.length<R*C->TzI R C (k+bs.length) (tzS S bs)
 | [],S,k,_,h,_=>h
 | b::bs,S,k,hb,h,hk=>by
  have h1:=q8j hC (hb b (List.mem_cons_self ..)) h (by simp at hk;omega);have h2:=zd7 hC bs (fun r hr=>hb r (List.mem_cons_of_mem _ hr)) h1 (by simp at hk ⊢;omega);have e:k+(b::bs).length=k+1+bs.length:=by simp;omega
  rw [e];exact h2
theorem ziu {R C k:Nat} (hR:1<=R/\R<=1000) (hC:1<=C/\C<=1000):TzI R C 0 (newSc R C k):=by
 refine ⟨⟨rfl,rfl,rfl,rfl,rfl,rfl,rfl,rfl,⟨Int.le_refl 0,by show (0:Int)<R;omega⟩,⟨Int.le_refl 0,by show (0:Int)<C;omega⟩,?_,⟨hR.2,hC.2⟩,rfl⟩,(by show (0:Int)=0*(C:Int)+0+0;rw [Int.zero_mul];rfl),(fun e=>by cases e),rfl,?_,rfl,rfl⟩
 ·show (List.replicate R _).length=R;rw [List.length_replicate]
 ·intro xs hx;have hx:xs∈List.replicate R (newL C ⟨0,0,0⟩):=hx;rw [List.eq_of_mem_replicate hx,zbq hC.2];exact ⟨qj9 _ _,by rw [List.length_replicate]⟩
theorem zhu {L:List (List Cell)} {C C':Nat} (hL:∀xs∈L,Plain xs/\xs.length=C) (h:C<=C') (hC:C'<=1000):(L.map (qa6 · C')).map (qa6 · C)=L:=by
 rw [List.map_map]
 conv=>rhs;rw [<-List.map_id L]
 refine List.map_congr_left fun xs hx=>?_;obtain ⟨hp,hl⟩:=hL xs hx;show qa6 (qa6 xs C') C=xs;rw [zep hp (by omega) hC,zdj (qfq hp (qj9 _ _)) (by rw [List.length_append];omega) (by omega),List.take_left' hl]
theorem zfd {G:GS} {R C R' C':Nat} {r:Int} (hr:r<(R:Int)) (hG:G.rows=R) (hc:G.cols=C) (hl:G.L.length=R) (hL:∀xs∈G.L,Plain xs/\xs.length=C) (h1:R<=R') (h2:C<=C') (h3:C'<=1000):qbx (qbx G R' C' r) R C r=G:=by
 have n1:¬(r>=(R':Int)):=by omega
 have n2:¬(r>=(R:Int)):=by omega
 have e1:qbx G R' C' r={ G with L:=(G.L.map (qa6 · C'))++List.replicate (R'-R) (newL C' ⟨0,0,0⟩),rows:=R',cols:=C' }:=by
  unfold qbx qb6;rw [if_neg n1];unfold qm8;dsimp only;rw [hG,List.take_of_length_le (by rw [length_map];omega)]
 rw [e1];unfold qbx qb6;rw [if_neg n2];unfold qm8;dsimp only;rw [List.map_append,zhu hL h2 h3,List.take_left' hl,show R-R'=0 by omega,List.replicate_zero,List.append_nil,<-hG,<-hc]
def okG (C:Nat) (G:GS):Prop:=∀xs∈G.L,Plain xs/\xs.length=C
theorem zhj {R C R' C':Nat} {S:Sc} (hR:1<=R) (hC:1<=C) (h:Tm R C true S) (ho:okG C S.g0) (h1:R<=R') (h2:C<=C') (h3:C'<=1000) (h4:R'<=1000):((S.resizeP R' C').resizeP R C).alt=false/\((S.resizeP R' C').resizeP R C).g0=S.g0/\(S.resizeP R' C').alt=false/\(S.resizeP R' C').g0=qbx S.g0 R' C' S.c.Row:=by
 have ha:=h.alt;have a1:∀(T:Sc) (r c:Int),(T.resizeP r c).alt=T.alt:=by
  intro T r c;show (T.resizeG2 r c).alt=T.alt;unfold Sc.resizeG2;rw [(qft _ _ _).1,(qft _ _ _).1]
 have g1:∀(T:Sc) (r c:Nat),T.alt=false->(T.resizeP r c).g0=qbx T.g0 r c T.c.Row:=by
  intro T r c hT;show (T.resizeG2 r c).g0=_;unfold Sc.resizeG2;rw [hT];rfl
 have hrow:=h.row;have c1:(S.resizeP R' C').c.Row=S.c.Row:=by
  show cutP _ 0 _=_;have eg:(S.resizeG2 R' C').g.rows=R':=by
   have ha2:(S.resizeG2 R' C').alt=false:=(a1 S R' C').trans ha;have e0:(S.resizeG2 R' C').g0=_:=g1 S R' C' ha;unfold Sc.g;rw [ha2];show (S.resizeG2 R' C').g0.rows=_;rw [e0];rfl
  rw [eg,if_neg (by omega),qck (by omega),qq4 (by omega) (by omega)]
 have e1:=g1 S R' C' ha;have e2:((S.resizeP R' C').resizeP R C).g0=_:=g1 (S.resizeP R' C') R C (by rw [a1];exact ha);refine ⟨by rw [a1,a1];exact ha,?_,by rw [a1];exact ha,e1⟩;rw [e2,c1,e1];exact zfd hrow.2 h.rows h.cols h.len ho h1 h2 h3
def Ot (S S':Sc):Prop:=S.alt=false->S'.alt=false/\S'.g1=S.g1
theorem Ot.refl (S:Sc):Ot S S:=fun h=>⟨h,rfl⟩
theorem Ot.trans {A B D:Sc} (h:Ot A B) (k:Ot B D):Ot A D:=fun e=>⟨(k (h e).1).1,(k (h e).1).2.trans (h e).2⟩
theorem Ot.of {S S':Sc} (e1:S'.alt=S.alt) (e2:S'.g1=S.g1):Ot S S':=fun h=>⟨e1.trans h,e2⟩
theorem q7v (S:Sc) (G:GS):Ot S (S.withG G):=fun h=>by
 unfold Sc.withG;rw [if_neg (by rw [h];decide)];exact ⟨h,rfl⟩
theorem zf1 (S:Sc):Ot S S.index:=by
 unfold Sc.index;split
 ·exact (Ot.of (S':=S.dry) rfl rfl).trans (q7v _ _)
 ·exact Ot.of rfl rfl
theorem zev (S:Sc) (f:List Cell->List Cell):Ot S (S.change f):=by
 unfold Sc.change;split
 ·exact q7v _ _
 ·exact Ot.refl _
theorem q54 (S:Sc) (r w:Int) (b:Bool):Ot S (S.laid r w b):=by
 unfold Sc.laid;dsimp only;have h:=zev S (S.putL r w);split
 ·exact h.trans (Ot.of rfl rfl)
 ·exact h.trans (Ot.of rfl rfl)
theorem zbp (S:Sc):Ot S S.next:=(Ot.of (S':=S.to S.c.Row 0) rfl rfl).trans (zf1 _)
theorem zh9 (S:Sc) (b:Bool):Ot S (S.layX b):=by
 unfold Sc.layX;split
 ·exact zbp S
 ·exact Ot.refl _
theorem zhy (S:Sc) (c:Nat) (r w:Int) (b:Bool):Ot S (S.layY c r w b):=by
 unfold Sc.layY;split
 ·split
  ·exact Ot.refl _
  ·split
   ·exact (zbp S).trans (q54 _ _ _ _)
   ·exact (Ot.of (S:=S) (S':=S.setCol (w64 (c-w))) rfl rfl).trans (q54 _ _ _ _)
 ·exact q54 _ _ _ _
theorem ziv (S:Sc) (r:Int):Ot S (S.lay r):=by
 unfold Sc.lay;split
 ·exact Ot.refl _
 ·have h1:Ot S { S with char:=r }:=Ot.of rfl rfl;exact ((h1.trans (zh9 _ _)).trans (Ot.of (S':=Sc.dry _) rfl rfl)).trans (zhy _ _ _ _ _)
theorem zfy (S:Sc) (r:Int):Ot S (S.print r):=by
 unfold Sc.print;split<;>exact ziv _ _
structure Qz (S:Sc):Prop where
 alt:S.alt=false
 ar:S.areas=[]
 top:S.g1.top=0
 row:S.s1.c.Row=0
 rows:1<=S.g1.rows/\S.g1.rows<=1000
theorem Qz.print {S:Sc} (h:Qz S) (r:Int):Qz (S.print r):=by
 have f:=zg1 S r;have o:=zfy S r h.alt;refine ⟨o.1,List.eq_nil_of_length_eq_zero ?_,by rw [o.2];exact h.top,by rw [f.s1];exact h.row,by rw [o.2];exact h.rows⟩;have:=f.ar;rw [h.ar] at this;simpa using this
theorem Qz.tz {S:Sc} (h:Qz S):∀bs,Qz (tzS S bs)
 | []=>h
 | b::bs=>Qz.tz (h.print b) bs
theorem Qz.resize {S:Sc} (h:Qz S) {r c:Nat} (hr:1<=r/\r<=1000):Qz (S.resizeP r c):=by
 have a1:(S.resizeP r c).alt=S.alt:=by
  show (S.resizeG2 r c).alt=S.alt;unfold Sc.resizeG2;rw [(qft _ _ _).1,(qft _ _ _).1]
 have g1:(S.resizeP r c).g1=qbx S.g1 r c (cutP S.s1.c.Row 0 (w64 ((S.g1.rows:Int)-1))):=by
  show (S.resizeG2 r c).g1=_;unfold Sc.resizeG2;rw [h.alt];rfl
 have hz:cutP S.s1.c.Row 0 (w64 ((S.g1.rows:Int)-1))=0:=by
  have:=h.rows;rw [h.row,qck (by omega),qq4 (by omega) (by omega)]
 rw [hz] at g1;have f:=zc0 S r c;refine ⟨a1.trans h.alt,List.eq_nil_of_length_eq_zero ?_,?_,?_,?_⟩
 ·have:=f.ar;rw [h.ar] at this;simpa using this
 ·rw [g1];unfold qbx qb6;rw [if_neg (by omega)];exact h.top
 ·show cutP (S.resizeG2 r c).s1.c.Row 0 (w64 ((r:Int)-1))=0;have e:(S.resizeG2 r c).s1=S.s1:=by
   unfold Sc.resizeG2;rw [h.alt];rfl
  rw [e,h.row,qck (by omega),qq4 (by omega) (by omega)]
 ·rw [g1];exact hr
theorem Qz.new {R C k:Nat} (hR:1<=R/\R<=1000):Qz (newSc R C k):=⟨rfl,rfl,rfl,rfl,hR⟩
theorem zfj {c:Int} (h:33<=c/\c<=126):ps0.step c=(ps0,[evPr c]):=by
 unfold PS.step;rw [if_neg (by decide),if_pos (by omega)];unfold PS.plain;rw [if_neg (by decide),if_neg (by decide),if_neg (by decide),if_neg (by decide)];unfold PS.ground isCtl;rw [dFq (by omega),if_neg (by rw [Bool.false_and];decide),if_neg (by omega)]
theorem qz8:∀(bs:List UInt8),(∀b∈bs,33<=b.toNat/\b.toNat<=126)->ps0.eachB bs=(ps0,bs.map fun b=>evPr ((b.toNat:Nat):Int))
 | [],_=>rfl
 | b::bs,h=>by
  have hb:=h b (List.mem_cons_self ..);have ih:=qz8 bs fun x hx=>h x (List.mem_cons_of_mem _ hx);have hn:¬0<ps0.runN (b::bs):=by
   unfold PS.runN;rw [if_pos (.inr ⟨by decide,by decide⟩)];decide
  rw [PS.eachB_step hn,zfj (by omega)];dsimp only;rw [ih];rfl
theorem q8b (S:Sc) (r:Int):S.doS (evOf (evPr r))=S.print r/\S.doR (evOf (evPr r))=[]:=⟨by unfold Sc.doS;exact if_pos rfl,by unfold Sc.doR;exact if_pos (.inl rfl)⟩
theorem zfm (T:TS) (r:Int):evT T (evPr r)={ T with S:=T.S.print r }:=by
 unfold evT;rw [(q8b T.S r).1,(q8b T.S r).2,List.append_nil]
theorem q3n {base tg pg:Nat}:∀(evs:List EvP) {T T':TS},Runs (TH base tg pg) T evs T'->T'=evs.foldl evT T
 | [],T,T',h=>h
 | e::evs,T,T',⟨m,h1,h2⟩=>by
  have h1:m=evT T e:=h1;subst h1;exact q3n evs h2
theorem q6g:∀(bs:List UInt8) (T:TS),(bs.map fun b=>evPr ((b.toNat:Nat):Int)).foldl evT T={ T with S:=tzS T.S (bs.map fun b=>((b.toNat:Nat):Int)) }
 | [],T=>rfl
 | b::bs,T=>by
  show ((bs.map fun b=>evPr ((b.toNat:Nat):Int)).foldl evT (evT T (evPr ((b.toNat:Nat):Int))))=_;rw [zfm,q6g bs];rfl
theorem zgp {R C k:Nat} {T:TS} (hI:TzI R C k T.S) (hQ:Qz T.S) (h0:T.f0=0/\T.f1=0):Still T:=by
 refine ⟨hQ.ar,?_,by rw [hQ.top,h0.2]⟩;rw [hI.old,hI.top,h0.1];rfl
theorem za4 {R C:Nat} (hC:1<=C) {base tg pg:Nat}:∀(bs:List UInt8) {T:TS} {k:Nat},(∀b∈bs,33<=b.toNat/\b.toNat<=126)->TzI R C k T.S->Qz T.S->T.f0=0/\T.f1=0->T.rep.length<=1000->k+bs.length<R*C->qbq (TH base tg pg) T (bs.map fun b=>evPr ((b.toNat:Nat):Int))
 | [],T,k,_,_,_,_,_,_=>trivial
 | b::bs,T,k,hb,hI,hQ,h0,hr,hk=>by
  have hb1:=hb b (List.mem_cons_self ..);rw [List.length_cons] at hk;have hI1:=q8j hC (r:=((b.toNat:Nat):Int)) (by omega) hI (by omega);have hQ1:=hQ.print ((b.toNat:Nat):Int);have e:=zfm T ((b.toNat:Nat):Int);refine ⟨⟨.inl rfl,?_,by rw [hQ.ar];exact zero_le _,by omega,by rw [(q8b _ _).2];exact zero_le _⟩,?_⟩
  ·rw [e];exact zgp (R:=R) (C:=C) (k:=k+1) hI1 hQ1 h0
  ·intro m hm;have hm:m=evT T (evPr ((b.toNat:Nat):Int)):=hm;subst hm;rw [e];exact za4 hC bs (k:=k+1) (fun x hx=>hb x (List.mem_cons_of_mem _ hx)) hI1 hQ1 h0 hr (by omega)
theorem zf6 {P:Cel->Prop} {L:List (List Cel)} (h:∀xs∈L,∀c∈xs,P c) (h0:P cell0):∀r c,P (qcw L r c):=by
 intro r c;unfold qcw;rw [List.getD_eq_getElem?_getD,List.getD_eq_getElem?_getD];cases hr:L[r]? with
 | none=>exact h0
 | some xs =>
  show P ((xs[c]?).getD cell0);cases hc:xs[c]? with
  | none=>exact h0
  | some y=>exact h xs (List.mem_of_getElem? hr) y (List.mem_of_getElem? hc)
section
variable {w w':World} {base:Nat} {F F':TmF} {T T':TS} {PF:PF} {p:PS}
theorem TPM.ext (h:TPM w base F PF p T) (hB:Below w.heap.size w w'):TPM w' base F PF p T:=⟨h.tm.ext hB,by obtain ⟨fv,hp⟩:=h.pm;exact ⟨fv,hp.ext hB⟩,h.e,h.dj,h.ni⟩
theorem TPM.belowB (h:TPM w base F PF p T) (hc:Chg (fun k=>parS PF k\/termS F k) w w'):Below base w w':=by
 obtain ⟨fv,hp⟩:=h.pm;refine hc.below h.tm.base_le fun i hi hs=>?_;rcases hs with hs | hs
 ·have:=(hp.below i hs).1;omega
 ·have:=(h.tm.below i hs).1;omega
theorem TPM.lt (h:TPM w base F PF p T) {k:Nat} (hk:parS PF k\/termS F k):k<w.heap.size:=by
 obtain ⟨fv,hp⟩:=h.pm;rcases hk with hk | hk
 ·exact (hp.below k hk).2
 ·exact (h.tm.below k hk).2
theorem q4f {rows cols quota:Int} (hc:okC ⟨rows,cols,2,2,4,quota⟩) (hq:qki quota=0) (hT:Tab w) (h4:4<=w.heap.size) {K:Option Addr->World->Prop} (hK:∀F PF w',TPM w' w.heap.size F PF ps0 (newTm ⟨rows,cols,2,2,4,quota⟩)->Below w.heap.size w w'->K (some ⟨F.tg,0,none⟩) w'):qf5 rows cols quota w K:=by
 refine qv5 _ _ _ ?_;unfold qoe;exact zb8 hc hq hT h4 fun F PF w' hM hB=>cF rfl (hK F PF w' hM hB)
theorem qqa {n m:Int} (hm:0<m/\m<=1000) {K:Int->World->Prop} (hK:∀k:Nat,(k:Int)<m->K (k:Int) w):qc8 n m w K:=by
 refine qvx _ _ ?_;unfold qou;have l1:=Int.lt_tmod_of_pos n hm.1;have l2:=Int.tmod_lt_of_pos n hm.1;refine ⟨by omega,cO (fun e=>?_) fun e=>?_⟩
 ·have e:=oTq e;have:=hK (n.tmod m+m).toNat (by omega)
  rwa [Int.toNat_of_nonneg (by omega),<-w64i (x:=n.tmod m+m) (by omega)] at this
 ·have e:=oFq e;have:=hK (n.tmod m).toNat (by omega)
  rwa [Int.toNat_of_nonneg (by omega)] at this
def kc:qau:=⟨2,3,2,2,4,4096⟩
def kbs:List UInt8:=[120,27,91,53,110]
def kev:List EvP:=[evPr 120,⟨4,0,110,0,[],[5],[]⟩]
def kT:TS:=kev.foldl evT (newTm kc)
theorem zdp:(ps0.eachB kbs).2=kev:=by kernel_rfl
theorem kx:kT.S.g.L=[[⟨120,0,at0⟩,cell0,cell0],[cell0,cell0,cell0]]:=by kernel_rfl
theorem zfw:Still (evT (newTm kc) (evPr 120)):=⟨by kernel_rfl,by kernel_rfl,by kernel_rfl⟩
theorem zgy:Still (evT (evT (newTm kc) (evPr 120)) ⟨4,0,110,0,[],[5],[]⟩):=⟨by kernel_rfl,by kernel_rfl,by kernel_rfl⟩
theorem k_ok (base tg pg:Nat):qbq (TH base tg pg) (newTm kc) kev:=by
 refine ⟨⟨.inl rfl,zfw,by decide +kernel,by decide +kernel,by decide +kernel⟩,fun m hm=>?_⟩;have hm:m=evT (newTm kc) (evPr 120):=hm;subst hm;exact ⟨⟨.inr rfl,zgy,by decide +kernel,by decide +kernel,by decide +kernel⟩,fun _ _=>trivial⟩
theorem zbe {P:Cel->Prop} (h0:P cell0) (h1:P ⟨120,0,at0⟩):∀r c,P (qcw kT.S.g.L r c):=by
 refine zf6 (fun xs hx c hc=>?_) h0;rw [kx] at hx;simp only [mem_cons,List.not_mem_nil,or_false] at hx;rcases hx with rfl | rfl
 ·simp only [mem_cons,List.not_mem_nil,or_false] at hc;rcases hc with rfl | rfl | rfl
  ·exact h1
  ·exact h0
  ·exact h0
 ·simp only [mem_cons,List.not_mem_nil,or_false] at hc;rcases hc with rfl | rfl | rfl<;>exact h0
theorem ktext:(textS [⟨120,0,at0⟩,cell0,cell0]).toList==(⟨#[120]⟩:ByteArray).toList:=by kernel_rfl
theorem zdy (hT:Tab w) (h4:4<=w.heap.size) {K:Bool->World->Prop} (hK:∀w',Below w.heap.size w w'->K true w'):qjc w K:=by
 refine qvw ?_;unfold qos;refine q4f (by unfold okC;decide) rfl hT h4 fun F PF w1 M1 hB1=>cF rfl ?_;refine zd8 (bs:=kbs) rfl rfl fun q w3 hq hB3=>?_;have M3:=M1.ext hB3;have hqn:∀a,q.a=some a->¬parS PF a.block/\¬termS F a.block/\a.block<w3.heap.size:=by
  intro a ha;have hb:w1.heap.size<=a.block/\a.block<w3.heap.size:=by
   rcases hq with h | ⟨g,hg,rfl,h⟩
   ·exact h.lt a.block (slk.2 ⟨a,ha,rfl⟩)
   ·cases ha;exact ⟨hg,h.lt⟩
  exact ⟨fun h=>by have:=M1.lt (.inl h);omega,fun h=>by have:=M1.lt (.inr h);omega,hb.2⟩
 refine q2u M3 (hq.rd (by decide)) (by decide) (by decide) hqn (by rw [zdp];exact k_ok _ _ _) fun F4 PF4 T4 w4 M4 hR e4 hc4=>?_;rw [zdp] at hR;have hT4:T4=kT:=q3n kev hR;subst hT4;rw [<-e4];have B1:=bT hB1 hB3;have B4:Below w.heap.size w w4:=B1.trans (M3.belowB hc4);have m4:=M4.tm;refine q5q m4 (by decide +kernel) (by kernel_rfl) (by kernel_rfl) (cw:=2) (ch:=2) (by kernel_rfl) (by kernel_rfl) (by decide) (zbe (P:=fun c=>c.A=at0) rfl rfl) (zbe (P:=fun c=>0<=c.R/\c.R<=1114111) ⟨by decide,by decide⟩ ⟨by decide,by decide⟩) (by decide +kernel) (by decide +kernel) (by decide +kernel) (by decide +kernel) (by decide +kernel) fun m w5 hmw hmh hB5=>?_;have hw6:m.W=6:=hmw.trans (by kernel_rfl);have hh4:m.H=4:=hmh.trans (by kernel_rfl);refine qt1 (vs:=qaa.rep.cells m) rfl fun w7 h7 hB7 hs7=>?_;have B7:=bT hB5 hB7;have m7:=m4.ext B7;refine qea m7 fun ql ls w8 hql hls hB8=>cT rfl ?_;rw [kx] at hls;have h8:=h7.ext hB8;refine lI (x:=6) (by rw [<-hw6];exact h8.cells 0 _ rfl) (cT rfl (lI (x:=4) (by rw [<-hh4];exact h8.cells 1 _ rfl) (cT rfl ?_)));have hlen:ls.length=2:=hls.1;refine cT (by rw [hql.rd.n,hlen];rfl) ?_;obtain ⟨s0,hs0,hss⟩:=qta (xs:=ls) (k:=0) (by omega);refine hql.rd.ix (i:=0) (k:=1) rfl (by decide) (by omega) fun hc=>?_;have hss':=hss (by show (0:Nat)<ls.length;omega);refine lSl (x:=s0) (by have:=hc 0 _ rfl;rw [show ls[(0:Int).toNat]'(by show (0:Nat)<ls.length;omega)=s0 from hss'] at this;simpa using this) ?_;refine q0q (hls.2 0 s0 _ hs0 rfl).rd (by decide) fun w9 hB9=>cT ktext ?_;have m9:=(m7.ext hB8).ext hB9;refine q5c m9 fun qr F10 w10 hqr t10=>qsj hqr ?_;have hr:((strB kT.rep).toList==(⟨#[27,91,48,110]⟩:ByteArray).toList)=true:=by
  rw [qp8,show kT.rep=[27,91,48,110] by kernel_rfl];kernel_rfl
 rw [hr];refine hK w10 ?_;have B9:=bT (bT (bT B4 B7) hB8) hB9;exact B9.trans ((m9.belowB t10).mono (Nat.le_refl _))
end
def qj6 (b:UInt8):UInt8:=UInt8.ofNat (33+b.toNat%94)
theorem q4l (b:UInt8):(qj6 b).toNat=33+b.toNat%94:=by
 unfold qj6;have:=mod_lt b.toNat (show 0<94 by decide);rw [UInt8.toNat_ofNat'];exact Nat.mod_eq_of_lt (by omega)
theorem q9j (b:UInt8):qal.cells (qj6 b)=[.int .u8 (IntKind.u8.wrap ((33:Int)+(((b.toNat:Nat):Int).tmod 94)))]:=by
 show [Value.int .u8 (((qj6 b).toNat:Nat):Int)]=_;rw [q4l];have:=mod_lt b.toNat (show 0<94 by decide);rw [show ((b.toNat:Nat):Int).tmod 94=((b.toNat%94:Nat):Int) from rfl,show (33:Int)+((b.toNat%94:Nat):Int)=((33+b.toNat%94:Nat):Int) by simp,qml .u8 (by show _<2^8;omega)]
section
variable {w w':World}
theorem zff (hT:Tab w) (rows cols more wider bad:Int) {text:Slc} {xs:List UInt8} (htx:Rd qal w text xs) {K:Bool->World->Prop} (hK:∀w',Below w.heap.size w w'->K true w'):ql0 rows cols more wider bad text w K:=by
 have h4w:4<=w.heap.size:=zd3 (g:=3) (by kernel_rfl) hT;refine qsp _ _ _ _ _ _ ?_;unfold qlc;refine zdy hT h4w fun w1 hB1=>cF rfl ?_;refine qqa (by omega) fun k1 h1=>qqa (by omega) fun k2 h2=>qqa (by omega) fun k3 h3=>qqa (by omega) fun k4 h4=>?_;obtain ⟨R,hR⟩:∃R,R=1+k1:=⟨_,rfl⟩;obtain ⟨C,hC⟩:∃C,C=1+k2:=⟨_,rfl⟩;have eR:i64.wrap ((1:Int)+(k1:Int))=(R:Int):=by rw [w64i (by omega)];omega
 have eC:i64.wrap ((1:Int)+(k2:Int))=(C:Int):=by rw [w64i (by omega)];omega
 have hRC:R*C<=5*9:=Nat.mul_le_mul (by omega) (by omega);have hRC1:1*1<=R*C:=Nat.mul_le_mul (by omega) (by omega);have eRC:i64.wrap (i64.wrap ((R:Int)*(C:Int))-1)=((R*C-1:Nat):Int):=by
  rw [show (R:Int)*(C:Int)=((R*C:Nat):Int) by simp,w64i (x:=((R*C:Nat):Int)) (by omega),w64i (by omega)];omega
 have eR':i64.wrap ((R:Int)+(k3:Int))=((R+k3:Nat):Int):=by rw [w64i (by omega)];simp
 have eC':i64.wrap ((C:Int)+(k4:Int))=((C+k4:Nat):Int):=by rw [w64i (by omega)];simp
 rw [eR,eC,eRC];refine jpO fun J1 hJ1=>?_;have htx1:=htx.ext hB1;have key:∀(q:Slc) (ys:List UInt8),Rd qal w1 q ys->ys.length<=R*C-1->J1 (q,()) w1:=by
  intro q ys hq hyl;refine hJ1 _ _ ?_;dsimp only;refine q4f (by unfold okC;dsimp only;omega) rfl (hT.ext hB1) (by have:=hB1.size;omega) fun F PF w2 M2 hB2=>cF rfl ?_;have hqn:=hq.n;refine lpR (fun (st:Slc×Int×Unit) w3=>∃k:Nat,st.2.1=(k:Int)/\k<=ys.length/\Go.Vc.Own qal w3 w2.heap.size st.1 ((ys.take k).map qj6)/\Below w2.heap.size w2 w3) (fun st=>ys.length-st.2.1.toNat) ⟨0,rfl,zero_le _,Go.Vc.Own.nil _ _ _,Below.refl _ _⟩ ?_;rintro ⟨b,i,u⟩ w3 ⟨k,hi,hk,ho,hB3⟩ I hI;dsimp only at hi ho ⊢;subst hi;have hq3:=(hq.ext hB2).ext hB3;refine cO (fun e=>?_) fun e=>?_
  ·have e:=oTq e;have hkl:k<ys.length:=by omega
   obtain ⟨y,hy,hys⟩:=qta (xs:=ys) (k:=k) hkl;refine hq3.ix (i:=(k:Int)) (k:=1) rfl (by omega) (by omega) fun hc=>?_;rw [hys] at hc;refine lI (x:=((y.toNat:Nat):Int)) (by simpa using hc 0 _ rfl) ⟨by decide,?_⟩;have hlen:((ys.take k).map qj6).length=k:=by rw [length_map,List.length_take];omega
   refine q75 (E:=qal) qd7 (y:=qj6 y) ho (q9j y) hB3.size (by rw [qp9,hlen];omega) (by rw [hlen];simp [maxLen];omega) fun r w4 hr hc4 hrb=>?_;refine hI _ _ ⟨k+1,by show i64.wrap ((k:Int)+1)=_;rw [w64i (by omega)];simp,hkl,?_,hB3.trans (hc4.below hB3.size fun j hj e=>by have:=(ho.lt j e).1;omega)⟩ (by show ys.length-(i64.wrap ((k:Int)+1)).toNat<ys.length-((k:Nat):Int).toNat;rw [w64i (by omega)];omega);have e2:(ys.take (k+1)).map qj6=(ys.take k).map qj6++[qj6 y]:=by
    rw [List.take_add_one,hy,List.map_append];rfl
   rw [e2];exact hr
  have e:=oFq e;have hke:k=ys.length:=by omega
  rw [hke,List.take_length] at ho;obtain ⟨bs,hbs⟩:∃bs,bs=ys.map qj6:=⟨_,rfl⟩;rw [<-hbs] at ho;have hbl:bs.length=ys.length:=by rw [hbs,length_map]
  have hb33:∀b∈bs,33<=b.toNat/\b.toNat<=126:=by
   intro b hb;rw [hbs,List.mem_map] at hb;obtain ⟨y,_,rfl⟩:=hb;rw [q4l];have:=mod_lt y.toNat (show 0<94 by decide);omega
  have M3:=M2.ext hB3;have hqn3:∀a,b.a=some a->¬parS PF a.block/\¬termS F a.block/\a.block<w3.heap.size:=fun a ha=>by
   have hb:=ho.lt a.block (slk.2 ⟨a,ha,rfl⟩);exact ⟨fun h=>by have:=M2.lt (.inl h);omega,fun h=>by have:=M2.lt (.inr h);omega,hb.2⟩
  have hC1:1<=C:=by omega
  have eS:(newTm ⟨(R:Int),(C:Int),2,2,4,0⟩).S=newSc R C 4:=rfl;have hTz:TzI R C 0 (newTm ⟨(R:Int),(C:Int),2,2,4,0⟩).S:=by rw [eS];exact ziu (by omega) (by omega)
  have hQz:Qz (newTm ⟨(R:Int),(C:Int),2,2,4,0⟩).S:=by rw [eS];exact Qz.new (by omega)
  refine q2u M3 ho.rd (by omega) (fun b hb=>by have:=hb33 b hb;omega) hqn3 ?_ fun F4 PF4 T4 w4 M4 hRun e4 hc4=>?_
  ·rw [qz8 bs hb33];exact za4 hC1 bs (k:=0) hb33 hTz hQz ⟨rfl,rfl⟩ (zero_le _) (by omega)
  rw [qz8 bs hb33] at hRun;have hT4:=q3n _ hRun;rw [q6g] at hT4;have hI4:=zd7 hC1 (bs.map fun b=>((b.toNat:Nat):Int)) (S:=(newTm ⟨(R:Int),(C:Int),2,2,4,0⟩).S) (k:=0) (fun r hr=>by
   rw [List.mem_map] at hr;obtain ⟨b,hb,rfl⟩:=hr;have:=hb33 b hb;omega) hTz (by rw [length_map];omega)
  have hQ4:=hQz.tz (bs.map fun b=>((b.toNat:Nat):Int));obtain ⟨S,hS⟩:∃S,S=tzS (newTm ⟨(R:Int),(C:Int),2,2,4,0⟩).S (bs.map fun b=>((b.toNat:Nat):Int)):=⟨_,rfl⟩;rw [<-hS] at hI4 hQ4 hT4;have hTS:T4.S=S:=by rw [hT4]
  have hTf:T4.f0=0/\T4.f1=0:=by rw [hT4];exact ⟨rfl,rfl⟩
  rw [<-e4];have B4:Below w.heap.size w w4:=(bT hB1 (bT hB2 hB3)).trans ((M3.belowB hc4).mono hB1.size);have m4:=M4.tm;have hg:T4.S.g.L=S.g0.L:=by rw [hTS,hI4.tm.g]
  refine qea m4 fun q1 ls1 w5 ho1 hl1 hB5=>?_;rw [hg] at hl1;have m5:=m4.ext hB5;have z5:=hB5.size;refine jpO fun J3 hJ3=>?_;have hb:=zhj (R':=R+k3) (C':=C+k4) (by omega) hC1 hI4.tm hI4.L (by omega) (by omega) (by omega) (by omega);have hrow:=hI4.tm.row;have go:J3 () w5:=by
   refine hJ3 _ _ (jpO fun J4 hJ4=>?_);rw [eR',eC'];have s6:Still { T4 with S:=T4.S.resizeP ((R+k3:Nat):Int) ((C+k4:Nat):Int) }:=by
    have hQ6:=hQ4.resize (r:=R+k3) (c:=C+k4) (by omega);rw [hTS];refine ⟨hQ6.ar,?_,hQ6.top.trans hTf.2.symm⟩;show i64.wrap ((S.resizeP ((R+k3:Nat):Int) ((C+k4:Nat):Int)).g0.top-(S.resizeP ((R+k3:Nat):Int) ((C+k4:Nat):Int)).g0.old.length)=T4.f0;rw [hb.2.2.2,hTf.1];unfold qbx qb6;rw [if_neg (by omega)];show i64.wrap (S.g0.top-S.g0.old.length)=0;rw [hI4.old,hI4.top];rfl
   refine qme m5 (fun hbad=>absurd ⟨by omega,by omega⟩ hbad) fun _=>⟨s6,fun F6 w6 t6=>cF rfl ?_⟩;have s7:Still { T4 with S:=(T4.S.resizeP ((R+k3:Nat):Int) ((C+k4:Nat):Int)).resizeP (R:Int) (C:Int) }:=by
    have hQ7:=(hQ4.resize (r:=R+k3) (c:=C+k4) (by omega)).resize (r:=R) (c:=C) (by omega);rw [hTS];refine ⟨hQ7.ar,?_,hQ7.top.trans hTf.2.symm⟩;show i64.wrap (((S.resizeP ((R+k3:Nat):Int) ((C+k4:Nat):Int)).resizeP (R:Int) (C:Int)).g0.top-((S.resizeP ((R+k3:Nat):Int) ((C+k4:Nat):Int)).resizeP (R:Int) (C:Int)).g0.old.length)=T4.f0;rw [hb.2.1,hTf.1,hI4.old,hI4.top];rfl
   rw [<-t6.tg];refine qme t6.m (fun hbad=>absurd ⟨by omega,by omega⟩ hbad) fun _=>⟨s7,fun F7 w7 t7=>cF rfl (hJ4 _ _ ?_)⟩;have t57:=t6.trans t7;have m7:=t7.m;have hc7:=t57.chg;have ne:∀k,w4.heap.size<=k->¬termS F4 k:=fun k hk h=>by have:=(m4.below k h).2;omega
   have ho7:=ho1.chg hc7 fun k hk=>ne k (ho1.lt k hk).1;have hl7:Lines w7 w4.heap.size ls1 S.g0.L:=⟨hl1.1,fun j s ys hj hy=>(hl1.2 j s ys hj hy).chg hc7 fun k hk=>ne k ((hl1.2 j s ys hj hy).lt k hk).1⟩;have B7:Below w.heap.size w w7:=(bT B4 hB5).trans ((m5.belowB t57).mono hB1.size);have hg7:(((T4.S.resizeP ((R+k3:Nat):Int) ((C+k4:Nat):Int)).resizeP (R:Int) (C:Int)).g).L=S.g0.L/\(((T4.S.resizeP ((R+k3:Nat):Int) ((C+k4:Nat):Int)).resizeP (R:Int) (C:Int)).g).old=[]:=by
    rw [hTS];unfold Sc.g;rw [hb.1,if_neg (by decide),hb.2.1];exact ⟨rfl,hI4.old⟩
   rw [<-t6.tg,<-t7.tg];refine qea m7 fun q2 ls2 w8 ho2 hl2 hB8=>?_;dsimp only at hl2;rw [hg7.1] at hl2;have ho8:=ho7.ext hB8;have hl8:=hl7.ext hB8;have hn1:=ho8.rd.n;have hn2:=ho2.rd.n;have hel:ls2.length=ls1.length:=hl2.1.trans hl8.1.symm;have hRL:S.g0.L.length=R:=hI4.tm.len;have hl1R:ls1.length=R:=hl8.1.trans hRL;refine cF (by rw [hn1,hn2,hel];simp) ?_;have B8:=bT B7 hB8;refine lpR (fun (st:Int×Unit) w9=>∃k:Nat,st.1=(k:Int)/\k<=R/\Below w8.heap.size w8 w9) (fun st=>R-st.1.toNat) ⟨0,rfl,zero_le _,Below.refl _ _⟩ ?_;rintro ⟨i,u⟩ w9 ⟨k,hi,hk,hB9⟩ I2 hI2;dsimp only at hi ⊢;subst hi;refine cO (fun e=>?_) fun e=>?_
   ·have e:=oTq e;have hkR:k<R:=by omega
    have hB9d:Below w8.heap.size w8 w9.drew:=bT hB9 (bdw w9);have o1:=ho8.ext hB9d;have o2:=ho2.ext hB9d;have l1:=hl8.ext hB9d;have l2:=hl2.ext hB9d;obtain ⟨s1,hs1,hss1⟩:=qta (xs:=ls1) (k:=k) (by omega);obtain ⟨s2,hs2,hss2⟩:=qta (xs:=ls2) (k:=k) (by omega);obtain ⟨ys,hys,_⟩:=qta (xs:=S.g0.L) (k:=k) (by omega);have hyC:ys.length<=10000:=by
     have:=(hI4.L ys (List.mem_of_getElem? hys)).2;omega
    refine o2.rd.ix (i:=(k:Int)) (k:=1) rfl (by omega) (by omega) fun hc2=>?_;rw [hss2] at hc2;refine lSl (x:=s2) (by simpa using hc2 0 _ rfl) ?_;refine o1.rd.ix (i:=(k:Int)) (k:=1) rfl (by omega) (by omega) fun hc1=>?_;rw [hss1] at hc1;refine lSl (x:=s1) (by simpa using hc1 0 _ rfl) ?_;refine q0q (l2.2 k s2 ys hs2 hys).rd hyC fun w10 hB10=>⟨?_,?_⟩
    ·have hA:=(o1.ext hB10).rd.at_ k s1 hs1;simpa using hA 0 _ rfl
    refine q0q ((l1.2 k s1 ys hs1 hys).ext hB10).rd hyC fun w11 hB11=>cF (by simp) ?_;exact hI2 _ _ ⟨k+1,by show i64.wrap ((k:Int)+1)=_;rw [w64i (by omega)];simp,hkR,bT (bT hB9d hB10) hB11⟩ (by show R-(i64.wrap ((k:Int)+1)).toNat<R-((k:Nat):Int).toNat;rw [w64i (by omega)];omega)
   ·have m9:=(m7.ext hB8).ext hB9;refine zc2 m9 (fun q9 ls9 w12 ho9 hl9 hB12=>?_) (by dsimp only;rw [hg7.2];exact zero_le _);dsimp only at hl9;rw [hg7.2] at hl9;have hn9:=ho9.rd.n;have h0:ls9.length=0:=hl9.1;rw [hn9,h0];exact hK w12 (bT (bT B8 hB9) hB12)
  refine jpO fun J6 hJ6=>?_;have k6:(bad<1\/bad>1000)->J6 (true,()) w5:=by
   intro hbd;refine hJ6 _ _ (cT rfl ?_);refine qme m5 (fun _=>cF rfl ?_) fun ok=>absurd ok.1 (by omega);exact qme m5 (fun _=>cF rfl go) fun ok=>absurd ok.2 (by omega)
  refine cO (fun e=>k6 (.inl (oTq e))) fun e=>?_;by_cases hb2:bad>1000
  ·rw [dTq hb2];exact k6 (.inr hb2)
  ·rw [dFq hb2];exact hJ6 _ _ (cF rfl go)
 have hn:=htx1.n;refine cO (fun e=>?_) fun e=>?_
 ·have e:=oTq e;refine htx1.slK (l:=0) (m:=R*C-1) rfl (.inl ⟨rfl,rfl⟩) (.inr rfl) (zero_le _) (by omega) fun h=>key _ _ h ?_;rw [List.length_drop,List.length_take];omega
 ·have e:=oFq e;exact key text xs htx1 (by omega)
end
end Go.Proofs.YtcigiaecigedmaaGreatDoor
namespace Go.Proofs.YtcigiaecigedmaaGreatDoor
def jnA (P:Program) (fn:Func) (s:ChangeSpec) (c:OpenClaim):Bool :=
 c.wf (OpenSpec.ofChange s) && laidOutB P && mapsRowed P && fn.params.all (P.readableRec ·) && namedTie P c.named s.vars && (c.stops==[]) && (P.stops==[]) && (c.knobs==[]) && (P.stopKnobs==[])
def jnB (P:Program) (fn:Func) (s:ChangeSpec) (c:OpenClaim):Bool :=
 (c.maps==(fn.params.toList++s.plain.varTypes P).any (P.mapsRec ·)) && (c.ifaces==(fn.params.toList++s.plain.varTypes P).any (P.ifacesRec ·)) && (c.mapsOut==P.mapsAmong fn.resultTypes.toList) &&
 (c.loops==(fn.params.toList++s.plain.varTypes P).any (P.loopsFrom ·)) && (c.wideKeys==(fn.params.toList++s.plain.varTypes P++fn.resultTypes.toList).any (P.wideKeysFrom ·)) &&
 s.vars.all (P.varReadable ·) && fn.resultTypes.all (fun t=>P.readableRec t && decide (t<P.types.size)) && (c.ifacesOut==fn.resultTypes.toList.any (P.ifacesRec ·)) && (c.loopsOut==fn.resultTypes.toList.any (P.loopsFrom ·))
def jnC (P:Program) (fn:Func) (s:ChangeSpec) (c:OpenClaim):Bool :=
 (c.plainKeys==P.plainKeys) && c.shortTexts.isNone && P.stopsHeard && P.mayEnter && (c.lifted==P.liftsFinal) && (P.make==some c.make) && (c.kinds==(if c.domain.isEmpty then [] else fn.params.toList.map fun t=>match P.underlying t with | some (.int k)=>some k | _=>none)) && (c.pinned==c.pinnedBy) &&
 (c.veiled==(fn.params.toList++s.plain.varTypes P++fn.resultTypes.toList).any (P.veiledRec ·)) && c.veiledFits P fn.params.toList (fn.params.toList++s.plain.varTypes P++fn.resultTypes.toList)
theorem zek {P:Program} {f:FuncId} {fn:Func} {s:ChangeSpec} {c:OpenClaim} (a:jnA P fn s c=true) (b1:(c.inPlace==P.inPlace f)=true) (b2:(c.unfollowed==P.unfollowed f)=true) (b3:(c.recurses==P.recurses f)=true) (b4:(c.named==P.varsNamed f)=true)
  (d:jnB P fn s c=true) (e:jnC P fn s c=true):joinedFacts P f fn s c=true:=by
 unfold jnA at a;unfold jnB at d;unfold jnC at e;unfold joinedFacts;simp only [Bool.and_eq_true,and_assoc] at a d e ⊢;exact ⟨a.1,a.2.1,a.2.2.1,a.2.2.2.1,a.2.2.2.2.1,a.2.2.2.2.2.1,a.2.2.2.2.2.2.1,a.2.2.2.2.2.2.2.1,a.2.2.2.2.2.2.2.2,b1,b2,b3,b4,d.1,d.2.1,d.2.2.1,d.2.2.2.1,d.2.2.2.2.1,d.2.2.2.2.2.1,d.2.2.2.2.2.2.1,d.2.2.2.2.2.2.2.1,d.2.2.2.2.2.2.2.2,e⟩
set_option maxRecDepth 100000
def closB (T:List (List Nat)):Nat->List Nat->List Nat->Nat->List Nat
 | 0,_,seen,_=>seen.reverse
 | _+1,[],seen,_=>seen.reverse
 | n+1,f::todo,seen,m=>cond (Nat.testBit m f) (closB T n todo seen m) (closB T n ((T[f]?).getD []++todo) (f::seen) (m ||| 1 <<< f))
theorem zgq {P:Program} {T:List (List Nat)} (hT:P.funcs.toList.map P.leadsTo=T):∀(n:Nat) (todo seen:List FuncId) (m:Nat),(∀f,seen.contains f=Nat.testBit m f)->P.closureVia n todo seen=closB T n todo seen m:=by
 have hg:∀f:Nat,(P.funcs[f]?).elim [] P.leadsTo=(T[f]?).getD []:=fun f=>by
  rw [<-hT,List.getElem?_map,Array.getElem?_toList];cases P.funcs[f]?<;>rfl
 intro n
 induction n with
 | zero=>intro todo seen m h;cases todo<;>rfl
 | succ n ih =>
  intro todo seen m h;cases todo with
  | nil=>rfl
  | cons f todo =>
   show (if seen.contains f then P.closureVia n todo seen else P.closureVia n ((P.funcs[f]?).elim [] P.leadsTo++todo) (f::seen))=cond (Nat.testBit m f) (closB T n todo seen m) (closB T n ((T[f]?).getD []++todo) (f::seen) (m ||| 1 <<< f));rw [h f];cases hb:Nat.testBit m f
   ·rw [if_neg (by decide),hg];refine ih _ _ _ fun x=>?_;rw [List.contains_cons,h x,Nat.testBit_or,Nat.one_shiftLeft,Nat.testBit_two_pow,Bool.or_comm];congr 1;by_cases e:x=f
    ·subst e;simp
    ·rw [beq_eq_false_iff_ne.2 e,decide_eq_false (fun h=>e h.symm)]
   ·rw [if_pos rfl];exact ih _ _ _ h
theorem zde {P:Program} {T:List (List Nat)} (hT:P.funcs.toList.map P.leadsTo=T) (f:FuncId):P.closure f=closB T (1+(T.map fun l=>l.length+1).sum) [f] [] 0:=by
 unfold Program.closure;rw [zgq hT _ _ _ 0 (fun f=>by rw [Nat.zero_testBit];rfl)];subst hT;rw [List.map_map];rfl
theorem q7n {P:Program} (h:P.funcs.any Func.goes=false) (c:OpenClaim) (hs:c.start=.entering):c.goesBy P=false:=by
 have hg:∀f,P.goes f=false:=fun f=>by
  unfold Program.goes;rw [h,Bool.and_false,Bool.or_false,List.any_eq_false];intro g _ hx;cases hp:P.funcs[g]? with
  | none=>rw [hp] at hx;cases hx
  | some fn =>
   rw [hp] at hx;rw [Array.any_eq_false] at h;obtain ⟨hi,rfl⟩:=Array.getElem?_eq_some_iff.1 hp;exact h g hi hx
 unfold OpenClaim.goesBy Program.goesAt Program.goesFrom;rw [hs];cases P.funcNamed c.func with
 | none=>rfl
 | some f=>simp [hg f]
def zi7:List (List Nat):=[[],[],[1],[6,7,7,8,11,10,9,7,11,12,9,13,14,13,15,13,16,17,18,13,16],[6,7,7,7,7,8,9,19,20,20,20,20,19,21,21,22],[23,25,24,9,9,9,9,26,26,26],[8,9,27,19,21,26],[],[24],[29,28],[30,12],[11],[],[31],[33,32],[],[34,35],[36],[37],[39,40,38],[41,42],[43,44,46,45,48,47],[39,49,38],[24,9,26,27,19,21,26],[50,51,52],[],[53],[56,55,54],[57,58,59],[60,61,62,63,64,65,66,42],[67],[68],[69,70],[71],[],[],[72],[],[],[73,74],[75,76],[77,77,78,73,79,80,79,81,80,80,82],[83,84,85,86,86],[76,87],[88],[88],[89],[90,91,92,93],[],[94,76],[95,96,96,97],[98,99],[100,101],[],[102,102,102,102,103,104],[105,19,106,107,13,14],[34],[108,109,110],[111,112,114,113,115,116],[],[117],[118,119,118,118,120,121],[121,122,105,123,66,124],[],[105,125,124],[51],[126,127,128,129],[130],[131],[132],[134,133],[],[37],[],[135,136],[],[],[],[],[137,137,75,138,139,141,140]]
def zi6:List (List Nat):=[[],[142,80,80],[143],[],[145,144],[146,147],[148,144],[149,149],[150],[],[],[],[151],[152,153],[],[77,77,77,77,77,77],[137,137,154,155],[142,156,157,158],[],[],[],[],[],[159],[160],[161,162,163,164],[165],[166],[],[],[35],[167,115,115,116,168],[169,168,170,171],[],[172],[],[],[173],[],[174],[176,175,177],[120],[178,35],[179,177,181,180,120],[77,182,77,81],[183,184,185,186,187,188,189,190],[191,192],[81,193,81,182,81],[194,195],[196,197,198,200,199,199,201,202,201,199,203],[],[204],[],[205,206,207,208,209,210,211,212,213,133,133],[214,215],[136],[],[],[43,43,217,216],[141,140,141,140,218],[219],[220],[73,78],[221,32],[222,223],[225,224],[227],[],[228,224],[],[],[],[229,230],[231],[],[141],[82],[],[],[]]
def zif:List (List Nat):=[[],[142],[],[],[73,147],[226,232,233],[163],[35],[234,235,236,237],[234,114,113,114,113,238,113],[234,234,235,236,239,240],[167],[],[],[241,178,242],[243],[244],[245],[241,246,247,246,246,248],[249,250,250,251,252,243,253,35,53],[254,255,190,190],[],[73,256,139,81],[257,258,258],[181,259,260],[261,120,186,190,262],[251],[263,190,185],[264,190,180,265],[266,14,267,222,268],[269,270],[271],[272,142,81,182,81,182,73,274,273],[277,278,143],[142,220,73,279,81],[81,182,280,281,282,283,284],[],[142,158,157],[285,286,286],[],[201,201],[287],[166],[196,196,199,200,199,199,288,289,282,283,290,291,292,293,294,295,296,73,256,139,297],[],[211],[298,298],[299,300],[301,301,301,302],[],[211,211,211],[303,303],[211,211],[211,211,211,211],[],[],[304],[],[305],[],[217],[306],[307,252],[],[],[226],[],[308],[],[],[309],[310,311,310,312,313],[314],[],[],[169],[],[116,116],[315,315],[]]
def zig:List (List Nat):=[[239,316],[],[248],[317,33,69,319,252],[],[320,224],[],[246,321,173],[],[159],[],[],[],[],[34,322,322,323,324,324],[325,326,224],[],[327],[],[328],[329,330,331,330,332,332,333],[334,335,336],[337,186,190,338],[339,340],[266,34],[],[],[341,224],[],[],[201,343],[],[89,345,344,346,344],[75,138,75],[275,276],[43,347,217,216,43],[43,348],[],[],[75,138,75],[73,256,139,81],[277,277],[],[157,142,80,80],[78,155,349,147,97],[81],[282,142,350,283],[351],[352,352,353],[142,196,80,196,80,285],[],[],[142,192],[142,350,350,350,350,350,73,349],[142,350],[142,350,275,354,73,355,273],[73,256,139,81],[356,357,81,81,81,358,81,358,196,81,193,81,359,81,81],[211,211],[134],[],[302],[360,360,360],[],[],[140],[],[362,361],[],[],[363],[],[],[],[364,364,365,365],[],[],[318],[366,366],[]]
def zim:List (List Nat):=[[],[],[],[324,324,324,324,324,367,367],[],[368,368,368,368,368,368,368,368,368],[],[369,370,371,369,370,312,371,369,370,372],[373,374,375],[376,333],[310],[],[310],[],[377],[],[378],[379,335,336,380,378,381,382],[179,190,177,190,180],[383,383],[],[342],[226,226,226,226,226,226],[384,385,385,385,48],[],[],[],[],[87],[386],[73,256,387,163,73,147],[388,389,390,391],[],[392],[43,347,217,216,43],[256],[81],[142,81],[80],[277,278,143,393],[211],[394],[],[395],[],[396,365,365],[],[],[],[397],[],[],[398],[399,230],[399,400,375],[401],[402],[310,403,404],[],[403,404,405],[406],[407],[408,409,410],[],[88,411],[88],[],[412,273],[],[215,414,415],[],[416,417],[],[418],[],[],[419,419,419],[],[],[]]
def zi3:List (List Nat):=[[],[363,313,363,312,313,420],[421],[],[],[],[],[422,423,424,425],[426],[427,428,407,429],[426],[430],[413],[43,348],[],[],[],[431,432],[],[],[433],[],[434,435],[436,437,438,439,437,440,441,380,442,437],[],[441],[103],[443,444,445],[447,446],[103,449,450,446],[],[],[],[],[],[],[],[],[],[380,454,455,456,457,458,456,456,456,35],[],[440],[],[460,459],[442,442,461],[462,463],[464,465],[449,448],[466],[],[448,451,452,453],[467,35,468],[466],[469,469,469,469,469],[35],[470],[],[471,472,473,474,475],[],[476,370,477],[],[449,478],[],[],[479],[480,480],[],[],[481],[482],[483],[455,484,485,485],[486,455,455],[455,487,488,489],[455,455,455,455,485,490,485,485],[491,489,488,492,455,491,493,455,488],[],[442,494,496,495,442,35],[497],[]]
def zjb:List (List Nat):=[[],[498],[],[],[],[499,500],[],[456,456,454,455],[],[],[491,455],[483,470,455],[],[],[501,502],[],[],[],[],[],[503],[108],[],[],[],[],[],[],[],[],[],[],[],[],[],[],[],[],[],[],[],[],[],[530],[334,53],[526,523],[527,529,528],[531,531],[],[],[],[532,533,534,533],[],[],[533],[536,537,538],[323,102,102,102,102],[539,539,249],[249,249,539,539,541,541,540],[],[],[],[543,523],[545,544],[527,529,529],[528],[102,102],[],[],[],[],[],[],[],[],[],[],[],[],[]]
def leadT:List (List Nat):=zi7++zi6++zif++zig++zim++zi3++zjb
theorem zgc:Tryz.checked.prog.funcs.toList.map Tryz.checked.prog.leadsTo=leadT:=by kernel_rfl
theorem q9c:Tryz.checked.prog.funcs.any Func.goes=false:=by kernel_rfl
def clo4:List Nat:=[4,6,8,24,50,95,77,96,137,154,155,141,220,217,97,142,73,78,156,82,143,221,306,32,69,132,70,134,214,215,133,205,211,303,206,298,207,299,300,208,301,302,360,209,210,212,213,157,158,51,98,99,52,100,101,9,29,60,117,173,61,118,119,174,241,178,246,247,321,248,242,120,176,244,175,243,317,318,366,33,71,319,252,177,245,320,224,121,62,122,35,105,161,162,163,164,147,123,179,249,159,250,251,253,53,181,180,254,34,322,323,324,367,255,325,368,326,190,269,270,201,287,351,388,389,414,415,390,391,416,417,431,432,343,384,88,150,411,430,385,48,66,126,191,271,192,272,89,345,344,346,81,80,182,256,139,140,219,218,305,274,275,43,76,87,149,347,216,304,276,348,273,75,138,127,193,277,278,128,194,279,195,280,281,282,283,284,349,386,129,196,197,198,285,286,350,387,412,413,200,199,202,166,203,288,352,353,392,289,290,291,292,293,294,295,354,355,296,297,356,357,358,359,393,418,124,63,64,125,183,257,327,369,397,370,371,312,372,398,258,184,259,328,373,399,230,309,374,400,375,401,363,395,313,420,433,260,329,376,402,421,333,330,310,331,332,185,261,334,377,403,404,335,336,378,186,262,337,379,405,380,406,381,407,422,434,435,423,436,437,438,439,454,455,470,483,456,457,471,484,485,499,500,503,472,486,473,487,488,489,474,490,491,475,492,493,458,440,441,442,424,425,382,408,426,103,409,427,443,460,459,476,477,494,501,108,502,496,495,444,461,449,478,497,445,462,463,428,447,448,466,446,464,479,465,480,429,450,451,467,468,481,498,452,453,469,482,410,338,187,263,339,383,340,188,264,266,265,189,14,267,341,342,226,222,307,362,361,394,268,65,42,83,84,145,225,144,223,85,146,227,308,86,148,228,28,57,109,110,58,111,167,115,116,168,234,235,169,114,172,113,238,315,236,237,112,170,239,240,316,171,59,27,56,55,19,39,74,135,136,40,38,106,165,232,314,364,365,396,419,233,107,13,31,68,131,204,54,102,104,160,21,44,46,45,47,90,91,92,151,93,152,229,153,231,311,26,7,20,41,79,22,49,94]
theorem q5l:Tryz.checked.prog.closure 4=clo4:=(zde zgc 4).trans (by kernel_rfl)
end Go.Proofs.YtcigiaecigedmaaGreatDoor
