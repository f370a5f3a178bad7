import Derived.Test.YtedcpbkcamckoaaGreatDoorP5
import Derived.Test.YtedcpbkcamckoaaGreatDoorShD
import Derived.Lib.AppendStr
import Derived.JoinedOf
import Derived.Test.YtedcpbkcamckoaaGreatDoorP1
set_option linter.unusedVariables false
namespace Go.Proofs.YtedcpbkcamckoaaGreatDoor
open Go.Vc Go.RowKit
set_option maxRecDepth 400000
open IntKind (i64)
open _root_.List (length_append length_nil mem_cons)
open _root_.Nat (le_refl zero_le)
def qfe:List UInt8:=[97,105,99,112,120,121,114,65,73,67,80,88,89,82]
def dgt (n:Nat):List UInt8:=Lib.decDigits n
theorem q11 (u:Nat):∀b∈dgt u,b≠44/\b≠59:=by
 have key:∀u:Nat,∀b∈Lib.decDigits u,48<=b.toNat/\b.toNat<=57:=by
  intro u
  induction u using Nat.strongRecOn with
  | _ u ih =>
   have one:∀d,d<10->∀b∈[UInt8.ofNat (48+d)],48<=b.toNat/\b.toNat<=57:=fun d hd b hb=>by
    rw [List.mem_singleton] at hb;subst hb;rw [UInt8.toNat_ofNat'];omega
   rw [Lib.decDigits];split
   ·rename_i h;exact one u h
   ·rename_i h;intro b hb;rcases List.mem_append.1 hb with hb | hb
    ·exact ih (u/10) (by omega) b hb
    ·exact one _ (by omega) b hb
 intro b hb;have:=key u b hb;exact ⟨fun e=>by subst e;revert this;decide,fun e=>by subst e;revert this;decide⟩
theorem qst {u:Nat} (h:u<=1000):(dgt u).length<=10:=(zdc u 10 (by omega) (by omega)).1
def delB (c:UInt8) (i x y:Nat):List UInt8:=[71,97,61,100,44,100,61]++[c]++[44,105,61]++dgt i++[44,120,61]++dgt x++[44,121,61]++dgt y
def keyX (c i x y:Int):qaa:=⟨100,100,0,c,0,32,0,0,i,0,0,0,x,y,0,0,0,0,0,0,0,0⟩
theorem qvo {c:UInt8} (hc:c∈qfe) (k:List Int):oneL k [100,61,c]=some (k.set 3 (c.toNat:Int))/\c≠44/\c≠59:=by
 simp only [qfe,mem_cons,List.mem_nil_iff,or_false] at hc;rcases hc with rfl | rfl | rfl | rfl | rfl | rfl | rfl | rfl | rfl | rfl | rfl | rfl | rfl | rfl<;>exact ⟨by kernel_rfl,by decide,by decide⟩
theorem q33 {c:UInt8} {j:Nat} (hs:qlq c=none) (hn:numIx c=some j) (hl:qmf c=true) (hz:c≠122) (k:List Int) {u:Nat} (hu:u<=1000):oneL k (c::61::dgt u)=some (k.set j (u:Int)):=by
 have hr:readN (dgt u)=some u:=zik (by omega);unfold oneL;dsimp only;rw [if_neg (by rw [hl];simp),if_neg hz,hs];dsimp only;rw [hn];dsimp only;rw [hr];rfl
theorem zgc {c:UInt8} (hc:c∈qfe) {i x y:Nat} (hi:i<=1000) (hx:x<=1000) (hy:y<=1000):qdk ([97,61,100,44,100,61]++[c]++[44,105,61]++dgt i++[44,120,61]++dgt x++[44,121,61]++dgt y)=(toL (keyX c.toNat i x y),0):=by
 have li:=qst hi;have lx:=qst hx;have ly:=qst hy;have hlen:([97,61,100,44,100,61]++[c]++[44,105,61]++dgt i++[44,120,61]++dgt x++[44,121,61]++dgt y).length<=512:=by
  simp only [length_append,List.length_cons,length_nil];omega
 have e:[97,61,100,44,100,61]++[c]++[44,105,61]++dgt i++[44,120,61]++dgt x++[44,121,61]++dgt y=[97,61,100]++44::([100,61,c]++44::((105::61::dgt i)++44::((120::61::dgt x)++44::(121::61::dgt y)))):=by simp
 have hs:qbb ([97,61,100,44,100,61]++[c]++[44,105,61]++dgt i++[44,120,61]++dgt x++[44,121,61]++dgt y)=[[97,61,100],[100,61,c],105::61::dgt i,120::61::dgt x,121::61::dgt y]:=by
  have nd:∀(b:UInt8) (u:Nat),b≠44->∀z∈(b::61::dgt u),z≠44:=fun b u hb z hz=>by
   rcases mem_cons.1 hz with rfl | hz
   ·exact hb
   rcases mem_cons.1 hz with rfl | hz
   ·decide
   ·exact (q11 u z hz).1
  have hcl:=(qvo hc []).2.1;rw [e,qsm _ (by decide),qsm _ (by intro z hz;simp only [mem_cons,List.mem_nil_iff,or_false] at hz;rcases hz with rfl | rfl | rfl;decide;decide;exact hcl),qsm _ (nd 105 i (by decide)),qsm _ (nd 120 x (by decide)),zd2 _ (nd 121 y (by decide))]
 unfold qdk;rw [if_neg (by omega),if_neg (by simp),hs];have hf:[[97,61,100],[100,61,c],105::61::dgt i,120::61::dgt x,121::61::dgt y].foldlM oneL qc2=some (toL (keyX c.toNat i x y)):=by
  have h1:oneL qc2 [97,61,100]=some (qc2.set 0 100):=by kernel_rfl
  rw [List.foldlM_cons,h1];show List.foldlM oneL (qc2.set 0 100) _=_;rw [List.foldlM_cons,(qvo hc _).1];show List.foldlM oneL ((qc2.set 0 100).set 3 _) _=_;rw [List.foldlM_cons,q33 (j:=8) (by kernel_rfl) (by kernel_rfl) (by decide) (by decide) _ hi];show List.foldlM oneL (((qc2.set 0 100).set 3 _).set 8 _) _=_;rw [List.foldlM_cons,q33 (j:=12) (by kernel_rfl) (by kernel_rfl) (by decide) (by decide) _ hx];show List.foldlM oneL ((((qc2.set 0 100).set 3 _).set 8 _).set 12 _) _=_;rw [List.foldlM_cons,q33 (j:=13) (by kernel_rfl) (by kernel_rfl) (by decide) (by decide) _ hy];rfl
 rw [hf]
theorem zek {c:UInt8}:∀l:List UInt8,(∀b∈l,b≠c)->headB c l=l/\tailB c l=[]:=fun l h=>by
 rcases cutB c l with ⟨h1,_⟩ | ⟨_,h2,h3⟩
 ·exact absurd rfl (h c h1)
 ·exact ⟨h2,h3⟩
noncomputable def delE (E:KE) (k:qaa) (v:qac):KE:=match E.ld with
 | some _=>qfc E.idle k v
 | none=>qfc E k v
theorem zl4 {c:UInt8} (hc:c∈qfe) {i x y:Nat} (hi:i<=1000) (hx:x<=1000) (hy:y<=1000) (E:KE) (P:Slc) (v:qac):doK E (delB c i x y) P v=(delE E (keyX c.toNat i x y) v,kr0):=by
 have e:delB c i x y=71::([97,61,100,44,100,61]++[c]++[44,105,61]++dgt i++[44,120,61]++dgt x++[44,121,61]++dgt y):=rfl;have hcl:=(qvo hc []).2.2;have hn:∀b∈[97,61,100,44,100,61]++[c]++[44,105,61]++dgt i++[44,120,61]++dgt x++[44,121,61]++dgt y,b≠59:=by
  have lit:∀l:List UInt8,59 ∉ l->∀b∈l,b≠59:=fun l h b hb e=>h (e ▸ hb);intro b hb;simp only [List.mem_append] at hb;rcases hb with ((((((hb | hb) | hb) | hb) | hb) | hb) | hb) | hb
  ·exact lit _ (by decide) b hb
  ·rw [List.mem_singleton] at hb;rw [hb];exact hcl
  ·exact lit _ (by decide) b hb
  ·exact (q11 i b hb).2
  ·exact lit _ (by decide) b hb
  ·exact (q11 x b hb).2
  ·exact lit _ (by decide) b hb
  ·exact (q11 y b hb).2
 obtain ⟨h1,h2⟩:=zek _ hn;rw [e];unfold doK;dsimp only;rw [h1,h2,zgc hc hi hx hy,if_neg (by simp)];refine (if_neg (by show ¬(0:Int)≠0;omega)).trans ?_;show cmdK E (keyX c.toNat i x y) [] P v=_;have hg:∀E:KE,goK E (keyX c.toNat i x y) [] P v=(qfc E (keyX c.toNat i x y) v,kr0):=fun E=>by
  unfold goK;have h100:(keyX c.toNat i x y).Action=100:=rfl;rw [h100,if_neg (by omega),if_neg (by omega),if_pos rfl]
 unfold cmdK delE;split
 ·rename_i C s hl;rw [hl];exact (if_neg (fun h=>h rfl)).trans (hg _)
 ·rename_i hl;rw [hl];exact hg _
theorem qyy (T:List Pl) (f:Int->Bool):∀(ids:List Int) (S:St) (k:Int),HasI S k->HasI (qjd T f S ids) k\/(T.any fun p=>p.Image==k)=false
 | [],S,k,h=>.inl h
 | i::ids,S,k,h=>by
  have e:qjd T f S (i::ids)=qjd T f (qfl T f S i) ids:=rfl;rw [e];unfold qfl;split
  ·rename_i hc;simp only [Bool.and_eq_true,Bool.not_eq_true'] at hc;by_cases hk:k=i
   ·right;rw [hk];exact hc.2
   ·obtain ⟨x,hx⟩:=h;exact qyy T f ids _ k ⟨x,(qi7 _ _ _).2 ⟨hk,hx⟩⟩
  ·exact qyy T f ids S k h
theorem q57 {c:UInt8} (hc:c∈qfe) (E:KE) (i x y:Int) (v:qac):(qfc E (keyX c.toNat i x y) v).T=E.T.filter (fun p=>!qel ⟨c.toNat,i,0,x,y,0⟩ p v.View) /\
  ∀k,HasI E.S k->HasI (qfc E (keyX c.toNat i x y) v).S k\/(c.toNat<97/\((qfc E (keyX c.toNat i x y) v).T.any fun p=>p.Image==k)=false):=by
 obtain ⟨ids,hids⟩:∃ids,idsK E (keyX c.toNat i x y)=some (ids,i):=by
  have hw:(keyX c.toNat i x y).What=(c.toNat:Int):=rfl;have hn:¬((c.toNat:Int)=110\/(c.toNat:Int)=78):=by
   simp only [qfe,mem_cons,List.mem_nil_iff,or_false] at hc;rcases hc with rfl | rfl | rfl | rfl | rfl | rfl | rfl | rfl | rfl | rfl | rfl | rfl | rfl | rfl<;>decide
  unfold idsK;rw [hw,if_neg hn];split
  ·exact ⟨_,rfl⟩
  ·split
   ·exact ⟨_,rfl⟩
   ·exact ⟨_,rfl⟩
 have hr:qfc E (keyX c.toNat i x y) v=goneK E (keyX c.toNat i x y) v ids i:=by
  unfold qfc;rw [hids]
 rw [hr];unfold goneK;split
 ·rename_i hcap;refine ⟨rfl,fun k hk=>?_⟩;rcases qyy (E.T.filter fun p=>!qel (askK (keyX c.toNat i x y) i) p v.View) (fun _=>true) (ids++(E.T.filter fun p=>qel (askK (keyX c.toNat i x y) i) p v.View).map (·.Image)) E.S k hk with h | h
  ·exact .inl h
  ·refine .inr ⟨?_,h⟩;unfold capK at hcap;simp only [Bool.and_eq_true,decide_eq_true_eq] at hcap;have h2:(c.toNat:Int)<=90:=hcap.2;omega
 ·exact ⟨rfl,fun k hk=>.inl hk⟩
theorem zlf {c:UInt8} (hc:c∈qfe) (E:KE) (i x y:Int) (v:qac):(delE E (keyX c.toNat i x y) v).T=E.T.filter (fun p=>!qel ⟨c.toNat,i,0,x,y,0⟩ p v.View) /\
  ∀k,HasI E.S k->HasI (delE E (keyX c.toNat i x y) v).S k\/(c.toNat<97/\((delE E (keyX c.toNat i x y) v).T.any fun p=>p.Image==k)=false):=by
 unfold delE;split
 ·exact q57 hc E.idle i x y v
 ·exact q57 hc E i x y v
theorem zht {T:List Pl} {f:Pl->Bool} {k:Nat} {p:Pl} (hp:T[k]?=some p) (hf:f p=true):(T.filter f)[((T.take k).filter f).length]?=some p:=by
 have hk:=(List.getElem?_eq_some_iff.1 hp).1;have e:T=T.take k++p::T.drop (k+1):=by
  conv=>lhs;rw [<-List.take_append_drop k T,List.drop_eq_getElem_cons hk]
  rw [(List.getElem?_eq_some_iff.1 hp).2]
 conv=>lhs;arg 1;rw [e,List.filter_append,List.filter_cons_of_pos hf]
 simp
section
variable {w w':World}
theorem zlm:∀c:Nat,c<256->(if (c:Int)>=65/\(c:Int)<=90 then IntKind.u8.wrap ((c:Int)+32) else (c:Int))=lowP c:=by
 have h:∀c:Fin 256,(if ((c.val:Nat):Int)>=65/\((c.val:Nat):Int)<=90 then IntKind.u8.wrap (((c.val:Nat):Int)+32) else ((c.val:Nat):Int))=lowP ((c.val:Nat):Int):=by decide +kernel
 exact fun c hc=>h ⟨c,hc⟩
theorem q8m {c:Nat} (hc:c<256) {K:Int->World->Prop} (hK:K (lowP c) w):qv8 (c:Int) w K:=by
 refine q6w _ ?_;unfold q10;rw [<-zlm c hc] at hK;refine jpO fun J hJ=>?_;refine cO (fun e=>?_) fun e=>?_
 ·have e:=oTq e;refine hJ _ _ (cO (fun f=>?_) fun f=>?_)
  ·rw [if_pos ⟨e,oTq f⟩] at hK;exact hK
  ·rw [if_neg (fun h=>oFq f h.2)] at hK;exact hK
 ·have e:=oFq e;rw [if_neg (fun h=>e h.1)] at hK;exact hJ _ _ (cF rfl hK)
theorem qy8 {p:Pl} {line rows from_ past:Int} {K:Bool->World->Prop} (hK:∀w',Below w.heap.size w w'->K (qe4 p line rows from_ past) w'):qew p line rows from_ past w K:=by
 refine q6i _ _ _ _ _ ?_;unfold q0a;refine nwb fun w1 hb hB1 hs1=>?_;have hK:=hK w1 hB1;unfold qe4 at hK;refine qbo hK fun hK=>qbo hK fun hK=>?_;refine lI (x:=p.Line) (hb.cells 3 _ rfl) (lI (x:=p.Rows) (hb.cells 5 _ rfl) (qbo hK fun hK=>?_));refine lI (x:=p.Line) (hb.cells 3 _ rfl) (qbo hK fun hK=>?_);refine lI (x:=p.Col) (hb.cells 4 _ rfl) (qbo hK fun hK=>?_);exact lI (x:=p.Col) (hb.cells 4 _ rfl) (lI (x:=p.Cols) (hb.cells 6 _ rfl) hK)
theorem q8q {c:Nat} (hc:c<256) {im pl x y z:Int} {p:Pl} {v:PV} {K:Bool->World->Prop} (hK:∀w',Below w.heap.size w w'->K (qel ⟨c,im,pl,x,y,z⟩ p v) w'):qvl ⟨c,im,pl,x,y,z⟩ p v w K:=by
 refine q6l _ _ _ ?_;unfold q00;refine nwb fun w1 ha1 hB1 hs1=>nwb fun w2 hp2 hB2 hs2=>nwb fun w3 hv hB3 hs3=>?_;have ha:=(ha1.ext hB2).ext hB3;have hp:=hp2.ext hB3;have B3:=qch hB1 hB2 hB3;rw [q9v] at hK;refine lI (x:=(c:Int)) (ha.cells 0 _ rfl) (q8m hc ?_);generalize hwh:lowP (c:Int)=wh;have hK:∀w',Below w.heap.size w w'->K (qod wh ⟨c,im,pl,x,y,z⟩ p v) w':=fun w' h=>by rw [<-hwh];exact hK w' h
 refine jpO fun J1 hJ1=>jpO fun J2 hJ2=>?_;have k1:¬(wh=105\/wh=110)->¬wh=114->J1 (()) w3:=by
  intro n1 n2;refine hJ1 _ _ ?_;unfold qod at hK;rw [if_neg n1,if_neg n2] at hK;refine qcu (x:=p.Alt) (hp.cells 2 _ rfl) (qcu (x:=v.Alt) (hv.cells 0 _ rfl) ?_);by_cases hal:p.Alt=v.Alt
  ·rw [if_neg (fun h=>h hal)] at hK;refine cF (by rw [hal];simp) ?_;have ldp:∀{X:qag->Prop},X p->ldS qag.rep ⟨w1.heap.size,0,none⟩ w3 X:=fun h=>qal (r:=qag.rep) (x:=p) hp.cells h;have lv:∀(j:Nat) {q:Int} {X:Int->Prop},(qay.rep.cells v)[j]?=some (.int .i64 q)->X q->ldI .i64 ((⟨w2.heap.size,0,none⟩:Addr).add j) w3 X:=fun j q X h hx=>lI (x:=q) (hv.cells j _ h) hx;have la:∀(j:Nat) {q:Int} {X:Int->Prop},(qbi.rep.cells ⟨c,im,pl,x,y,z⟩)[j]?=some (.int .i64 q)->X q->ldI .i64 ((⟨w.heap.size,0,none⟩:Addr).add j) w3 X:=fun j q X h hx=>lI (x:=q) (ha.cells j _ h) hx;have mt:∀{l r f q:Int},(∀w',Below w.heap.size w w'->K (qe4 p l r f q) w')->qew p l r f q w3 fun t w'=>K t w':=fun h=>qy8 fun w4 hB4=>h _ (qak B3 hB4);refine cO (fun e=>?_) fun e=>?_
   ·rw [if_pos (eq_of_beq e)] at hK;exact ldp (lv 1 rfl (lv 2 rfl (lv 3 rfl (mt hK))))
   rw [if_neg (beq_eq_false_iff_ne.1 e)] at hK;refine cO (fun e=>?_) fun e=>?_
   ·rw [if_pos (eq_of_beq e)] at hK;exact ldp (lv 1 rfl (lv 4 rfl (lv 5 rfl (lv 5 rfl (mt hK)))))
   rw [if_neg (beq_eq_false_iff_ne.1 e)] at hK;refine cO (fun e=>?_) fun e=>?_
   ·rw [if_pos (eq_of_beq e)] at hK;exact ldp (lv 1 rfl (la 4 rfl (la 3 rfl (la 3 rfl (mt hK)))))
   rw [if_neg (beq_eq_false_iff_ne.1 e)] at hK;refine cO (fun e=>?_) fun e=>?_
   ·rw [if_pos (eq_of_beq e)] at hK;refine ldp (lv 1 rfl (la 4 rfl (la 3 rfl (la 3 rfl (qy8 fun w4 hB4=>?_)))));refine qbo (hK _ (qak B3 hB4)) fun hk=>?_;exact lI (x:=p.Z) ((hp.ext hB4).cells 13 _ rfl) (lI (x:=z) ((ha.ext hB4).cells 5 _ rfl) hk)
   rw [if_neg (beq_eq_false_iff_ne.1 e)] at hK;refine cO (fun e=>?_) fun e=>?_
   ·rw [if_pos (eq_of_beq e)] at hK;exact ldp (lv 1 rfl (lv 2 rfl (la 3 rfl (la 3 rfl (mt hK)))))
   rw [if_neg (beq_eq_false_iff_ne.1 e)] at hK;refine cO (fun e=>?_) fun e=>?_
   ·rw [if_pos (eq_of_beq e)] at hK;exact ldp (lv 1 rfl (la 4 rfl (mt hK)))
   rw [if_neg (beq_eq_false_iff_ne.1 e)] at hK;refine cO (fun e=>?_) fun e=>?_
   ·rw [if_pos (eq_of_beq e)] at hK;exact lI (x:=p.Z) (hp.cells 13 _ rfl) (la 5 rfl (hK _ B3))
   ·rw [if_neg (beq_eq_false_iff_ne.1 e)] at hK;exact hK _ B3
  ·rw [if_pos hal] at hK;exact cT (by simpa using hal) (hK _ B3)
 have k2:∀b:Bool,(b=true↔wh=105\/wh=110)->J2 (b,()) w3:=by
  intro b hb;refine hJ2 _ _ ?_;cases b
  ·have n1:¬(wh=105\/wh=110):=fun h=>by have:=hb.2 h;cases this
   refine cF rfl (cO (fun e=>?_) fun e=>k1 n1 (beq_eq_false_iff_ne.1 e));unfold qod at hK;rw [if_neg n1,if_pos (eq_of_beq e)] at hK;refine lI (x:=p.Image) (hp.cells 0 _ rfl) (lI (x:=x) (ha.cells 3 _ rfl) (qbo (hK _ B3) fun hk=>?_));exact lI (x:=p.Image) (hp.cells 0 _ rfl) (lI (x:=y) (ha.cells 4 _ rfl) hk)
  ·have n1:=hb.1 rfl;unfold qod at hK;rw [if_pos n1] at hK;refine cT rfl (lI (x:=p.Image) (hp.cells 0 _ rfl) (lI (x:=im) (ha.cells 1 _ rfl) (qbo (hK _ B3) fun hk=>?_)));refine lI (x:=pl) (ha.cells 2 _ rfl) (cO (fun e=>?_) fun e=>?_)
   ·have hk:K (((pl==0) || (p.Id==pl))) w3:=hk;rw [e,Bool.true_or] at hk;exact hk
   ·have hk:K (((pl==0) || (p.Id==pl))) w3:=hk;rw [e,Bool.false_or] at hk;exact lI (x:=p.Id) (hp.cells 1 _ rfl) (lI (x:=pl) (ha.cells 2 _ rfl) hk)
 refine cO (fun e=>?_) fun e=>?_
 ·rw [e];exact k2 true ⟨fun _=>.inl (eq_of_beq e),fun _=>rfl⟩
 ·refine k2 _ ⟨fun h=>.inr (eq_of_beq h),fun h=>?_⟩;rcases h with h | h
  ·exact absurd h (beq_eq_false_iff_ne.1 e)
  ·exact beq_iff_eq.2 h
theorem zd6 {p:Pl} {K:Pl->World->Prop} (hK:∀w',Below w.heap.size w w'->K p w'):q38 p w K:=by
 refine zbg _ ?_;unfold q7l;refine nwb fun w1 hp hB1 hs1=>nwb fun w2 ht hB2 hs2=>?_;have hp:=hp.ext hB2;have li:∀(j:Nat) {q:Int} {X:Int->Prop},(qag.rep.cells p)[j]?=some (.int .i64 q)->X q->ldI .i64 ((⟨w.heap.size,0,none⟩:Addr).add j) w2 X:=fun j q X h hx=>lI (x:=q) (hp.cells j _ h) hx;refine li 0 rfl (li 1 rfl (qcu (x:=p.Alt) (hp.cells 2 _ rfl) (li 3 rfl (li 4 rfl (li 5 rfl (li 6 rfl (li 7 rfl (li 8 rfl (li 9 rfl (li 10 rfl (li 11 rfl (li 12 rfl (li 13 rfl ?_)))))))))))));exact qbk (r:=qag.rep) (x:=p) ht rfl rfl fun w3 hc3 hs3=>hK w3 (qak hB1 (b1o hB2 hc3 (le_refl _)))
theorem q9p {v:PV} {K:PV->World->Prop} (hK:∀w',Below w.heap.size w w'->K v w'):qx8 v w K:=by
 refine q80 _ ?_;unfold q2u;refine nwb fun w1 hp hB1 hs1=>nwb fun w2 ht hB2 hs2=>?_;have hp:=hp.ext hB2;have li:∀(j:Nat) {q:Int} {X:Int->Prop},(qay.rep.cells v)[j]?=some (.int .i64 q)->X q->ldI .i64 ((⟨w.heap.size,0,none⟩:Addr).add j) w2 X:=fun j q X h hx=>lI (x:=q) (hp.cells j _ h) hx;refine qcu (x:=v.Alt) (hp.cells 0 _ rfl) (li 1 rfl (li 2 rfl (li 3 rfl (li 4 rfl (li 5 rfl ?_)))));exact qbk (r:=qay.rep) (x:=v) ht rfl rfl fun w3 hc3 hs3=>hK w3 (qak hB1 (b1o hB2 hc3 (le_refl _)))
theorem q91 {n:Nat} (hn:n<=1000) {K:ByteArray->World->Prop} (hK:∀w',Below w.heap.size w w'->K (strB (dgt n)) w'):qbd (n:Int) w K:=by
 refine q4d _ ?_;unfold qxo;have dig:∀m:Nat,IntKind.u8.wrap (i64.wrap ((48:Int)+((m:Int).tmod 10)))=((UInt8.ofNat (48+m%10)).toNat:Int):=fun m=>by
  have e:((m:Int)).tmod 10=((m%10:Nat):Int):=by rw [Int.tmod_eq_emod_of_nonneg (by omega)];omega
  rw [e,i64_in (by omega),UInt8.toNat_ofNat'];have:(48:Int)+((m%10:Nat):Int)=((48+m%10:Nat):Int):=by omega
  rw [this,qaw .u8 (by show 48+m%10<2^8;omega)];have:(48+m%10)%2^8=48+m%10:=Nat.mod_eq_of_lt (by omega);rw [this]
 have one:∀{wx:World} {b:UInt8} {X:ByteArray->World->Prop},(∀w',Below wx.heap.size wx w'->X (strB [b]) w')->nw qau [.int .u8 (b.toNat:Int)] wx fun t w1=>runK1 PG (convert qaf qa3 (.slice (some t) 1 1)) Kind.string w1 X:=fun {wx b X} h =>
  nwb fun w1 hb hB1 hs1=>qdn (s:=⟨some ⟨wx.heap.size,0,none⟩,1,1⟩) (qqe (E:=qae) (y:=b) hb rfl) (h _ hB1)
 refine ⟨by decide,?_⟩;rw [dig n];refine one fun w1 hB1=>?_;refine lpR (fun (st:Int×ByteArray×Unit) w2=>∃(m:Nat) (l:List UInt8),st.1=(m:Int)/\m<=1000/\st.2.1=strB l/\l.length+m<=1010/\(if m<10 then ([]:List UInt8) else dgt (m/10))++l=dgt n/\Below w.heap.size w w2) (fun st=>st.1.toNat)
  ⟨n,[UInt8.ofNat (48+n%10)],rfl,hn,rfl,by simp;omega,q3x n,hB1⟩ ?_
 rintro ⟨i,s,u⟩ w2 ⟨m,l,hi,hm,hs,hl,hd,hB⟩ I hI;dsimp only at hi hs ⊢;subst hi hs;refine cO (fun e=>?_) fun e=>?_
 ·have e:=oTq e;have ed:((m:Int)).tdiv 10=((m/10:Nat):Int):=by rw [Int.tdiv_eq_ediv_of_nonneg (by omega)];omega
  rw [ed,i64_in (x:=((m/10:Nat):Int)) (by omega),dig (m/10)];refine ⟨by decide,by decide,one fun w3 hB3=>⟨?_,?_⟩⟩
  ·rw [qbl,qbl];simp;omega
  ·rw [qc5];refine hI _ _ ⟨m/10,_,rfl,by omega,rfl,by simp;omega,?_,qak hB hB3⟩ (by dsimp only;omega);rw [if_neg (by omega)] at hd;rw [<-hd,<-List.append_assoc];congr 1;exact q3x (m/10)
 ·have e:=oFq e;rw [if_pos (by omega),List.nil_append] at hd;rw [hd];exact hK _ hB
end
section
variable {w w':World} {base g n:Nat} {F F':KF} {E E':KE}
end
section
variable {w w':World} {base g n:Nat} {F F':KF} {E E':KE} {l:Slc} {xs:List ActT}
theorem zce (hT:Tab w) (hF:ActF w l xs) {what id x y:Int} (hwh:0<=what/\what<=255) (v:qac) {K:Bool->World->Prop} (hK:∀w',Below w.heap.size w w'->K true w'):qqs l what id x y v w K:=by
 have h4:4<=w.heap.size:=zih (g:=3) (by kernel_rfl) hT;refine qwq _ _ _ _ _ _ ?_;unfold qoq;refine nwb fun w1 hv1 hB1 hs1=>?_;refine zav (hT.ext hB1) (by omega) fun w2 hB2=>cF rfl (jpO fun J1 hJ1=>?_);have B2:=qak hB1 hB2;refine zdo (hF.ext B2) fun b w3 hB3 hfew=>?_;have B3:=qak B2 hB3;refine cO (fun e=>hK _ B3) fun e=>?_;obtain ⟨f1,f2⟩:=hfew (by revert e;cases b<;>simp);have hv3:=(hv1.ext hB2).ext hB3;refine qal (r:=qac.rep) (x:=v) hv3.cells (q7j v fun b2 w4 hB4=>?_);have B4:=qak B3 hB4;have hv4:=hv3.ext hB4;refine cO (fun _=>hK _ B4) fun _=>?_;refine cO (fun _=>hK _ B4) fun i0=>cO (fun _=>hK _ B4) fun i1=>cO (fun _=>hK _ B4) fun x0=>cO (fun _=>hK _ B4) fun x1=>cO (fun _=>hK _ B4) fun y0=>cO (fun _=>hK _ B4) fun y1=>hJ1 _ _ ?_;obtain ⟨di,rfl⟩:=Int.eq_ofNat_of_zero_le (show 0<=id by have:=oFq i0;omega);obtain ⟨dx,rfl⟩:=Int.eq_ofNat_of_zero_le (show 0<=x by have:=oFq x0;omega);obtain ⟨dy,rfl⟩:=Int.eq_ofNat_of_zero_le (show 0<=y by have:=oFq y0;omega);have i1:di<=1000:=by have:=oFq i1;omega
 have x1:dx<=1000:=by have:=oFq x1;omega
 have y1:dy<=1000:=by have:=oFq y1;omega
 clear i0 x0 y0;have eL:(⟨#[97,105,99,112,120,121,114,65,73,67,80,88,89,82]⟩:ByteArray)=strB qfe:=rfl;rw [eL,qbl];have hL:qfe.length=14:=rfl;have hm:(i64.wrap what).tmod ((qfe.length:Nat):Int)=((what.toNat%14:Nat):Int):=by
  rw [hL,i64_in (by omega),Int.tmod_eq_emod_of_nonneg hwh.1];omega
 obtain ⟨c,hc⟩:∃c,qfe[what.toNat%14]?=some c:=⟨_,List.getElem?_eq_getElem (by rw [hL];omega)⟩;have hcm:c∈qfe:=List.mem_of_getElem? hc;have hc256:=c.toNat_lt;refine ⟨by rw [hL];decide,qq1 hm hc ?_⟩;refine q7b (fun h=>by cases h) fun _ g F w5 hg h5 hB5=>?_;have z4:=B4.size;have z5:=hB5.size;have hTab5:Tab w5:=hT.ext (qak B4 hB5);have hv5:=hv4.ext hB5;have lv4:=hv4.lt;have B5:=qak B4 hB5;generalize hbase:w4.heap.size=base at *;have h4b:4<=base:=by omega
 refine jpO fun J2 hJ2=>cF rfl (cF rfl (hJ2 _ _ ?_));have hl:l.n=xs.length:=hF.rd.n;have hi0:Inv 0 (newE 8192):=⟨fun p hp=>(by cases hp),rfl,LdOk.none rfl⟩;refine lpR (fun (st:Int×Unit) w6=>∃(k:Nat) (F4:KF) (E4:KE),st.1=(k:Int)/\k<=xs.length/\EngT base g w5 F F4 E4 (2*k) w6/\Inv (3*totA (xs.take k)) E4/\E4.quota=8192) (fun st=>xs.length-st.1.toNat)
  ⟨0,F,newE 8192,rfl,zero_le _,EngT.refl h5,hi0,rfl⟩ ?_
 rintro ⟨i,u⟩ w6 ⟨k,F4,E4,hi,hk,hE4,hv4i,hq4⟩ I hI;dsimp only at hi ⊢;subst hi;have B6:Below w.heap.size w w6:=B5.trans ((EngT.belowB h5 hE4).mono (by omega));have z6:=hE4.chg.size;have hTab6:Tab w6:=hTab5.stepK h5 h4b hE4;refine cO (fun e=>?_) fun e=>?_
 ·have e:=oTq e;have hlt:k<xs.length:=by omega
  obtain ⟨a,hx⟩:∃a,xs[k]?=some a:=⟨_,List.getElem?_eq_getElem hlt⟩;have hxm:=List.mem_of_getElem? hx;have ht:=q8k hx;have htl:=zde xs (k+1);have hln:lenA a=a.Command.n+a.M.P.n:=rfl;have ix:∀{wx:World} {X:Addr->Prop},Below w6.heap.size w6 wx->(qao wx (l.at_ 19 k) (actE.cells a)->X (l.at_ 19 k))->ixK l (k:Int) 19 X:=fun hB h=>zhg (hF.ext (qak B6 hB)) hx h;have cV:∀{wx:World},qao wx (l.at_ 19 k) (actE.cells a)->qao wx ((l.at_ 19 k).add 2) (qac.rep.cells a.V):=fun h=>h.sub 2 fun j v hj=>by
   have hjl:j<8:=(List.getElem?_eq_some_iff.1 hj).1
   match j,hjl with
   | 0,_=>exact hj
   | 1,_=>exact hj
   | 2,_=>exact hj
   | 3,_=>exact hj
   | 4,_=>exact hj
   | 5,_=>exact hj
   | 6,_=>exact hj
   | 7,_=>exact hj
  rw [w64i (x:=(k:Int)+1) (by omega)];have skip:∀w7,Below w6.heap.size w6 w7->I ((k:Int)+1,()) w7:=fun w7 hB7=>hI _ _ ⟨k+1,F4,E4,by simp,by omega,(hE4.ext hB7).up (by omega),hv4i.up (by omega),hq4⟩ (by dsimp only;omega);refine jpO fun J4 hJ4=>?_;refine ix (Below.refl _ _) fun hc=>lI (x:=a.Op) (hc 0 _ rfl) (cO (fun _=>?_) fun _=>hJ4 _ _ (cF rfl (skip w6 (Below.refl _ _))));refine ix (Below.refl _ _) fun hc=>qal (r:=qac.rep) (x:=a.V) (cV hc) (q7j a.V fun b w7 hB7=>hJ4 _ _ (cO (fun _=>?_) fun _=>skip w7 hB7));have hBd:=qak hB7 (qb3 w7);refine ix hBd fun hc=>lSl (x:=a.Command) (hc 1 _ rfl) (ix hBd fun hc=>qal (r:=qac.rep) (x:=a.V) (cV hc) ?_);have hE7:=hE4.ext hBd;obtain ⟨bs,hbs⟩:=(hF.q a hxm).c;have hbl:a.Command.n=bs.length:=hbs.n;refine q13 hE7.m (by omega) (hTab6.ext hBd) h4b (by omega) (by omega) (hbs.ext (qak B6 hBd)) (fun C s hld=>?_) a.V fun P r F8 w8 hr8 hE8 hrb=>?_
  ·obtain ⟨p1,p2,p3,p4⟩:=hv4i.ld C s hld;exact ⟨p1,by omega,p2⟩
  ·obtain ⟨j1,j2⟩:=zlx hE7.m.ok (by omega) bs P a.V hv4i (by omega);exact hI _ _ ⟨k+1,F8,_,by simp,by omega,hE7.trans hE8,j1.up (by omega),j2.trans hq4⟩ (by dsimp only;omega)
 have hn:2*k<=120:=by omega
 have hpot:3*totA (xs.take k)<=49152:=by have:=zde xs k;omega
 clear hI;refine ql5 hE4.m (by omega) fun tg q' w7 ht7 hB7=>qx5 ht7 (by have:=hE4.m.tl;omega) fun r1 w8 hr8 hB8=>?_;have B68:=qak hB7 hB8;refine qjj (hE4.m.ext B68) fun sg sr w9 hsg hsr hst9 hB9=>zah hst9 hE4.m.ok (by omega) fun r2 w10 hr10 hB10=>?_;have B610:=qak B68 (qak hB9 hB10);have hwas:=(hr8.ext hB9).ext hB10;have hE10:=EngT.of_ext hE4.m B610;have hTab10:=hTab6.ext B610;have B10:=qak B6 B610;have hv10:=(hv5.below (EngT.belowB h5 hE4) (by omega)).ext B610;have z7:=hB7.size;have z8:=hB8.size;have z9:=hB9.size;have z10:=hB10.size;have sE:∀j,engS g F4 j->j<w6.heap.size:=fun j hj=>(hE4.m.below j hj).2;have tys:tyFar qai:=by decide
 have hdel:∀P,doK E4 (delB c di dx dy) P v=(delE E4 (keyX c.toNat di dx dy) v,kr0):=fun P=>zl4 hcm i1 x1 y1 E4 P v;obtain ⟨dT,dS⟩:=zlf hcm E4 di dx dy v;generalize hE':delE E4 (keyX c.toNat di dx dy) v=ED at *;refine jpO fun J5 hJ5=>?_
 suffices j5:∀(b:Nat) (r:qad) (F':KF) (m:Nat) (w':World),m<=200->EngT base g w10 F4 F' ED m w'->Blk w' b qai (qad.rep.cells r)->r.Reply.n=0->Rd qa7 w' r1 E4.T->Rd E_int w' r2 (E4.S.L.map (·.1))->Blk w' w.heap.size qbe (qac.rep.cells v)->Below w.heap.size w w'->J5 (⟨b,0,none⟩,()) w' by
  have G0:=qb3 w10;have hvx:∀{wx:World},Below w10.heap.size w10 wx->qao wx ⟨w.heap.size,0,none⟩ (qac.rep.cells v):=fun h=>(hv10.ext h).cells
  let RB:=fun (wx:World) (a:Addr)=>∃b,a=⟨b,0,none⟩/\Blk wx b qai [(.slice none 0 0),(.int .i64 0),(.int .i64 0),(.bool false)]/\w10.heap.size<=b
  have RBx:∀{wx wy:World} {a:Addr},RB wx a->Below wx.heap.size wx wy->RB wy a:=fun ⟨b,e,h,hb⟩ hB=>⟨b,e,h.ext hB,hb⟩;have E0:(⟨#[71,97,61,100,44,100,61]⟩:ByteArray)=strB [71,97,61,100,44,100,61]:=rfl;have E1:(⟨#[44,105,61]⟩:ByteArray)=strB [44,105,61]:=rfl;have E2:(⟨#[44,120,61]⟩:ByteArray)=strB [44,120,61]:=rfl;have E3:(⟨#[44,121,61]⟩:ByteArray)=strB [44,121,61]:=rfl;simp only [E0,E1,E2,E3];have ldi:=qst i1;have ldx:=qst x1;have ldy:=qst y1;have sz:∀{a b:List UInt8},a.length<=100->b.length<=100->(((strB a).size+(strB b).size:Nat):Int)<=9223372036854775807:=fun ha hb=>by rw [qbl,qbl];omega
  have lA1:([71,97,61,100,44,100,61]++[c]++[44,105,61]).length=11:=rfl;have lA2:([71,97,61,100,44,100,61]++[c]++[44,105,61]++dgt di++[44,120,61]).length<=30:=by rw [length_append,length_append,lA1];simp only [List.length_cons,length_nil];omega
  have lA2':([71,97,61,100,44,100,61]++[c]++[44,105,61]++dgt di).length<=30:=by rw [length_append,lA1];omega
  have lA3:([71,97,61,100,44,100,61]++[c]++[44,105,61]++dgt di++[44,120,61]++dgt dx++[44,121,61]).length<=50:=by rw [length_append,length_append];simp only [List.length_cons,length_nil] at lA2 ⊢;omega
  have lA3':([71,97,61,100,44,100,61]++[c]++[44,105,61]++dgt di++[44,120,61]++dgt dx).length<=50:=by rw [length_append];omega
  have lD:(delB c di dx dy).length<=60:=by
   have:(delB c di dx dy).length=([71,97,61,100,44,100,61]++[c]++[44,105,61]++dgt di++[44,120,61]++dgt dx++[44,121,61]).length+(dgt dy).length:=length_append;omega
  have nwr:∀{wx:World} {X:Addr->World->Prop},Below w10.heap.size w10 wx->(∀a wy,RB wy a->Below wx.heap.size wx wy->Below w10.heap.size w10 wy->X a wy)->nw qai [(.slice none 0 0),(.int .i64 0),(.int .i64 0),(.bool false)] wx X:=fun hG hX=>nwb fun wy hb hB _=>hX _ wy ⟨_,rfl,hb,hG.size⟩ hB (qak hG hB);have nwc:∀{wx:World} {X:Addr->World->Prop},Below w10.heap.size w10 wx->(∀a wy,Rd qae wy ⟨some a,1,1⟩ [c]->Below wx.heap.size wx wy->Below w10.heap.size w10 wy->X a wy)->nw qau [(.int .u8 (c.toNat:Int))] wx X:=fun hG hX=>nwb fun wy hb hB _=>hX _ wy (qqe (E:=qae) (y:=c) hb rfl) hB (qak hG hB);have dec:∀{wx:World} {u:Nat} {X:ByteArray->World->Prop},u<=1000->Below w10.heap.size w10 wx->(∀wy,Below wx.heap.size wx wy->Below w10.heap.size w10 wy->X (strB (dgt u)) wy)->qbd (u:Int) wx X:=fun hu hG hX=>q91 hu fun wy hB=>hX wy hB (qak hG hB);refine qal (r:=qac.rep) (x:=v) (hvx G0) (jpO fun J9 hJ9=>?_);have j9:∀(b:Nat) (r:qad) (F':KF) (m:Nat) (w':World),m<=200->EngT base g w10 F4 F' ED m w'->¬F'.LS b->w10.heap.size<=b->Blk w' b qai [(.slice none 0 0),(.int .i64 0),(.int .i64 0),(.bool false)]->r.Reply.n=0->J9 (r,⟨b,0,none⟩,()) w':=by
   intro b r F' m w' hm hD hLS hbw hb hrn;have hWas:=hwas.rd.chg hD.chg fun a ha hs=>by
    have:=(hwas.lt _ (slk.2 ⟨a,ha,rfl⟩)).1;have:=sE _ hs;omega
   have hIds:=hr10.rd.chg hD.chg fun a ha hs=>by
    have:=(hr10.lt _ (slk.2 ⟨a,ha,rfl⟩)).1;have:=sE _ hs;omega
   have hV:=hv10.chg hD.chg fun hs=>by have:=(hE4.m.below _ hs).1;omega
   have BD:Below w.heap.size w w':=B10.trans ((EngT.belowB hE10.m hD).mono (by omega));refine hJ9 _ _ (qby hb rfl fun w'' hb' hc' hs'=>?_);refine j5 b r F' m w'' hm (hD.other hb tys hLS hbw hc') hb' hrn (hWas.chg hc' fun a ha e=>?_) (hIds.chg hc' fun a ha e=>?_) (hV.chg hc' (by omega)) (BD.trans (hc'.below (by have:=BD.size;omega) fun i hi e=>by omega))
   ·have:=(hwas.lt _ (slk.2 ⟨a,ha,rfl⟩)).2;omega
   ·have:=(hr10.lt _ (slk.2 ⟨a,ha,rfl⟩)).2;omega
  have dox:∀{wx:World} {s:Slc} {X:qad->World->Prop},Below w10.heap.size w10 wx->Rd qae wx s (delB c di dx dy)->(∀r F' w',wx.heap.size<=w'.heap.size->Chg (engS g F4) wx w'->(∀j,F'.LS j->F4.LS j\/wx.heap.size<=j)->EngT base g w10 F4 F' ED (2*k+2) w'->r.Reply.n=0->X r w')->qcg (some ⟨g,0,none⟩) s v wx X:=by
   intro wx s X hG hs hX;have hEx:=EngT.of_ext hE10.m hG;refine q13 hEx.m (by omega) (hTab10.ext hG) h4b (by omega) (by omega) hs (fun C s hl=>by obtain ⟨a,b,c,d⟩:=hv4i.ld C s hl;exact ⟨a,by omega,b⟩) v fun P r F' w' hr hE hrb=>?_;rw [hdel] at hr hE;exact hX r F' w' hE.chg.size hE.chg hE.ls (hEx.trans hE) hr.1.n
  have j10:∀{wx:World} {s:Slc} {a:Addr},Below w10.heap.size w10 wx->Rd qae wx s (delB c di dx dy)->RB wx a->qcg (some ⟨g,0,none⟩) s v wx fun r w'=>J9 (r,a,()) w':=by
   rintro wx s a hG hs ⟨b,rfl,hb,hbw⟩;have hEx:=EngT.of_ext hE10.m hG;have hbl:=hb.lt;have nb:¬F4.LS b:=fun h=>by have:=sE _ (.inr (.inr (.inr h)));omega
   refine dox hG hs fun r F' w' hsz hc hls hE hrn=>j9 b r F' _ w' (by omega) hE (fun h=>?_) hbw (hb.chg hc (hEx.m.not_in hb tys nb)) hrn;rcases hls b h with h1 | h1
   ·exact nb h1
   ·omega
  refine jpO fun J10 hJ10=>?_;have j10:∀{wx:World} {s:Slc} {a:Addr},Below w10.heap.size w10 wx->Rd qae wx s (delB c di dx dy)->RB wx a->J10 (s,a,()) wx:=fun hG hs ha=>hJ10 _ _ (j10 hG hs ha);refine jpO fun J11 hJ11=>?_;have j11:∀{wx:World} {a:Addr},Below w10.heap.size w10 wx->RB wx a->J11 (strB (delB c di dx dy),a,()) wx:=fun hG ha=>hJ11 _ _ (qtb (by omega) fun q w' hq _ hB _=>⟨hvx (qak hG hB),j10 (qak hG hB) hq (RBx ha hB)⟩);refine jpO fun J12 hJ12=>?_;have j12:∀{wx:World},Below w10.heap.size w10 wx->J12 (strB (delB c di dx dy),()) wx:=by
   intro wx hG;refine hJ12 _ _ ⟨qtb (by omega) fun q w' hq _ hB _=>⟨hvx (qak hG hB),?_,nwr (qak hG hB) fun a wy ha hBy hGy=>⟨hvx hGy,j10 hGy (hq.ext hBy) ha⟩⟩,nwr hG fun a wy ha hBy hGy=>⟨hvx hGy,j11 hGy ha⟩⟩;have hG':=qak hG hB;refine dox hG' hq fun r F' w' hsz hc hls hE hrn=>nwb fun w'' hb hB' _=>⟨?_,j9 _ r F' _ w'' (by omega) (hE.ext hB') (fun h=>by have:=(hE.m.below _ (.inr (.inr (.inr h)))).2;omega) (by have:=hG'.size;omega) hb hrn⟩;exact ((hv10.chg hE.chg fun hs=>by have:=(hE4.m.below _ hs).1;omega).ext hB').cells
  refine jpO fun J13 hJ13=>?_;have j13:∀{wx:World} {a:Addr},Below w10.heap.size w10 wx->RB wx a->J13 (strB ([71,97,61,100,44,100,61]++[c]++[44,105,61]++dgt di++[44,120,61]++dgt dx++[44,121,61]),a,()) wx:=fun hG ha=>hJ13 _ _ (dec y1 hG fun wy hB hGy=>⟨hvx hGy,sz (by omega) (by omega),by rw [qc5];exact j11 hGy (RBx ha hB)⟩);refine jpO fun J14 hJ14=>?_;have j14:∀{wx:World},Below w10.heap.size w10 wx->J14 (strB ([71,97,61,100,44,100,61]++[c]++[44,105,61]++dgt di++[44,120,61]++dgt dx++[44,121,61]),()) wx:=fun hG=>hJ14 _ _ ⟨dec y1 hG fun wy hB hGy=>⟨hvx hGy,sz (by omega) (by omega),by rw [qc5];exact j12 hGy⟩,nwr hG fun a wy ha hB hGy=>⟨hvx hGy,j13 hGy ha⟩⟩;have p1:(((strB [71,97,61,100,44,100,61]).size+(strB [c]).size:Nat):Int)<=9223372036854775807:=sz (by simp) (by simp);have p2:(((strB ([71,97,61,100,44,100,61]++[c])).size+(strB [44,105,61]).size:Nat):Int)<=9223372036854775807:=sz (by simp) (by simp);have p3:(((strB ([71,97,61,100,44,100,61]++[c]++[44,105,61])).size+(strB (dgt di)).size:Nat):Int)<=9223372036854775807:=sz (by omega) (by omega);have p4:(((strB ([71,97,61,100,44,100,61]++[c]++[44,105,61]++dgt di)).size+(strB [44,120,61]).size:Nat):Int)<=9223372036854775807:=sz (by omega) (by simp);have p5:(((strB ([71,97,61,100,44,100,61]++[c]++[44,105,61]++dgt di++[44,120,61])).size+(strB (dgt dx)).size:Nat):Int)<=9223372036854775807:=sz (by omega) (by omega);have p6:(((strB ([71,97,61,100,44,100,61]++[c]++[44,105,61]++dgt di++[44,120,61]++dgt dx)).size+(strB [44,121,61]).size:Nat):Int)<=9223372036854775807:=sz (by omega) (by simp);have p7:(((strB ([71,97,61,100,44,100,61]++[c]++[44,105,61]++dgt di++[44,120,61]++dgt dx++[44,121,61])).size+(strB (dgt dy)).size:Nat):Int)<=9223372036854775807:=sz (by omega) (by omega);refine jpO fun J15 hJ15=>?_;have j15:∀{wx:World} {a:Addr},Below w10.heap.size w10 wx->RB wx a->J15 (strB ([71,97,61,100,44,100,61]++[c]++[44,105,61]++dgt di++[44,120,61]),a,()) wx:=fun hG ha=>hJ15 _ _ (dec x1 hG fun wy hB hGy=>by simp only [qc5];exact ⟨hvx hGy,p5,p6,j13 hGy (RBx ha hB)⟩);refine jpO fun J16 hJ16=>?_;have j16:∀{wx:World},Below w10.heap.size w10 wx->J16 (strB ([71,97,61,100,44,100,61]++[c]++[44,105,61]++dgt di++[44,120,61]),()) wx:=fun hG=>hJ16 _ _ ⟨dec x1 hG fun wy hB hGy=>by simp only [qc5];exact ⟨hvx hGy,p5,p6,j14 hGy⟩,nwr hG fun a wy ha hB hGy=>⟨hvx hGy,j15 hGy ha⟩⟩;refine jpO fun J17 hJ17=>?_;have j17:∀{wx:World} {s:Slc} {a:Addr},Below w10.heap.size w10 wx->Rd qae wx s [c]->RB wx a->J17 (s,strB (dgt di),strB (dgt dx),strB (dgt dy),a,()) wx:=fun hG hs ha=>hJ17 _ _ (qdn hs (by simp only [qc5];exact ⟨hvx hG,p1,p2,p3,p4,p5,p6,p7,j11 hG ha⟩));refine jpO fun J18 hJ18=>?_;have j18:∀{wx:World} {a:Addr},Below w10.heap.size w10 wx->RB wx a->J18 (strB ([71,97,61,100,44,100,61]++[c]++[44,105,61]),a,()) wx:=fun hG ha=>hJ18 _ _ (dec i1 hG fun wy hB hGy=>by simp only [qc5];exact ⟨hvx hGy,p3,p4,j15 hGy (RBx ha hB)⟩);refine jpO fun J19 hJ19=>?_;have j19:∀{wx:World} {a:Addr},Below w10.heap.size w10 wx->RB wx a->J19 (strB (dgt di),strB (dgt dx),strB (dgt dy),a,()) wx:=fun hG ha=>hJ19 _ _ (nwc hG fun b wy hb hB hGy=>⟨hvx hGy,j17 hGy hb (RBx ha hB)⟩);refine jpO fun J20 hJ20=>?_;have j20:∀{wx:World} {s:Slc} {a:Addr},Below w10.heap.size w10 wx->Rd qae wx s [c]->RB wx a->J20 (s,strB (dgt di),strB (dgt dx),a,()) wx:=fun hG hs ha=>hJ20 _ _ ⟨qdn hs (by simp only [qc5];exact ⟨hvx hG,p1,p2,p3,p4,p5,p6,j13 hG ha⟩),dec y1 hG fun wy hB hGy=>⟨hvx hGy,j17 hGy (hs.ext hB) (RBx ha hB)⟩⟩;refine jpO fun J21 hJ21=>?_;have j21:∀{wx:World} {s:Slc},Below w10.heap.size w10 wx->Rd qae wx s [c]->J21 (s,strB (dgt di),strB (dgt dx),strB (dgt dy),()) wx:=fun hG hs=>hJ21 _ _ ⟨qdn hs (by simp only [qc5];exact ⟨hvx hG,p1,p2,p3,p4,p5,p6,p7,j12 hG⟩),nwr hG fun a wy ha hB hGy=>⟨hvx hGy,j17 hGy (hs.ext hB) ha⟩⟩;refine jpO fun J22 hJ22=>?_;have j22:∀{wx:World} {a:Addr},Below w10.heap.size w10 wx->RB wx a->J22 (strB (dgt di),strB (dgt dx),a,()) wx:=fun hG ha=>hJ22 _ _ ⟨nwc hG fun b wy hb hB hGy=>⟨hvx hGy,j20 hGy hb (RBx ha hB)⟩,dec y1 hG fun wy hB hGy=>⟨hvx hGy,j19 hGy (RBx ha hB)⟩⟩;refine jpO fun J23 hJ23=>?_;have j23:∀{wx:World} {s:Slc} {a:Addr},Below w10.heap.size w10 wx->Rd qae wx s [c]->RB wx a->J23 (s,strB (dgt di),a,()) wx:=fun hG hs ha=>hJ23 _ _ ⟨qdn hs (by simp only [qc5];exact ⟨hvx hG,p1,p2,p3,p4,j15 hG ha⟩),dec x1 hG fun wy hB hGy=>⟨hvx hGy,j20 hGy (hs.ext hB) (RBx ha hB)⟩⟩;refine jpO fun J24 hJ24=>?_;have j24:∀{wx:World} {s:Slc},Below w10.heap.size w10 wx->Rd qae wx s [c]->J24 (s,strB (dgt di),strB (dgt dx),()) wx:=fun hG hs=>hJ24 _ _ ⟨qdn hs (by simp only [qc5];exact ⟨hvx hG,p1,p2,p3,p4,p5,p6,j14 hG⟩),dec y1 hG fun wy hB hGy=>⟨hvx hGy,j21 hGy (hs.ext hB)⟩,nwr hG fun a wy ha hB hGy=>⟨hvx hGy,j20 hGy (hs.ext hB) ha⟩⟩;refine jpO fun J25 hJ25=>?_;have j25:∀{wx:World} {a:Addr},Below w10.heap.size w10 wx->RB wx a->J25 (strB (dgt di),a,()) wx:=fun hG ha=>hJ25 _ _ ⟨nwc hG fun b wy hb hB hGy=>⟨hvx hGy,j23 hGy hb (RBx ha hB)⟩,dec x1 hG fun wy hB hGy=>⟨hvx hGy,j22 hGy (RBx ha hB)⟩⟩;refine jpO fun J26 hJ26=>?_;have j26:∀{wx:World} {s:Slc} {a:Addr},Below w10.heap.size w10 wx->Rd qae wx s [c]->RB wx a->J26 (s,a,()) wx:=fun hG hs ha=>hJ26 _ _ ⟨qdn hs (by simp only [qc5];exact ⟨hvx hG,p1,p2,j18 hG ha⟩),dec i1 hG fun wy hB hGy=>⟨hvx hGy,j23 hGy (hs.ext hB) (RBx ha hB)⟩⟩;refine jpO fun J27 hJ27=>?_;have j27:∀{wx:World} {s:Slc},Below w10.heap.size w10 wx->Rd qae wx s [c]->J27 (s,strB (dgt di),()) wx:=fun hG hs=>hJ27 _ _ ⟨qdn hs (by simp only [qc5];exact ⟨hvx hG,p1,p2,p3,p4,j16 hG⟩),dec x1 hG fun wy hB hGy=>⟨hvx hGy,j24 hGy (hs.ext hB)⟩,nwr hG fun a wy ha hB hGy=>⟨hvx hGy,j23 hGy (hs.ext hB) ha⟩⟩;refine ⟨nwc G0 fun b wy hb hB hGy=>⟨hvx hGy,qdn hb ?_,dec i1 hGy fun wz hBz hGz=>⟨hvx hGz,j27 hGz (hb.ext hBz)⟩,nwr hGy fun a wz ha hBz hGz=>⟨hvx hGz,j26 hGz (hb.ext hBz) ha⟩⟩,dec i1 G0 fun wy hB hGy=>⟨hvx hGy,nwc hGy fun b wz hb hBz hGz=>⟨hvx hGz,j27 hGz hb⟩,dec x1 hGy fun wz hBz hGz=>⟨hvx hGz,nwc hGz fun b wu hb hBu hGu=>⟨hvx hGu,j24 hGu hb⟩,dec y1 hGz fun wu hBu hGu=>⟨hvx hGu,nwc hGu fun b wv hb hBv hGv=>⟨hvx hGv,j21 hGv hb⟩,nwr hGu fun a wv ha hBv hGv=>⟨hvx hGv,j19 hGv ha⟩⟩,nwr hGz fun a wu ha hBu hGu=>⟨hvx hGu,j22 hGu ha⟩⟩,nwr hGy fun a wz ha hBz hGz=>⟨hvx hGz,j25 hGz ha⟩⟩,nwr G0 fun a wy ha hB hGy=>⟨hvx hGy,nwc hGy fun b wz hb hBz hGz=>⟨hvx hGz,j26 hGz hb (RBx ha hBz)⟩,dec i1 hGy fun wz hBz hGz=>⟨hvx hGz,j25 hGz (RBx ha hBz)⟩⟩⟩;simp only [qc5];exact ⟨hvx hGy,p1,p2,dec i1 hGy fun wz hBz hGz=>by simp only [qc5];exact ⟨hvx hGz,p3,p4,j16 hGz⟩,nwr hGy fun a wz ha hBz hGz=>⟨hvx hGz,j18 hGz ha⟩⟩
 intro b r F' m w11 hm hD hb hrn hwas' hids' hv11 B11;refine hJ5 _ _ ?_;have hokD:=hD.m.ok;have htlD:=hD.m.tl;refine ql5 hD.m (by omega) fun tg2 q2 w12 ht12 hB12=>qx5 ht12 (by omega) fun r3 w13 hr13 hB13=>?_;refine qdd (vs:=qbi.rep.cells ⟨c.toNat,di,0,dx,dy,0⟩) rfl fun w14 hask hB14 _=>?_;have B1114:=qch hB12 hB13 hB14;have hnow:=hr13.rd.ext hB14;have hwas14:=hwas'.ext B1114;have hids14:=hids'.ext B1114;have hv14:=hv11.ext B1114;have hb14:=hb.ext B1114;have hD14:=hD.ext B1114;have B14:=qak B11 B1114;have n1:r1.n=E4.T.length:=hwas'.n;have n3:r3.n=ED.T.length:=hnow.n;have htl4:=hE4.m.tl;generalize hst:(fun p:Pl=>!qel ⟨c.toNat,di,0,dx,dy,0⟩ p v.View)=stay at dT;have hstp:∀p,stay p=!qel ⟨c.toNat,di,0,dx,dy,0⟩ p v.View:=fun p=>by rw [<-hst]
 refine lpR (fun (st:Int×Int×Unit) wx=>∃m:Nat,st.2.1=(m:Int)/\m<=E4.T.length/\st.1=((((E4.T.take m).filter stay).length:Nat):Int)/\Below w14.heap.size w14 wx) (fun st=>E4.T.length-st.2.1.toNat)
  ⟨0,rfl,zero_le _,rfl,Below.refl _ _⟩ ?_
 rintro ⟨q,i,u⟩ wx ⟨m,hi,hm,hq,hBx⟩ I hI;dsimp only at hi hq ⊢;subst hi hq;have hfl:((E4.T.take m).filter stay).length<=200:=by
  have:=List.length_filter_le stay (E4.T.take m);rw [List.length_take] at this;omega
 refine cO (fun e=>?_) fun e=>?_
 ·have e:=oTq e;have hlt:m<E4.T.length:=by omega
  obtain ⟨p,hp⟩:∃p,E4.T[m]?=some p:=⟨_,List.getElem?_eq_getElem hlt⟩;have tk:E4.T.take (m+1)=E4.T.take m++[p]:=by rw [List.take_add_one,hp];rfl
  have wasIx:∀{wy:World} {X:Addr->Prop},Below w14.heap.size w14 wy->(∀a,qao wy a (qag.rep.cells p)->X a)->ixK r1 (m:Int) 14 X:=fun hB hX=>(hwas14.ext hB).ix (E:=qa7) (i:=(m:Int)) rfl (by omega) (by omega) fun hc=>by
   have e1:E4.T[(m:Int).toNat]'(by omega)=p:=(List.getElem?_eq_some_iff.1 (by simpa using hp)).2;rw [e1] at hc;exact hX _ hc
  have G0:=qak hBx (qb3 wx);refine qal (r:=qbi.rep) (x:=⟨c.toNat,di,0,dx,dy,0⟩) (hask.ext G0).cells (wasIx G0 fun a ha=>qal (r:=qag.rep) (x:=p) ha ?_);have vv:∀{wy:World},Below w14.heap.size w14 wy->qao wy ((⟨w.heap.size,0,none⟩:Addr).add 0) (qay.rep.cells v.View):=fun h=>(hv14.ext h).sub 0 _ rfl;refine qal (r:=qay.rep) (x:=v.View) (vv G0) (zd6 fun w15 hB15=>?_);have G1:=qak G0 hB15;refine ⟨vv G1,(hask.ext G1).cells,q9p fun w16 hB16=>?_⟩;have G2:=qak G1 hB16;refine ⟨(hask.ext G2).cells,q8q hc256 fun w17 hB17=>?_⟩;have G3:=qak G2 hB17;rw [w64i (x:=(m:Int)+1) (by omega)];have hsp:=hstp p;refine cO (fun e=>?_) fun e=>?_
  ·refine hI _ _ ⟨m+1,by simp,by omega,?_,G3⟩ (by dsimp only;omega);rw [e] at hsp;have hsp:stay p=false:=hsp;rw [tk,List.filter_append];have:[p].filter stay=[]:=by simp [hsp]
   rw [this,List.append_nil]
  ·rw [e] at hsp;have hsp:stay p=true:=hsp;have hat:=zht hp hsp;rw [<-dT] at hat;have hk2:=(List.getElem?_eq_some_iff.1 hat).1;refine cF (dFq (by omega)) ?_;have G4:=qak G3 (qb3 w17);refine (hnow.ext G4).ix (E:=qa7) (i:=((((E4.T.take m).filter stay).length:Nat):Int)) rfl (by omega) (by omega) fun hc=>?_;have e1:ED.T[((((E4.T.take m).filter stay).length:Nat):Int).toNat]'(by omega)=p:=(List.getElem?_eq_some_iff.1 (by simpa using hat)).2;rw [e1] at hc;refine qal (r:=qag.rep) (x:=p) hc (wasIx G4 fun a ha=>qal (r:=qag.rep) (x:=p) ha (cF (by simp) ?_));rw [w64i (x:=((((E4.T.take m).filter stay).length:Nat):Int)+1) (by omega)];refine hI _ _ ⟨m+1,by simp,by omega,?_,G4⟩ (by dsimp only;omega);rw [tk,List.filter_append];have:[p].filter stay=[p]:=by simp [hsp]
   rw [this,length_append,List.length_singleton];simp
 ·have e:=oFq e;have hml:m=E4.T.length:=by omega
  clear hI;rw [hml,List.take_length,<-dT];refine jpO fun J7 hJ7=>?_;refine cF (by rw [n3];simp) (lSl (x:=r.Reply) ((hb14.ext hBx).cells 0 _ rfl) (cF (by rw [hrn];rfl) (hJ7 _ _ ?_)));have n2:r2.n=E4.S.L.length:=by rw [hids14.n,List.length_map]
  have hokl:=hE4.m.ok.len;refine lpR (fun (st:Int×Unit) wy=>∃m:Nat,st.1=(m:Int)/\m<=E4.S.L.length/\Below w14.heap.size w14 wy) (fun st=>E4.S.L.length-st.1.toNat) ⟨0,rfl,zero_le _,hBx⟩ ?_;rintro ⟨i,u⟩ wy ⟨m,hi,hm,hBy⟩ I hI;dsimp only at hi ⊢;subst hi;refine cO (fun e=>?_) fun e=>hK _ (qak B14 hBy);have e:=oTq e;have hlt:m<E4.S.L.length:=by omega
  obtain ⟨im,him⟩:∃im,E4.S.L[m]?=some im:=⟨_,List.getElem?_eq_getElem hlt⟩;have himm:=List.mem_of_getElem? him;have ix:∀{wz:World} {X:Addr->Prop},Below w14.heap.size w14 wz->(∀a,(∀{wu:World},Below wz.heap.size wz wu->wu.cell? a=some (.int .i64 im.1))->X a)->ixK r2 (m:Int) 1 X:=fun {wz X} hB hX=>(hids14.ext hB).ix (E:=E_int) (i:=(m:Int)) rfl (by omega) (by rw [List.length_map];omega) fun hc=>hX _ fun {wu} hBu=>by
   have:=((hids14.ext hB).ext hBu).at_ m im.1 (by rw [List.getElem?_map,him];rfl) 0 _ rfl;rw [add_zero] at this;simpa using this
  rw [w64i (x:=(m:Int)+1) (by omega)];have go:∀wz,Below w14.heap.size w14 wz->I ((m:Int)+1,()) wz:=fun wz hB=>hI _ _ ⟨m+1,by simp,by omega,hB⟩ (by dsimp only;omega);have tail:∀wz,Below w14.heap.size w14 wz->cond (!(lookL ED.S.L im.1).isSome) (cond (decide ((c.toNat:Int)>=97)) (K false wz.drew) (ixK r2 (m:Int) 1 fun t214=>ldI .i64 t214 wz.drew fun t215=>qb1 (some ⟨g,0,none⟩) wz.drew fun t211 w29=>World.cell? w29 t214=some (.int .i64 t215)/\qdf t211 t215 w29 fun t216 w30=>cond t216 (K false w30) (I ((m:Int)+1,()) w30))) (I ((m:Int)+1,()) wz.drew):=by
   intro wz hB;have hBd:=qak hB (qb3 wz);rcases dS im.1 ⟨im.2,himm⟩ with ⟨z,hz⟩ | ⟨h1,h2⟩
   ·rw [(qco hokD.srt).2 hz];exact cF rfl (go _ hBd)
   ·refine cO (fun _=>?_) fun _=>go _ hBd;refine cF (dFq (by omega)) (ix hBd fun a ha=>lI (x:=im.1) (ha (Below.refl _ _)) ?_);refine ql5 (hD14.ext hBd).m (by omega) fun tg3 q3 w19 ht19 hB19=>⟨ha hB19,q4t ht19 (by omega) im.1 fun w20 hB20=>?_⟩;rw [h2];exact cF rfl (go _ (qak hBd (qak hB19 hB20)))
  have Gd:=qak hBy (qb3 wy);refine ix Gd fun a ha=>lI (x:=im.1) (ha (Below.refl _ _)) ⟨?_,?_⟩
  ·refine qjj (hD14.ext Gd).m fun sg3 sr3 w15 _ _ hst15 hB15=>⟨ha hB15,?_,?_⟩
   ·refine qt0 hst15 hokD im.1 fun P w16 hP hB16=>nwb fun w17 hx17 hB17 _=>⟨ha (qch hB15 hB16 hB17),qby hx17 rfl fun w18 hx18 hc18 _=>?_⟩;exact tail w18 (qak Gd (qak hB15 (qak hB16 (b1o hB17 hc18 (le_refl _)))))
   ·refine nwb fun w16 hx16 hB16 _=>⟨ha (qak hB15 hB16),qt0 (hst15.ext hB16) hokD im.1 fun P w17 hP hB17=>qby (hx16.ext hB17) rfl fun w18 hx18 hc18 _=>?_⟩;exact tail w18 (qak Gd (qak hB15 (b1o (qak hB16 hB17) hc18 (le_refl _))))
  ·refine nwb fun w15 hx15 hB15 _=>⟨ha hB15,qjj ((hD14.ext Gd).ext hB15).m fun sg3 sr3 w16 _ _ hst16 hB16=>⟨ha (qak hB15 hB16),qt0 hst16 hokD im.1 fun P w17 hP hB17=>qby ((hx15.ext hB16).ext hB17) rfl fun w18 hx18 hc18 _=>?_⟩⟩;exact tail w18 (qak Gd (b1o (qch hB15 hB16 hB17) hc18 (le_refl _)))
end
end Go.Proofs.YtedcpbkcamckoaaGreatDoor
namespace Go.Proofs.YtedcpbkcamckoaaGreatDoor
def jnA (P:Program) (fn:Func) (s:ChangeSpec) (c:OpenClaim):Bool :=
 c.wf (OpenSpec.ofChange s) && laidOutB P && mapsRowed P && fn.params.all (P.readableRec ·) && namedTie P c.named s.vars && (c.stops==[]) && (P.stops==[]) && (c.knobs==[]) && (P.stopKnobs==[])
def jnB (P:Program) (fn:Func) (s:ChangeSpec) (c:OpenClaim):Bool :=
 (c.maps==(fn.params.toList++s.plain.varTypes P).any (P.mapsRec ·)) && (c.ifaces==(fn.params.toList++s.plain.varTypes P).any (P.ifacesRec ·)) && (c.mapsOut==P.mapsAmong fn.resultTypes.toList) &&
 (c.loops==(fn.params.toList++s.plain.varTypes P).any (P.loopsFrom ·)) && (c.wideKeys==(fn.params.toList++s.plain.varTypes P++fn.resultTypes.toList).any (P.wideKeysFrom ·)) &&
 s.vars.all (P.varReadable ·) && fn.resultTypes.all (fun t=>P.readableRec t && decide (t<P.types.size)) && (c.ifacesOut==fn.resultTypes.toList.any (P.ifacesRec ·)) && (c.loopsOut==fn.resultTypes.toList.any (P.loopsFrom ·))
def jnC (P:Program) (fn:Func) (s:ChangeSpec) (c:OpenClaim):Bool :=
 (c.plainKeys==P.plainKeys) && c.shortTexts.isNone && P.stopsHeard && P.mayEnter && (c.lifted==P.liftsFinal) && (P.make==some c.make) && (c.kinds==(if c.domain.isEmpty then [] else fn.params.toList.map fun t=>match P.underlying t with | some (.int k)=>some k | _=>none)) && (c.pinned==c.pinnedBy) &&
 (c.veiled==(fn.params.toList++s.plain.varTypes P++fn.resultTypes.toList).any (P.veiledRec ·)) && c.veiledFits P fn.params.toList (fn.params.toList++s.plain.varTypes P++fn.resultTypes.toList)
theorem ziu {P:Program} {f:FuncId} {fn:Func} {s:ChangeSpec} {c:OpenClaim} (a:jnA P fn s c=true) (b1:(c.inPlace==P.inPlace f)=true) (b2:(c.unfollowed==P.unfollowed f)=true) (b3:(c.recurses==P.recurses f)=true) (b4:(c.named==P.varsNamed f)=true)
  (d:jnB P fn s c=true) (e:jnC P fn s c=true):joinedFacts P f fn s c=true:=by
 unfold jnA at a;unfold jnB at d;unfold jnC at e;unfold joinedFacts;simp only [Bool.and_eq_true,and_assoc] at a d e ⊢;exact ⟨a.1,a.2.1,a.2.2.1,a.2.2.2.1,a.2.2.2.2.1,a.2.2.2.2.2.1,a.2.2.2.2.2.2.1,a.2.2.2.2.2.2.2.1,a.2.2.2.2.2.2.2.2,b1,b2,b3,b4,d.1,d.2.1,d.2.2.1,d.2.2.2.1,d.2.2.2.2.1,d.2.2.2.2.2.1,d.2.2.2.2.2.2.1,d.2.2.2.2.2.2.2.1,d.2.2.2.2.2.2.2.2,e⟩
end Go.Proofs.YtedcpbkcamckoaaGreatDoor
