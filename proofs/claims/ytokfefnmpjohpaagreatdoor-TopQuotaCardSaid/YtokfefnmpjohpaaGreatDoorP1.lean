import Derived.KernelRfl
import Derived.Test.YtokfefnmpjohpaaGreatDoorVc
import Derived.Below
import Derived.Maps.AppendAt
import Derived.Laws.OwnMore
import Derived.IntWalk
import Derived.ProofKit
import Derived.OpenShut
import Derived.ChangeOld
import Derived.ChangeSame
import Derived.Carry
import Derived.Deep.Slices
import Derived.Laws.MakeOwn
import Derived.Test.YtokfefnmpjohpaaGreatDoorDefs
import Derived.Test.YtokfefnmpjohpaaGreatDoorShA
import Derived.Shelf.Strings.OnBuilder
import Derived.Shelf.Small.Strs
import Derived.Shelf.Strconv.Itoa3
import Derived.Shelf.Strings.Search3
import Derived.Shelf.Strings.Count
import Derived.Shelf.Bytes.IndexByte
import Derived.Shelf.LaysM
import Derived.Shelf.Strings.Search1
import Derived.Test.YtokfefnmpjohpaaGreatDoorProg
import Derived.Lib.ConvBytes
import Derived.Laws.BytesString
import Derived.Laws.Runes
import Derived.WalkSmall
import Derived.Test.YtokfefnmpjohpaaGreatDoorRows
import Derived.DataShut
import Derived.Lay
import Derived.MakeChecks
import Derived.LaidMore
import Derived.Stop.Joined
import Derived.Lib.LaidTab
import Derived.ChangeMaps5
import Derived.Laws.BitsAllLaws
namespace Go
open Go.RowKit
abbrev Uc (w v:World):Prop:=Below w.heap.size w v
end Go
set_option linter.unusedVariables false
namespace Go.Vc
open Go.RowKit
open Builtin (append_)
open IntKind (i64)
open _root_.Nat (add_mul le_refl)
open _root_.Option (getD_some isSome_iff_exists)
theorem lpR {σ:Type} {body:(σ->Ub)->σ->Ub} {s0:σ} {w0:World} (Inv:σ->Ub) (μ:σ->Nat) (h0:Inv s0 w0)
  (step:∀s w,Inv s w->∀I:σ->Ub,(∀s' w',Inv s' w'->μ s'<μ s->I s' w')->body I s w):zl body s0 w0:=by
 intro I hI;have key:∀n s w,μ s=n->Inv s w->I s w:=by
  intro n
  induction n using Nat.strongRecOn with
  | _ n ih =>
   intro s w hn hs;exact hI s w (step s w hs I λs' w' h' hlt=>ih (μ s') (hn ▸ hlt) s' w' rfl h')
 exact key _ _ _ rfl h0
theorem qpd {σ:Type} {body:(σ->Ub)->σ->Ub} {s0:σ} {w0:World} (Inv:Nat->σ->Ub) (n0:Nat) (h0:Inv n0 s0 w0)
  (step:∀n s w,Inv n s w->∀I:σ->Ub,(∀n' s' w',Inv n' s' w'->n'<n->I s' w')->body I s w):zl body s0 w0:=by
 intro I hI;have key:∀n s w,Inv n s w->I s w:=by
  intro n
  induction n using Nat.strongRecOn with
  | _ n ih=>intro s w hs;exact hI s w (step n s w hs I λn' s' w' h' hlt=>ih n' hlt s' w' h')
 exact key _ _ _ h0
theorem jpO {σ:Type} {K:σ->Ub} {body:(σ->Ub)->Prop} (h:∀J:σ->Ub,(∀s w,K s w->J s w)->body J):qX K body:=h
theorem cO {b:Bool} {X Y:Prop} (h1:b=true->X) (h2:b=false->Y):cond b X Y:=by
 cases b
 ·exact h2 rfl
 ·exact h1 rfl
theorem cT {b:Bool} {X Y:Prop} (h:b=true) (h1:X):cond b X Y:=by subst h;exact h1
theorem cF {b:Bool} {X Y:Prop} (h:b=false) (h1:Y):cond b X Y:=by subst h;exact h1
theorem jR (a:Addr) (i j:Nat):(a.add i).add j=a.add (i+j):=by
 unfold Addr.add;by_cases hi:i=0<;>by_cases hj:j=0<;>simp [hi,hj,Nat.add_assoc]
@[simp] theorem add_zero (a:Addr):a.add 0=a:=by simp [Addr.add]
@[simp] theorem block_add (a:Addr) (n:Nat):(a.add n).block=a.block:=by unfold Addr.add;split<;>rfl
theorem q4 (b o n:Nat):(⟨b,o,none⟩:Addr).add n=⟨b,o+n,none⟩:=by unfold Addr.add;split<;>simp_all
theorem qy.sub {w:World} {a:Addr} {vs us:List Value} (h:qy w a vs) (i:Nat) (hu:∀(j:Nat) (v:Value),us[j]?=some v->vs[i+j]?=some v):qy w (a.add i) us:=by
 intro j v hj;rw [jR];exact h _ _ (hu j v hj)
theorem qy.lt {w:World} {a:Addr} {vs:List Value} (h:qy w a vs) (hn:0<vs.length):a.block<w.heap.size:=by
 have:=World.block_lt_of_cell? w (a.add 0) (h 0 vs[0] (by simp [hn]));simpa using this
def Blk (w:World) (g:Nat) (t:TypeId) (vs:List Value):Prop:=w.heap[g]?=some (.cells vs.toArray t (0,0))
section
variable {w w':World} {g:Nat} {t:TypeId} {vs:List Value}
theorem Blk.lt (h:Blk w g t vs):g<w.heap.size:=by
 rcases Nat.lt_or_ge g w.heap.size with hlt | hge
 ·exact hlt
 ·unfold Blk at h;rw [Array.getElem?_eq_none hge] at h;cases h
theorem Blk.new (w:World) (t:TypeId) (vs:List Value):Blk (w.alloc (.cells vs.toArray t)) w.heap.size t vs:=by
 show (w.heap.push _)[w.heap.size]?=_;simp
theorem Blk.cells (h:Blk w g t vs):qy w ⟨g,0,none⟩ vs:=by
 intro i v hv;unfold Blk at h;rw [q4];simp [World.cell?,h,hv]
theorem Blk.cell (h:Blk w g t vs) (i:Nat) {v:Value} (hv:vs[i]?=some v):w.cell? ⟨g,i,none⟩=some v:=by
 have:=h.cells i v hv
 rwa [q4,Nat.zero_add] at this
theorem Blk.sub (h:Blk w g t vs) (i:Nat) (us:List Value) (hu:(vs.drop i).take us.length=us):qy w ((⟨g,0,none⟩:Addr).add i) us:=by
 refine h.cells.sub i λj v hj=>?_;rw [<-hu] at hj;have hjl:j<us.length:=by
  rcases Nat.lt_or_ge j us.length with h' | h'
  ·exact h'
  ·rw [List.getElem?_eq_none (by simp;omega)] at hj;cases hj
 rw [List.getElem?_take_of_lt hjl,List.getElem?_drop] at hj;exact hj
theorem Blk.frozen (h:Blk w g t vs) (i:Nat):w.frozen? ⟨g,i,none⟩=false:=by
 unfold Blk at h;simp [World.frozen?,h]
theorem Blk.drew (h:Blk w g t vs):Blk w.drew g t vs:=h
theorem Blk.alloc (h:Blk w g t vs) (o:Obj):Blk (w.alloc o) g t vs:=(Below.heap_alloc w o g h.lt).trans h
theorem Blk.below {B:Nat} (h:Blk w g t vs) (hb:Below B w w') (hg:g<B):Blk w' g t vs:=(hb.block g hg).trans h
theorem Blk.ext (h:Blk w g t vs) (hb:Uc w w'):Blk w' g t vs:=h.below hb h.lt
theorem Blk.grown {row:Option Nat} (h:Blk w g t vs) (hb:w.grownBy w' row) (hg:some g≠row):Blk w' g t vs:=(hb.block g h.lt hg).trans h
theorem Blk.set_ (h:Blk w g t vs) (i:Nat) (u:Value):Blk (w.setCell ⟨g,i,none⟩ u) g t (vs.set i u):=by
 unfold Blk at h ⊢;simp [World.setCell,Array.getElem?_modify,h]
end
def putL (vs:List Value) (i:Nat) (us:List Value):List Value:=match us with
 | []=>vs
 | u::r=>putL (vs.set i u) (i+1) r
theorem q4w {g o:Nat} {t:TypeId}:∀(us:List Value) (i:Nat) (w:World) (vs:List Value),Blk w g t vs->Blk (kH w ⟨g,o,none⟩ i us) g t (putL vs (o+i) us):=by
 intro us
 induction us with
 | nil=>intro i w vs h;exact h
 | cons u r ih =>
  intro i w vs h;simp only [kH,putL];rw [q4];have:=ih (i+1) _ _ (h.set_ (o+i) u)
  rwa [<-Nat.add_assoc] at this
theorem zcs {w:World} {g o:Nat} {t:TypeId} {vs us:List Value} (h:Blk w g t vs):Blk (wr w ⟨g,o,none⟩ us) g t (putL vs o us):=by
 have:=q4w (o:=o) us 0 w vs h;simpa [wr] using this
theorem qr3 {a:Addr}:∀(us:List Value) (i:Nat) (w:World),(kH w a i us).heap.size=w.heap.size/\(∀k,k≠a.block->(kH w a i us).heap[k]?=w.heap[k]?)/\(kH w a i us).tape=w.tape/\(kH w a i us).os=w.os/\(kH w a i us).output=w.output/\(kH w a i us).drawn=w.drawn:=by
 intro us
 induction us with
 | nil=>intro i w;exact ⟨rfl,λ_ _=>rfl,rfl,rfl,rfl,rfl⟩
 | cons u r ih =>
  intro i w;obtain ⟨h1,h2,h3,h4,h5,h6⟩:=ih (i+1) (w.setCell (a.add i) u);refine ⟨by rw [kH,h1];simp,λk hk=>?_,by rw [kH,h3];simp,by rw [kH,h4];rfl,by rw [kH,h5];rfl,by rw [kH,h6];simp⟩;rw [kH,h2 k hk];exact Below.heap_setCell _ _ _ _ (by simpa using hk)
@[simp] theorem size_wr (w:World) (a:Addr) (us:List Value):(wr w a us).heap.size=w.heap.size:=(qr3 us 0 w).1
theorem q1g (w:World) (a:Addr) (us:List Value):w.grownBy (wr w a us) (some a.block):=by
 obtain ⟨h1,h2,h3,h4,h5,_⟩:=qr3 (a:=a) us 0 w;exact ⟨h4,h3,h5,by show _<=(kH w a 0 us).heap.size;omega,λk _ hne=>h2 k λe=>hne (by rw [e])⟩
theorem zd4 {w:World} {g o:Nat} {t:TypeId} {vs us:List Value} (h:Blk w g t vs) (hl:o+us.length<=vs.length):zby w ⟨g,o,none⟩ us:=by
 intro i hi;rw [q4];refine ⟨⟨vs[o+i],?_⟩,h.frozen _⟩;exact h.cell (o+i) (List.getElem?_eq_getElem (by omega))
theorem qw {w:World} {g o:Nat} {t:TypeId} {vs us:List Value} {K:Ub} (h:Blk w g t vs) (hl:o+us.length<=vs.length)
  (hK:∀w',Blk w' g t (putL vs o us)->w.grownBy w' (some g)->w'.heap.size=w.heap.size->K w'):stK ⟨g,o,none⟩ us w K :=
 ⟨zd4 h hl,hK _ (zcs h) (q1g w ⟨g,o,none⟩ us) (size_wr _ _ _)⟩
theorem nwb {t:TypeId} {vs:List Value} {w:World} {K:Addr->Ub} (hK:∀w',Blk w' w.heap.size t vs->Uc w w'->w'.heap.size=w.heap.size+1->K ⟨w.heap.size,0,none⟩ w'):nw t vs w K :=
 hK _ (Blk.new w t vs) ((Below.refl _ w).alloc (le_refl _) _) (by simp)
theorem zhm {T:Type} {cells:T->List Value} (h:∀x,(cells x).all Value.oneCell'=true):∀x,∀v∈cells x,v.oneCell'=true:=λx v hv=>List.all_eq_true.1 (h x) v hv
structure El (T:Type) where
 cells:T->List Value
 t:TypeId
 k:Nat
 pos:0<k:=by decide
 len:∀x,(cells x).length=k:=by exact λ_=>rfl
 one:∀x,∀v∈cells x,v.oneCell'=true:=by exact zhm λ_=>rfl
def Slc.at_ (s:Slc) (k i:Nat):Addr:=(s.a.getD ⟨0,0,none⟩).add (i*k)
structure Rd {T:Type} (E:El T) (w:World) (s:Slc) (xs:List T):Prop where
 n:s.n=xs.length
 nc:s.n<=s.c
 cm:s.c<=maxLen
 some_:0<xs.length->s.a.isSome=true
 at_:∀(i:Nat) x,xs[i]?=some x->qy w (s.at_ E.k i) (E.cells x)
theorem Rd.nil {T:Type} (E:El T) (w:World):Rd E w ⟨none,0,0⟩ []:=⟨rfl,le_refl _,by simp [maxLen],λh=>by simp at h,λi x h=>by simp at h⟩
theorem Rd.lt {T:Type} {E:El T} {w:World} {s:Slc} {xs:List T} (h:Rd E w s xs) {i:Nat} (hi:i<xs.length):(s.at_ E.k i).block<w.heap.size :=
 (h.at_ i xs[i] (by simp [hi])).lt (by rw [E.len];exact E.pos)
theorem Rd.keep {T:Type} {E:El T} {w w':World} {s:Slc} {xs:List T} (h:Rd E w s xs) (hk:∀(b:Nat),b<w.heap.size->(∀a,s.a=some a->b=a.block)->w'.heap[b]?=w.heap[b]?):Rd E w' s xs:=by
 refine ⟨h.n,h.nc,h.cm,h.some_,λi x hx=>?_⟩;have hc:=h.at_ i x hx;intro j v hv;have hcell:=hc j v hv;have hlt:=World.block_lt_of_cell? w _ hcell;rw [World.cell?_of_block (w:=w) (hk _ hlt (λa ha=>by simp [Slc.at_,ha]))];exact hcell
theorem Rd.ext {T:Type} {E:El T} {w w':World} {s:Slc} {xs:List T} (h:Rd E w s xs) (hb:Uc w w'):Rd E w' s xs:=h.keep λb hlt _=>hb.block b hlt
theorem Rd.none_nil {T:Type} {E:El T} {w:World} {s:Slc} {xs:List T} (h:Rd E w s xs) (ha:s.a=none):xs=[]:=by
 cases xs with
 | nil=>rfl
 | cons x r=>have:=h.some_ (by simp);rw [ha] at this;cases this
theorem Rd.drew {T:Type} {E:El T} {w:World} {s:Slc} {xs:List T} (h:Rd E w s xs):Rd E w.drew s xs:=h.keep λ_ _ _=>rfl
theorem qze {s:Slc} {i:Int} {k:Nat} {K:Addr->Prop} (ha:s.a.isSome=true) (h0:0<=i) (h1:i<s.n) (h:K (s.at_ k i.toNat)):ixK s i k K:=by
 obtain ⟨a,e⟩:=isSome_iff_exists.1 ha;unfold ixK;rw [e,onPtr_some];refine ⟨⟨h0,h1⟩,?_⟩;simpa [Slc.at_,e] using h
theorem Rd.ix {T:Type} {E:El T} {w:World} {s:Slc} {xs:List T} (h:Rd E w s xs) {i:Int} {k:Nat} (hk:k=E.k) {K:Addr->Prop} (h0:0<=i) (h1:i<xs.length)
  (hK:qy w (s.at_ E.k i.toNat) (E.cells (xs[i.toNat]'(by omega)))->K (s.at_ E.k i.toNat)):ixK s i k K:=by
 subst hk;refine qze (h.some_ (by omega)) h0 (by rw [h.n];exact h1) (hK (h.at_ _ _ ?_));simp
def Zd {T:Type} (E:El T) (xs:List T):List Value:=xs.flatMap E.cells
theorem k5 {T:Type} (E:El T) (xs:List T):(Zd E xs).length=xs.length*E.k:=by
 unfold Zd
 induction xs with
 | nil=>simp
 | cons x r ih=>simp [E.len,ih,add_mul,Nat.add_comm]
theorem q1x {T:Type} (E:El T) (xs ys:List T):Zd E (xs++ys)=Zd E xs++Zd E ys:=by simp [Zd]
theorem qn2 {T:Type} (E:El T):∀(xs:List T) (i:Nat) (x:T) (j:Nat) (v:Value),xs[i]?=some x->(E.cells x)[j]?=some v->(Zd E xs)[i*E.k+j]?=some v:=by
 intro xs
 induction xs with
 | nil=>intro i x j v h;simp at h
 | cons y r ih =>
  intro i x j v h hv;have hj:j<E.k:=by rw [<-E.len x];exact (List.getElem?_eq_some_iff.1 hv).1
  have e:Zd E (y::r)=E.cells y++Zd E r:=by simp [Zd]
  rw [e];cases i with
  | zero =>
   simp only [List.getElem?_cons_zero,Option.some.injEq] at h;subst h;rw [Nat.zero_mul,Nat.zero_add,List.getElem?_append_left (by rw [E.len];exact hj)];exact hv
  | succ i =>
   simp only [List.getElem?_cons_succ] at h;rw [List.getElem?_append_right (by rw [E.len,add_mul];omega),E.len];have:(i+1)*E.k+j-E.k=i*E.k+j:=by rw [add_mul];omega
   rw [this];exact ih i x j v h hv
theorem zdv {T:Type} (E:El T) (xs:List T):∀u∈Zd E xs,u.oneCell'=true:=by
 intro u hu;obtain ⟨x,_,hx⟩:=List.mem_flatMap.1 hu;exact E.one x u hx
def Slc.v (s:Slc):Value:=.slice s.a s.n s.c
def Slc.blk (s:Slc):Option Nat:=s.a.map (·.block)
def Own {T:Type} (E:El T) (w:World) (base:Nat) (s:Slc) (xs:List T):Prop:=w.ownsRow base E.t E.k s.v xs.length (Zd E xs)
theorem qae (s:Slc):s.v.ownBlock=s.blk:=by
 unfold Slc.v Slc.blk;cases s.a<;>rfl
theorem Own.form {T:Type} {E:El T} {w:World} {base:Nat} {s:Slc} {xs:List T} (h:Own E w base s xs) :
  (s=⟨none,0,0⟩/\xs=[])\/∃g cur,s=⟨some ⟨g,0,none⟩,xs.length,s.c⟩/\base<=g/\Blk w g E.t cur/\xs.length<=s.c/\s.c<=maxLen/\cur.length=s.c*E.k/\cur.take (xs.length*E.k)=Zd E xs:=by
 obtain ⟨_,h⟩:=h;obtain ⟨a,n,c⟩:=s;rcases h with ⟨e,hn⟩ | ⟨g,cap,cur,e,hg,hh,h1,h2,h3,h4⟩
 ·injection e with e1 e2 e3
  subst e1;subst e2;subst e3;exact .inl ⟨rfl,List.eq_nil_of_length_eq_zero hn⟩
 ·injection e with e1 e2 e3
  subst e1;subst e2;subst e3;exact .inr ⟨g,cur.toList,rfl,hg,by unfold Blk;simpa using hh,h1,h2,by simpa using h3,h4⟩
theorem Own.of_blk {T:Type} {E:El T} {w:World} {base g c:Nat} {xs:List T} {cur:List Value} (hg:base<=g) (hb:Blk w g E.t cur) (h1:xs.length<=c) (h2:c<=maxLen) (h3:cur.length=c*E.k) (h4:cur.take (xs.length*E.k)=Zd E xs) :
  Own E w base ⟨some ⟨g,0,none⟩,xs.length,c⟩ xs :=
 ⟨k5 E xs,.inr ⟨g,c,cur.toArray,rfl,hg,hb,h1,h2,by simpa using h3,by simpa using h4⟩⟩
theorem Own.nil {T:Type} (E:El T) (w:World) (base:Nat):Own E w base ⟨none,0,0⟩ []:=World.ownsRow_nil w base E.t E.k
theorem Own.rd {T:Type} {E:El T} {w:World} {base:Nat} {s:Slc} {xs:List T} (h:Own E w base s xs):Rd E w s xs:=by
 rcases h.form with ⟨rfl,rfl⟩ | ⟨g,cur,hs,hg,hb,h1,h2,h3,h4⟩
 ·exact Rd.nil E w
 ·rw [hs];refine ⟨rfl,h1,h2,λ_=>rfl,λi x hx=>?_⟩;show qy w ((⟨g,0,none⟩:Addr).add (i*E.k)) _;refine hb.cells.sub _ λj v hv=>?_;have:=qn2 E xs i x j v hx hv;rw [<-h4] at this;rw [List.getElem?_take] at this;split at this
  ·exact this
  ·cases this
theorem Own.base {T:Type} {E:El T} {w:World} {base base':Nat} {s:Slc} {xs:List T} (h:Own E w base s xs) (hb:base'<=base):Own E w base' s xs:=by
 obtain ⟨h0,h⟩:=h;refine ⟨h0,?_⟩;rcases h with h | ⟨g,cap,cur,e,hg,r⟩
 ·exact .inl h
 ·exact .inr ⟨g,cap,cur,e,by omega,r⟩
theorem Own.lt {T:Type} {E:El T} {w:World} {base:Nat} {s:Slc} {xs:List T} (h:Own E w base s xs):∀k,s.blk=some k->base<=k/\k<w.heap.size:=by
 rw [<-qae];exact World.ownsRow.lt h
theorem Own.kept {T:Type} {E:El T} {w w':World} {base:Nat} {s:Slc} {xs:List T} {row:Option Nat} (h:Own E w base s xs) (hg:w.grownBy w' row) (hne:s.blk=none\/s.blk≠row):Own E w' base s xs :=
 World.ownsRow.kept h hg (by rw [qae];exact hne)
theorem Own.ext {T:Type} {E:El T} {w w':World} {base:Nat} {s:Slc} {xs:List T} (h:Own E w base s xs) (hb:Uc w w'):Own E w' base s xs:=by
 obtain ⟨h0,h1⟩:=h;refine ⟨h0,?_⟩;rcases h1 with h1 | ⟨g,cap,cur,e,hg,hh,r⟩
 ·exact .inl h1
 ·refine .inr ⟨g,cap,cur,e,hg,?_,r⟩;have:g<w.heap.size:=by
   rcases Nat.lt_or_ge g w.heap.size with h' | h'
   ·exact h'
   ·rw [Array.getElem?_eq_none h'] at hh;cases hh
  rw [hb.block g this];exact hh
theorem Own.drew {T:Type} {E:El T} {w:World} {base:Nat} {s:Slc} {xs:List T} (h:Own E w base s xs):Own E w.drew base s xs:=h
structure SlT (P:Program) {T:Type} (E:El T) (st:TypeId) where
 ht:P.underlying st=some (.slice E.t):=by kernel_rfl
 i:TypeInfo:=(P.info? E.t).getD default
 hi:P.info? E.t=some i:=by kernel_rfl
 z:Value
 hz:i.zero=some z:=by kernel_rfl
 hs:i.size=E.k:=by kernel_rfl
 hzs:z.cells.size=E.k:=by exact rfl
theorem qmy {P:Program} {T:Type} {E:El T} {st:TypeId} (TT:SlT P E st) (ty:TypeId) {w:World} {base:Nat} {s:Slc} {xs:List T} (hown:Own E w base s xs) (c:Nat) :
  (append_ #[st,st] ty #[s.v,.slice none 0 c]).run P w=.ok s.v w:=by
 rcases hown.form with ⟨rfl,rfl⟩ | ⟨g,cur,hs,hg,hb,h1,h2,h3,h4⟩
 ·simp [Slc.v,append_,run_underlying TT.ht,sizeOf,typeInfo,TT.hi,Builtin.lenOf,Builtin.firstCells]
 ·rw [hs];simp [Slc.v,append_,run_underlying TT.ht,sizeOf,typeInfo,TT.hi,Builtin.lenOf,Builtin.firstCells,h1,storeCells]
theorem jx {P:Program} {T:Type} {E:El T} {st:TypeId} (TT:SlT P E st) {ty:TypeId} {w:World} {base:Nat} {s x:Slc} {xs ys:List T} {K:Slc->Ub} (hown:Own E w base s xs) (hx:Rd E w x ys)
  (hb:base<=w.heap.size) (hl:(xs.length+ys.length)*TT.i.bytes<=140737488355328) (hm:xs.length+ys.length<=maxLen)
  (hK:∀r w',Own E w' base r (xs++ys)->w.grownBy w' s.blk->(r.blk=s.blk\/r.blk=some w.heap.size)->K r w'):apK P #[st,st] ty s x w K:=by
 cases ha:x.a with
 | none =>
  have hy:=hx.none_nil ha;subst hy;have hn:x.n=0:=by simpa using hx.n
  refine ⟨s,w,?_,hK s w (by simpa using hown) (World.grownBy.refl w _) (.inl rfl)⟩;rw [ha,hn];exact qmy TT ty hown x.c
 | some a =>
  have hcells:∀(j:Nat) (u:Value),(Zd E ys)[j]?=some u->w.cell? (a.add j)=some u:=by
   intro j u hu;have hj:j<ys.length*E.k:=by rw [<-k5];exact (List.getElem?_eq_some_iff.1 hu).1
   have hk:=E.pos;have hq:j/E.k<ys.length:=(Nat.div_lt_iff_lt_mul hk).2 hj;have hr:j%E.k<E.k:=Nat.mod_lt _ hk;have hxi:ys[j/E.k]?=some ys[j/E.k]:=by simp [hq]
   have hv:(E.cells ys[j/E.k])[j%E.k]?=some ((E.cells ys[j/E.k])[j%E.k]'(by rw [E.len];exact hr)):=List.getElem?_eq_getElem _;have e:j/E.k*E.k+j%E.k=j:=by rw [Nat.mul_comm];exact Nat.div_add_mod j E.k
   have h1:=qn2 E ys _ _ _ _ hxi hv;rw [e,hu] at h1;have h2:=hx.at_ _ _ hxi _ _ hv;rw [<-Option.some.inj h1] at h2;simp only [Slc.at_,ha,getD_some] at h2
   rwa [jR,e] at h2
  obtain ⟨v',w',hrun,h2,h3,_,h5⟩:=run_append_own_at (P:=P) w base st ty E.t TT.i TT.z E.k TT.i.bytes TT.ht TT.hi TT.hz TT.hs rfl TT.hzs E.pos s.v xs.length (Zd E xs) hown a ys.length x.c (Zd E ys) (k5 E ys) hcells (zdv E ys) hm hl hb;have hv':∃r:Slc,v'=r.v:=by
   rcases h2.2 with ⟨e,_⟩ | ⟨g,cap,cur,e,_⟩
   ·exact ⟨⟨none,0,0⟩,e⟩
   ·exact ⟨⟨_,_,_⟩,e⟩
  obtain ⟨r,rfl⟩:=hv';refine ⟨r,w',?_,hK r w' ?_ (by rw [<-qae];exact h3) ?_⟩
  ·rw [ha,hx.n];exact hrun
  ·unfold Own;rw [List.length_append,q1x];exact h2
  ·rw [qae,qae] at h5;exact h5
theorem Kf:∀(us vs:List Value) (i:Nat),(putL vs i us).length=vs.length:=by
 intro us
 induction us with
 | nil=>intro vs i;rfl
 | cons u r ih=>intro vs i;rw [putL,ih];simp
theorem Kg:∀(us vs:List Value) (i m:Nat),i+us.length<=vs.length->(putL vs i us)[m]?=if i<=m/\m<i+us.length then us[m-i]? else vs[m]?:=by
 intro us
 induction us with
 | nil=>intro vs i m _;simp only [putL,List.length_nil,Nat.add_zero];rw [if_neg (by omega)]
 | cons u r ih =>
  intro vs i m hl;simp only [List.length_cons] at hl;rw [putL,ih (vs.set i u) (i+1) m (by simp;omega)];by_cases h1:i+1<=m/\m<i+1+r.length
  ·rw [if_pos h1,if_pos (by simp;omega)];have:m-i=(m-(i+1))+1:=by omega
   rw [this,List.getElem?_cons_succ]
  ·rw [if_neg h1];by_cases h2:m=i
   ·subst h2;rw [if_pos (by simp),List.getElem?_set_self (by omega),Nat.sub_self,List.getElem?_cons_zero]
   ·rw [List.getElem?_set_ne (Ne.symm h2),if_neg (by simp;omega)]
theorem zdu {T:Type} {E:El T} {xs:List T} {i:Nat} {x y:T} (hx:xs[i]?=some x) {j:Nat} {us cur:List Value} (hj:j+us.length<=E.k) (hy:E.cells y=putL (E.cells x) j us)
  (hc:cur.take (xs.length*E.k)=Zd E xs) (hl:xs.length*E.k<=cur.length):(putL cur (i*E.k+j) us).take (xs.length*E.k)=Zd E (xs.set i y):=by
 have hi:i<xs.length:=(List.getElem?_eq_some_iff.1 hx).1;have hik:i*E.k+E.k<=xs.length*E.k:=by
  have:=Nat.mul_le_mul_right E.k (show i+1<=xs.length from hi);rw [add_mul,Nat.one_mul] at this;exact this
 refine List.ext_getElem? λm=>?_;by_cases hm:m<xs.length*E.k
 ·rw [List.getElem?_take_of_lt hm,Kg us cur _ _ (by omega)];have hq:m/E.k<xs.length:=(Nat.div_lt_iff_lt_mul E.pos).2 hm;have hr:m%E.k<E.k:=Nat.mod_lt _ E.pos;have e:m/E.k*E.k+m%E.k=m:=by rw [Nat.mul_comm];exact Nat.div_add_mod m E.k
  have hcur:cur[m]?=(Zd E xs)[m]?:=by rw [<-hc,List.getElem?_take_of_lt hm]
  have key:∀(zs:List T) (z:T),zs[m/E.k]?=some z->(Zd E zs)[m]?=(E.cells z)[m%E.k]?:=by
   intro zs z hz;have hv:(E.cells z)[m%E.k]?=some ((E.cells z)[m%E.k]'(by rw [E.len];exact hr)):=List.getElem?_eq_getElem _;have:=qn2 E zs _ _ _ _ hz hv;rw [e] at this;rw [this,hv]
  by_cases hqi:m/E.k=i
  ·have hy':(xs.set i y)[m/E.k]?=some y:=by rw [hqi,List.getElem?_set_self hi]
   rw [key _ _ hy',hy,Kg us (E.cells x) j _ (by rw [E.len];exact hj)];have hx':xs[m/E.k]?=some x:=by rw [hqi];exact hx
   rw [hcur,key _ _ hx'];have e2:m=i*E.k+m%E.k:=by rw [<-hqi];exact e.symm
   generalize m%E.k=r at *;subst e2;by_cases hcase:j<=r/\r<j+us.length
   ·rw [if_pos (by omega),if_pos hcase];congr 1;omega
   ·rw [if_neg (by omega),if_neg hcase]
  ·have hne:(xs.set i y)[m/E.k]?=xs[m/E.k]?:=List.getElem?_set_ne (Ne.symm hqi);have hx':xs[m/E.k]?=some xs[m/E.k]:=by simp [hq]
   rw [key _ _ (hne.trans hx'),hcur,key _ _ hx',if_neg];rintro ⟨h1,h2⟩;refine hqi (Nat.le_antisymm ?_ ?_)
   ·refine Nat.le_of_lt_succ ((Nat.div_lt_iff_lt_mul E.pos).2 ?_);rw [Nat.succ_mul];omega
   ·exact (Nat.le_div_iff_mul_le E.pos).2 (by omega)
 ·rw [List.getElem?_eq_none (by simp;omega),List.getElem?_eq_none (by rw [k5];simp;omega)]
theorem Own.st {T:Type} {E:El T} {w:World} {base:Nat} {s:Slc} {xs:List T} (h:Own E w base s xs) {i:Nat} {x y:T} (hx:xs[i]?=some x) {j:Nat} {us:List Value} (hj:j+us.length<=E.k)
  (hy:E.cells y=putL (E.cells x) j us) {K:Ub} (hK:∀w',Own E w' base s (xs.set i y)->w.grownBy w' s.blk->w'.heap.size=w.heap.size->K w'):stK ((s.at_ E.k i).add j) us w K:=by
 rcases h.form with ⟨rfl,rfl⟩ | ⟨g,cur,hs,hg,hb,h1,h2,h3,h4⟩
 ·simp at hx
 ·have hi:i<xs.length:=(List.getElem?_eq_some_iff.1 hx).1;have hik:i*E.k+E.k<=xs.length*E.k:=by
   have:=Nat.mul_le_mul_right E.k (show i+1<=xs.length from hi);rw [add_mul,Nat.one_mul] at this;exact this
  have hcap:xs.length*E.k<=s.c*E.k:=Nat.mul_le_mul_right _ h1;have ha:(s.at_ E.k i).add j=⟨g,i*E.k+j,none⟩:=by
   rw [hs];show ((⟨g,0,none⟩:Addr).add (i*E.k)).add j=_;rw [jR,q4,Nat.zero_add]
  rw [ha];refine qw hb (by omega) λw' hb' hg' hsz=>hK w' ?_ ?_ hsz
  ·have:=Own.of_blk (E:=E) (xs:=xs.set i y) (c:=s.c) hg hb' (by simpa using h1) h2 (by rw [Kf];exact h3) (by rw [List.length_set];exact zdu hx hj hy h4 (by omega));rw [hs];simpa using this
  ·rw [hs];exact hg'
theorem Own.st0 {T:Type} {E:El T} {w:World} {base:Nat} {s:Slc} {xs:List T} (h:Own E w base s xs) {i:Nat} {x y:T} (hx:xs[i]?=some x) {us:List Value} (hy:E.cells y=us)
  {K:Ub} (hK:∀w',Own E w' base s (xs.set i y)->w.grownBy w' s.blk->w'.heap.size=w.heap.size->K w'):stK (s.at_ E.k i) us w K:=by
 have hl:us.length=E.k:=by rw [<-hy,E.len]
 have hy':E.cells y=putL (E.cells x) 0 us:=by
  refine List.ext_getElem? λm=>?_;rw [Kg us _ 0 m (by rw [E.len];omega),hy];by_cases hm:m<us.length
  ·rw [if_pos (by omega)];rfl
  ·rw [if_neg (by omega),List.getElem?_eq_none (by omega),List.getElem?_eq_none (by rw [E.len];omega)]
 have:=h.st hx (j:=0) (by omega) hy' hK
 rwa [add_zero] at this
theorem yg {T:Type} {E:El T} {w:World} {g:Nat} {y:T} {vs:List Value} (hb:Blk w g E.t vs) (hy:E.cells y=vs):Rd E w ⟨some ⟨g,0,none⟩,1,1⟩ [y]:=by
 refine ⟨rfl,le_refl _,by simp [maxLen],λ_=>rfl,λi x hx=>?_⟩;cases i with
 | zero =>
  simp only [List.getElem?_cons_zero,Option.some.injEq] at hx;subst hx;show qy w ((⟨g,0,none⟩:Addr).add (0*E.k)) _;rw [Nat.zero_mul,add_zero,hy];exact hb.cells
 | succ i=>simp at hx
theorem Yp {T:Type} {E:El T} {w:World} {g base:Nat} (hb:Blk w g E.t []) (hg:base<=g):Own E w base ⟨some ⟨g,0,none⟩,0,0⟩ [] :=
 Own.of_blk (E:=E) (xs:=[]) (c:=0) hg hb (le_refl _) (by simp [maxLen]) (by simp) (by simp [Zd])
theorem lI {k:IntKind} {a:Addr} {w:World} {K:Int->Prop} {x:Int} (h:w.cell? a=some (.int k x)) (hK:K x):ldI k a w K:=⟨x,h,hK⟩
theorem xP {a:Addr} {w:World} {K:Bool->Prop} {x:Bool} (h:w.cell? a=some (.bool x)) (hK:K x):ldB a w K:=⟨x,h,hK⟩
theorem qn3 {a:Addr} {w:World} {K:ByteArray->Prop} {x:ByteArray} (h:w.cell? a=some (.string x)) (hK:K x):qry a w K:=⟨x,h,hK⟩
theorem qK {a:Addr} {w:World} {K:Option Addr->Prop} {x:Option Addr} (h:w.cell? a=some (.pointer x)) (hK:K x):ldP a w K:=⟨x,h,hK⟩
theorem lSl {a:Addr} {w:World} {K:Slc->Prop} {x:Slc} (h:w.cell? a=some (.slice x.a x.n x.c)) (hK:K x):jy a w K:=⟨x,h,hK⟩
theorem kM {a:Addr} {w:World} {K:Option Nat->Prop} {x:Option Nat} (h:w.cell? a=some (.map x)) (hK:K x):ldM a w K:=⟨x,h,hK⟩
theorem qx {r:Rep} {a:Addr} {w:World} {K:r.T->Prop} {x:r.T} (h:qy w a (r.cells x)) (hK:K x):ldS r a w K:=⟨x,h,hK⟩
theorem ko {t:TypeId} {zs vs:List Value} {w:World} {K:Addr->Ub} (hl:zs.length=vs.length)
  (hK:∀w',Blk w' w.heap.size t vs->Uc w w'->w'.heap.size=w.heap.size+1->K ⟨w.heap.size,0,none⟩ w'):nw t zs w λc w3=>stK c vs w3 λw4=>K c w4:=by
 refine nwb λw1 hb1 hB1 hs1=>?_;refine qw hb1 (by omega) λw2 hb2 hg2 hs2=>hK w2 ?_ ?_ (by omega)
 ·have e:putL zs 0 vs=vs:=by
   refine List.ext_getElem? λm=>?_;rw [Kg vs zs 0 m (by omega)];by_cases hm:m<vs.length
   ·rw [if_pos (by omega)];rfl
   ·rw [if_neg (by omega),List.getElem?_eq_none (by omega),List.getElem?_eq_none (by omega)]
  rw [e] at hb2;exact hb2
 ·exact hB1.grown hg2 (by omega) λk hk=>by cases hk;exact le_refl _
def mix {α:Type} (ys xs:List α) (k:Nat):List α:=ys.take k++xs.drop k
theorem zc9 {α:Type} (ys xs:List α):mix ys xs 0=xs:=by simp [mix]
theorem zef {α:Type} {ys xs:List α} (h:ys.length=xs.length):mix ys xs xs.length=ys:=by simp [mix,<-h]
theorem qf9 {α:Type} {ys xs:List α} (h:ys.length=xs.length) (k:Nat):(mix ys xs k).length=xs.length:=by simp [mix];omega
theorem q8f {α:Type} {ys xs:List α} (h:ys.length=xs.length) {k:Nat} (hk:k<xs.length) (i:Nat):(mix ys xs k)[i]?=if i<k then ys[i]? else xs[i]?:=by
 unfold mix;have hl:(ys.take k).length=k:=by simp;omega
 by_cases hi:i<k
 ·rw [List.getElem?_append_left (by omega),List.getElem?_take_of_lt hi,if_pos hi]
 ·rw [List.getElem?_append_right (by omega),hl,List.getElem?_drop,if_neg hi];congr 1;omega
theorem qz7 {α:Type} {ys xs:List α} (h:ys.length=xs.length) {k:Nat} (hk:k<xs.length) {y:α} (hy:ys[k]?=some y):(mix ys xs k).set k y=mix ys xs (k+1):=by
 unfold mix;have hl:(ys.take k).length=k:=by simp;omega
 have hy':ys[k]'(by omega)=y:=by
  rw [List.getElem?_eq_getElem (by omega)] at hy;exact Option.some.inj hy
 rw [List.set_append_right _ _ (by omega),hl,Nat.sub_self,List.drop_eq_getElem_cons hk,List.set_cons_zero,List.take_succ_eq_append_getElem (by omega),hy'];simp
theorem zdn {α:Type} {ys xs:List α} (h:ys.length=xs.length) {k:Nat} (hk:k<xs.length) (he:ys[k]?=xs[k]?):mix ys xs k=mix ys xs (k+1):=by
 have hy:ys[k]?=some (ys[k]'(by omega)):=List.getElem?_eq_getElem _;rw [<-qz7 h hk hy];refine (List.ext_getElem? λi=>?_);by_cases hi:i=k
 ·subst hi;rw [List.getElem?_set_self (by rw [qf9 h];exact hk),q8f h hk,if_neg (by omega),<-he,hy]
 ·rw [List.getElem?_set_ne (Ne.symm hi)]
structure Chg (S:Nat->Prop) (w w':World):Prop where
 os:w'.os=w.os
 tape:w'.tape=w.tape
 output:w'.output=w.output
 size:w.heap.size<=w'.heap.size
 block:∀k,k<w.heap.size->¬S k->w'.heap[k]?=w.heap[k]?
theorem Chg.refl (S:Nat->Prop) (w:World):Chg S w w:=⟨rfl,rfl,rfl,le_refl _,λ_ _ _=>rfl⟩
theorem Chg.trans {S S':Nat->Prop} {a b c:World} (h:Chg S a b) (k:Chg S' b c) (hs:∀i,i<a.heap.size->S' i->S i):Chg S a c :=
 ⟨k.os.trans h.os,k.tape.trans h.tape,k.output.trans h.output,Nat.le_trans h.size k.size,λi hi hn=>(k.block i (Nat.lt_of_lt_of_le hi h.size) (λe=>hn (hs i hi e))).trans (h.block i hi hn)⟩
theorem Chg.mono {S S':Nat->Prop} {a b:World} (h:Chg S a b) (hs:∀i,i<a.heap.size->S i->S' i):Chg S' a b :=
 ⟨h.os,h.tape,h.output,h.size,λi hi hn=>h.block i hi λe=>hn (hs i hi e)⟩
theorem Chg.below {S:Nat->Prop} {B:Nat} {a b:World} (h:Chg S a b) (hB:B<=a.heap.size) (hs:∀i,i<B->¬S i):Below B a b :=
 ⟨h.os,h.tape,h.output,h.size,λk hk=>h.block k (by omega) (hs k hk)⟩
theorem Chg.of_below {B:Nat} {a b:World} (h:Below B a b):Chg (λk=>B<=k) a b:=⟨h.os,h.tape,h.output,h.size,λk _ hn=>h.block k (by omega)⟩
theorem Chg.of_ext {S:Nat->Prop} {a b:World} (h:Uc a b):Chg S a b:=⟨h.os,h.tape,h.output,h.size,λk hk _=>h.block k hk⟩
theorem Chg.of_grown {S:Nat->Prop} {a b:World} {row:Option Nat} (h:a.grownBy b row) (hs:∀k,row=some k->S k):Chg S a b :=
 ⟨h.os,h.tape,h.output,h.size,λk hk hn=>h.block k hk λe=>hn (hs k e.symm)⟩
theorem Chg.ext {a b:World} {S:Nat->Prop} (h:Chg S a b) (hs:∀i,i<a.heap.size->¬S i):Uc a b:=⟨h.os,h.tape,h.output,h.size,λk hk=>h.block k hk (hs k hk)⟩
theorem Blk.chg {S:Nat->Prop} {w w':World} {g:Nat} {t:TypeId} {vs:List Value} (h:Blk w g t vs) (hc:Chg S w w') (hg:¬S g):Blk w' g t vs:=(hc.block g h.lt hg).trans h
theorem Own.chg {T:Type} {E:El T} {S:Nat->Prop} {w w':World} {base:Nat} {s:Slc} {xs:List T} (h:Own E w base s xs) (hc:Chg S w w') (hg:∀g,s.blk=some g->¬S g):Own E w' base s xs:=by
 rcases h.form with ⟨rfl,rfl⟩ | ⟨g,cur,hs,hb,hblk,h1,h2,h3,h4⟩
 ·exact Own.nil _ _ _
 ·rw [hs];exact Own.of_blk hb (hblk.chg hc (hg g (by rw [hs];rfl))) h1 h2 h3 h4
theorem Rd.chg {T:Type} {E:El T} {S:Nat->Prop} {w w':World} {s:Slc} {xs:List T} (h:Rd E w s xs) (hc:Chg S w w') (hg:∀a,s.a=some a->¬S a.block):Rd E w' s xs:=by
 refine ⟨h.n,h.nc,h.cm,h.some_,λi x hx=>?_⟩;have hi:i<xs.length:=(List.getElem?_eq_some_iff.1 hx).1;obtain ⟨a,ha⟩:=isSome_iff_exists.1 (h.some_ (by omega));have hcell:=h.at_ i x hx;intro j v hv;have hc1:=hcell j v hv;have hlt:=World.block_lt_of_cell? w _ hc1;rw [World.cell?_of_block (w:=w) (hc.block _ hlt (by simpa [Slc.at_,ha] using hg a ha))];exact hc1
theorem Own.blk_t {T:Type} {E:El T} {w:World} {base:Nat} {s:Slc} {xs:List T} (h:Own E w base s xs) {g:Nat} (hg:s.blk=some g):∃cs,Blk w g E.t cs:=by
 rcases h.form with ⟨rfl,rfl⟩ | ⟨g',cur,hs,hb,hblk,h1,h2,h3,h4⟩
 ·cases hg
 ·rw [hs] at hg;cases hg;exact ⟨_,hblk⟩
theorem Blk.ne_t {w:World} {g g':Nat} {t t':TypeId} {cs cs':List Value} (h:Blk w g t cs) (h':Blk w g' t' cs') (hne:t≠t'):g≠g':=by
 rintro rfl;unfold Blk at h h';rw [h] at h';injection h' with h'
 injection h' with _ ht
 exact hne ht
def u8 (x:Int):UInt8:=UInt8.ofNat x.toNat
theorem qtx {x:Int} (h0:0<=x) (h1:x<256):((u8 x).toNat:Int)=x:=by
 unfold u8;rw [UInt8.toNat_ofNat'];omega
theorem zdi (x:Int):IntKind.u8.wrap x=((u8 (x%256)).toNat:Int):=by
 rw [qtx (by omega) (by omega),IntKind.wrap_u8]
theorem qP {x:Int} (h:-9223372036854775808<=x/\x<=9223372036854775807):i64.wrap x=x:=by
 have:=IntWalk.i64_in x h;exact this
theorem yT {y d:Nat} {K:Nat->Prop} (h:K d):bnd none y d K:=h
theorem vj {i:Int} {y d:Nat} {K:Nat->Prop} (h0:0<=i) (h1:i<=y) (h:K i.toNat):bnd (some i) y d K:=⟨⟨h0,h1⟩,h⟩
theorem Rd.part {T:Type} {E:El T} {w:World} {s:Slc} {xs:List T} (h:Rd E w s xs) {l m:Nat} (hl:l<=m) (hm:m<=xs.length) :
  Rd E w ⟨cut s.a l s.c E.k,m-l,s.c-l⟩ ((xs.take m).drop l):=by
 have hn:=h.n;have hnc:=h.nc;have hcm:=h.cm;have hlen:((xs.take m).drop l).length=m-l:=by simp;omega
 refine ⟨hlen.symm,by show m-l<=s.c-l;omega,by show s.c-l<=maxLen;omega,λhp=>?_,λi x hx=>?_⟩
 ·rw [hlen] at hp;obtain ⟨a,ha⟩:=isSome_iff_exists.1 (h.some_ (by omega));show (cut s.a l s.c E.k).isSome=true;unfold cut;rw [ha];split<;>rfl
 ·have hi:i<m-l:=by rw [<-hlen];exact (List.getElem?_eq_some_iff.1 hx).1
  rw [List.getElem?_drop,List.getElem?_take_of_lt (by omega)] at hx;have hc:=h.at_ _ _ hx;obtain ⟨a,ha⟩:=isSome_iff_exists.1 (h.some_ (by omega));have e:(⟨cut s.a l s.c E.k,m-l,s.c-l⟩:Slc).at_ E.k i=s.at_ E.k (l+i):=by
   unfold Slc.at_ cut;rw [ha,if_neg (by omega)];simp only [Option.map_some,getD_some];rw [jR,add_mul]
  rw [e];exact hc
theorem Rd.slK {T:Type} {E:El T} {w:World} {s:Slc} {xs:List T} (h:Rd E w s xs) {lo hi:Option Int} {k:Nat} (hk:k=E.k) {l m:Nat} {K:Slc->Prop} (hlo:lo=none/\l=0\/lo=some (l:Int)) (hhi:hi=none/\m=xs.length\/hi=some (m:Int))
  (hl:l<=m) (hm:m<=xs.length) (hK:Rd E w ⟨cut s.a l s.c E.k,m-l,s.c-l⟩ ((xs.take m).drop l)->K ⟨cut s.a l s.c E.k,m-l,s.c-l⟩):slK s lo hi k K:=by
 subst hk;have hn:=h.n;have hnc:=h.nc;have key:K ⟨cut s.a l s.c E.k,m-l,s.c-l⟩:=hK (h.part hl hm);unfold Vc.slK;have inner:bnd lo m 0 λl'=>K ⟨cut s.a l' s.c E.k,m-l',s.c-l'⟩:=by
  rcases hlo with ⟨rfl,rfl⟩ | rfl
  ·exact yT key
  ·exact vj (by omega) (by omega) (by simpa using key)
 rcases hhi with ⟨rfl,rfl⟩ | rfl
 ·refine yT ?_;rw [hn];exact inner
 ·exact vj (by omega) (by omega) (by simpa using inner)
theorem qr9 {P:Program} {T:Type} {E:El T} {st it:TypeId} {kk:IntKind} (TT:SlT P E st) (ty:TypeId) (hit:P.underlying it=some (.int kk)) (w:World) (n:Nat) (h0:0<n) (h63:n<=maxLen) (h48:n*TT.i.bytes<=140737488355328) :
  (append_ #[st,it] ty #[.slice none 0 0,.int .i64 n]).run P w =
   .ok (.slice (some ⟨w.heap.size,0,none⟩) n (grownCap w n 0 E.t)) (w.drew.alloc (.cells (Builtin.zeroCells TT.z.cells n++Builtin.zeroCells TT.z.cells (grownCap w n 0 E.t-n)) E.t)):=by
 have hn:n≠0:=by omega
 have hw:i64.wrap (n:Int)=n:=qP (by simp only [maxLen] at h63;omega);have hb:¬(281474976710656<(n:Int)*(TT.i.bytes:Int)):=by
  rw [show (n:Int)*(TT.i.bytes:Int)=((n*TT.i.bytes:Nat):Int) by simp];omega
 have h63':¬(9223372036854775807<(n:Int)):=by simp only [maxLen] at h63;omega
 have h48':¬(281474976710656<Builtin.nextslicecap n 0*TT.i.bytes):=by rw [nextslicecap_zero h0];omega
 have hk:=E.pos;have hs:¬(TT.i.size=0):=by rw [TT.hs];omega
 have hneg:¬((n:Int)<0):=by omega
 have hai:(asIntOf (Ua (n:Int))).run P w=.ok (.i64,(n:Int)) w:=rfl;simp [append_,run_underlying TT.ht,run_underlying hit,sizeOf,typeInfo,zeroValue,TT.hi,TT.hz,asInt,hai,hw,hb,hn,h63',h48',hneg,Question.forced,run_firstCells_none,newRow,grownCap];intro e;have:0<n*TT.i.size:=Nat.mul_pos h0 (by omega);omega
theorem qys {P:Program} {T:Type} {E:El T} {st it:TypeId} {kk:IntKind} (TT:SlT P E st) {ty:TypeId} (hit:P.underlying it=some (.int kk)) {w:World} {n:Nat} {m:Int} {K:Slc->Ub} (hm:m=n) (h0:0<n) (h63:n<=maxLen) (h48:n*TT.i.bytes<=140737488355328)
  (hK:∀cap w',n<=cap->cap<=maxLen->Own E w' w.heap.size ⟨some ⟨w.heap.size,0,none⟩,0,cap⟩ []->Uc w w'->K ⟨some ⟨w.heap.size,0,none⟩,n,cap⟩ w'):apM P #[st,it] ty ⟨none,0,0⟩ m .i64 w K:=by
 subst hm;refine ⟨⟨some ⟨w.heap.size,0,none⟩,n,grownCap w n 0 E.t⟩,_,qr9 TT ty hit w n h0 h63 h48,hK _ _ (grownCap_ge w n 0 E.t) (grownCap_le_maxLen w n 0 E.t h63) ?_ ?_⟩
 ·have hge:=grownCap_ge w n 0 E.t;generalize hA:Builtin.zeroCells TT.z.cells n++Builtin.zeroCells TT.z.cells (grownCap w n 0 E.t-n)=A;have hsz:A.size=grownCap w n 0 E.t*E.k:=by
   rw [<-hA];simp only [Array.size_append,size_zeroCells,TT.hzs,<-add_mul];congr 1;omega
  refine Own.of_blk (E:=E) (xs:=[]) (cur:=A.toList) (le_refl _) ?_ (Nat.zero_le _) (grownCap_le_maxLen w n 0 E.t h63) ?_ (by simp [Zd])
  ·have:=Blk.new w.drew E.t A.toList
   rwa [Array.toArray_toList] at this
  ·rw [Array.length_toList];exact hsz
 ·exact (Below.refl _ w).drew.alloc (le_refl _) _
end Go.Vc
namespace Go.Vc
open Go.ChangeShapes Go.WideShapes Go.ChangeAt Go.RowKit Go.Deep
inductive Leaf where
 | int (k:IntKind)
 | bool
 | str
def Leaf.ok:Leaf->Value->Prop
 | .int k,v=>∃z,v=.int k z/\(Lit.int k z).wf=true
 | .bool,v=>∃b,v=.bool b
 | .str,v=>∃s,v=.string s
def goF (P:Program) (g:TypeId->Option (List Leaf)):List Field->Nat->Option (List Leaf)
 | [],_=>some []
 | f::r,off =>
  match g f.type with
  | some ls=>if f.offset=off/\P.cellsOf f.type=ls.length then (goF P g r (off+ls.length)).map (ls++·) else none
  | none=>none
def qod (P:Program):Nat->TypeId->Option (List Leaf)
 | 0,_=>none
 | n+1,t =>
  match P.underlying t with
  | some (.int k)=>some [.int k]
  | some .bool=>some [.bool]
  | some .string=>some [.str]
  | some (.struct fs)=>goF P (qod P n) fs.toList 0
  | _=>none
def qpi (ls:List Leaf) (cs:List Value):Prop:=∀(j:Nat) l,ls[j]?=some l->∃v,cs[j]?=some v/\l.ok v
theorem q3n {P:Program} {g:TypeId->Option (List Leaf)} {cs:List Value}:∀(fs:List Field) (off:Nat) (ls:List Leaf),goF P g fs off=some ls ->
  (∀f∈fs,∀lf,g f.type=some lf->P.cellsOf f.type=lf.length->qpi lf ((cs.drop f.offset).take (P.cellsOf f.type)))->∀(j:Nat) l,ls[j]?=some l->∃v,cs[off+j]?=some v/\l.ok v
 | [],_,ls,h,_,j,l,hl=>by
  simp only [goF,Option.some.injEq] at h;subst h;simp at hl
 | f::r,off,ls,h,hf,j,l,hl=>by
  unfold goF at h;split at h
  ·rename_i lf hg;split at h
   ·rename_i hc;obtain ⟨rest,hr,e⟩:=Option.map_eq_some_iff.1 h;subst e;rcases Nat.lt_or_ge j lf.length with hj | hj
    ·rw [List.getElem?_append_left hj] at hl;obtain ⟨v,hv,ok⟩:=hf f (by simp) lf hg hc.2 j l hl;rw [hc.2,List.getElem?_take_of_lt hj,List.getElem?_drop,hc.1] at hv;exact ⟨v,hv,ok⟩
    ·rw [List.getElem?_append_right hj] at hl;obtain ⟨v,hv,ok⟩:=q3n r (off+lf.length) rest hr (λf' hf'=>hf f' (by simp [hf'])) _ l hl;exact ⟨v,by rw [<-hv];congr 1;omega,ok⟩
   ·cases h
  ·cases h
section
variable {H:Type} {enc:TypeId×Value->H} {P:Program} {w:World} {base:Nat} {spare:Nat->Bool} {held:Bool}
theorem qxn:∀(n:Nat) {t:TypeId} {ls:List Leaf} {fuel:Nat} {cs:List Value} {x:DataW H×List MemPlace},qod P n t=some ls->DataW.trod enc P w base spare held fuel t cs=some x->qpi ls cs
 | 0,_,_,_,_,_,h,_=>by cases h
 | n+1,t,ls,fuel,cs,x,h,ht=>by
  unfold qod at h;split at h
  ·next k hu =>
   cases h;obtain ⟨z,rfl,_,hw⟩:=DataW.trod_int hu ht;intro j l hl
   match j,hl with
   | 0,hl=>cases hl;exact ⟨_,rfl,z,rfl,hw⟩
   | j+1,hl=>cases hl
  ·next hu =>
   cases h;obtain ⟨z,rfl,_⟩:=DataW.trod_bool hu ht;intro j l hl
   match j,hl with
   | 0,hl=>cases hl;exact ⟨_,rfl,z,rfl⟩
   | j+1,hl=>cases hl
  ·next hu =>
   cases h;obtain ⟨z,rfl,_⟩:=DataW.trod_string hu ht;intro j l hl
   match j,hl with
   | 0,hl=>cases hl;exact ⟨_,rfl,z,rfl⟩
   | j+1,hl=>cases hl
  ·next fs hu =>
   obtain ⟨xs,m,_,_,_,hxl,hf⟩:=DataW.trod_struct hu ht;intro j l hl;have:=q3n (cs:=cs) fs.toList 0 ls h (λf hfm lf hg _=>by
    obtain ⟨i,hi⟩:=List.getElem?_of_mem hfm;rw [Array.getElem?_toList] at hi;have h1:=hf i f hi;have hil:i<xs.length:=by rw [hxl];exact (Array.getElem?_eq_some_iff.1 hi).1
    rw [List.getElem?_eq_getElem hil] at h1;exact qxn n hg h1) j l hl
   simpa using this
  ·cases h
theorem qq3 {T:Type} {Q:Nat->T->Prop}:∀n:Nat,(∀i,i<n->∃x,Q i x)->∃xs:List T,xs.length=n/\∀(i:Nat) x,xs[i]?=some x->Q i x
 | 0,_=>⟨[],rfl,λi x h=>by simp at h⟩
 | n+1,h=>by
  obtain ⟨xs,hl,hx⟩:=qq3 n λi hi=>h i (by omega);obtain ⟨y,hy⟩:=h n (by omega);refine ⟨xs++[y],by simp [hl],λi x hi=>?_⟩;rcases Nat.lt_or_ge i n with h' | h'
  ·rw [List.getElem?_append_left (by omega)] at hi;exact hx i x hi
  ·rw [List.getElem?_append_right (by omega),hl] at hi;have:i-n=0:=by
    rcases Nat.eq_zero_or_pos (i-n) with e | e
    ·exact e
    ·rw [List.getElem?_eq_none (by simp;omega)] at hi;cases hi
   rw [this] at hi;cases hi;have:i=n:=by omega
   subst this;exact hy
theorem q5m {T:Type} (E:El T) (Q:T->Prop) {r:Reach} {b0 n:Nat} {t e:TypeId} {ls:List Leaf} {v:Value} {d:DataW H} {p:List MemPlace} (ht:P.underlying t=some (.slice e)) (hC:P.cellsOf e=E.k) (hls:qod P n e=some ls)
  (mk:∀vs:List Value,vs.length=E.k->qpi ls vs->∃x:T,E.cells x=vs/\Q x) (hv:Value.okWide P w r b0 t v) (h:DataW.Trod enc P w base (λ_=>true) held t v d p):∃(s:Slc) (xs:List T),v=.slice s.a s.n s.c/\Rd E w s xs/\∀x∈xs,Q x:=by
 obtain ⟨a0,n0,c0,rfl⟩:=okWide_slice ht hv;obtain ⟨fuel,hf⟩:=h;rcases open_slice ht hf with ⟨hcs,_⟩ | ⟨a,len,cap,m,n',D,Pl,hcs,hb,hl,hm,hmm,hx,hi⟩
 ·simp [Value.cells] at hcs;obtain ⟨rfl,rfl,rfl⟩:=hcs;exact ⟨⟨none,0,0⟩,[],rfl,Rd.nil E w,λx hx=>by cases hx⟩
 ·simp [Value.cells] at hcs;obtain ⟨rfl,rfl,rfl⟩:=hcs;rw [if_pos rfl] at hmm;have:∀i,i<n0->∃x:T,qy w (a.add (i*E.k)) (E.cells x)/\Q x:=by
   intro i hil;obtain ⟨cs',hc,ht'⟩:=hi i (by omega);rw [hC] at hc;obtain ⟨_,hcl,hat⟩:=World.cells?_some hc;obtain ⟨x,hx,hq⟩:=mk cs' hcl (qxn n hls ht');refine ⟨x,λj u hu=>?_,hq⟩;rw [hx] at hu;have hj:j<E.k:=by rw [<-hcl];exact (List.getElem?_eq_some_iff.1 hu).1
   rw [hat j hj,hu]
  obtain ⟨xs,hxl,hxs⟩:=qq3 n0 this;refine ⟨⟨some a,n0,c0⟩,xs,rfl,⟨hxl.symm,hl,hm,λ_=>rfl,λi x hx=>(hxs i x hx).1⟩,λx hx=>?_⟩;obtain ⟨i,hi⟩:=List.getElem?_of_mem hx;exact (hxs i x hi).2
end
theorem ql0 {H:Type} {enc:TypeId×Value->H} {P:Program} (hl:laidOutB P=true) {W W':World} (hb:Uc W W'):∀(ts:List TypeId) {vs:List Value} {ds:List (DataW H)} {ps:List MemPlace},
  ts.all (λt=>P.readableRec t && decide (t<P.types.size))=true->DataW.TrodAll enc P W 0 (λ_=>true) true ts vs ds ps->(∀x∈ps,x.block<W.heap.size)->DataW.TrodAll enc P W' 0 (λb=>decide (b<W.heap.size)) true ts vs ds ps
 | [],vs,ds,ps,_,h,_=>by
  obtain ⟨rfl,rfl,rfl⟩:=trodAll_nil h;exact trodAll_mk0
 | t::ts,vs,ds,ps,hr,h,hlt=>by
  obtain ⟨v,vs',d,ds',p,q,rfl,rfl,rfl,h0,h1⟩:=trodAll_cons h;simp only [List.all_cons,Bool.and_eq_true,decide_eq_true_eq] at hr;exact trodAll_cons_mk (Below.trod hl hr.1.1 hr.1.2 h0 hb λx hx=>hlt x (List.mem_append.2 (.inl hx))) (ql0 hl hb ts (by simpa using hr.2) h1 λx hx=>hlt x (List.mem_append.2 (.inr hx)))
theorem zcx {H:Type} {enc:TypeId×Value->H} {P:Program} {f:Func} {s:ChangeSpec} {W W':World} {args:Array Value} {ds gs:List (DataW H)} {before:List MemPlace} {tb:TypeId} (hl:laidOutB P=true) (hrt:f.resultTypes=#[tb]) (htb:P.underlying tb=some .bool)
  (hr:f.params.toList.all (λt=>P.readableRec t && decide (t<P.types.size))=true) (hv:s.vars=[]) (hfn:s.fn H (ds++[])={ results:=[.lit (.bool true)],args:=ds }) (hW:DataW.Whole enc P f.params.toList s.vars false W args.toList ds gs before)
  (hb:Uc W W'):s.post enc P f false true false false W args (.bool true) W':=by
 have hW':=hW;have hlt:=hW.lt;obtain ⟨p,q,hA0,hV,rfl,hfz,hnd⟩:=hW;rw [hv] at hV;obtain ⟨rfl,rfl⟩:=trodVars_none hV;refine ⟨ds,[],p++[],[],p,[],hW',?_,?_,?_,hb.frame _,λh=>by cases h⟩
 ·rw [hrt,hfn];exact trodAll_mk1 (shut_bool htb _)
 ·rw [hfn];exact ql0 hl hb _ hr hA0 λx hx=>hlt x (by simpa using hx)
 ·rw [hfn,hv];exact rfl
end Go.Vc
namespace Go.Vc
open Go.RowKit
open _root_.Nat (le_refl)
theorem get_of {α:Type} {xs:List α} {k:Nat} (hk:k<xs.length):∃x,xs[k]?=some x/\∀h,xs[((k:Int)).toNat]'h=x:=⟨xs[k],List.getElem?_eq_getElem hk,λ_=>rfl⟩
theorem cut_block {x:Option Addr} {l m k:Nat} {a:Addr} (h:cut x l m k=some a):∃b,x=some b/\a.block=b.block:=by
 unfold cut at h;split at h
 ·exact ⟨a,h,rfl⟩
 ·obtain ⟨b,hb,rfl⟩:=Option.map_eq_some_iff.1 h;exact ⟨b,hb,by simp⟩
theorem slk {s:Slc} {k:Nat}:s.blk=some k↔∃a,s.a=some a/\a.block=k:=by
 unfold Slc.blk;rw [Option.map_eq_some_iff]
theorem callR_plain {C:Cx} {g:Nat} {first cap:Array Value} {args:List Value} {ks:List Kind} {w:World} {K:Cur ks} (hp:C.plain g=true) (h:qj C.P g (first.toList++args++cap.toList) ks w K) :
  jl C (.func (.func g) first cap) args ks w K:=by
 unfold jl qks;simp only [hp];exact h
theorem rd_lits {T:Type} {E:El T} {w:World} {g:Nat} {ys:List T} {vs:List Value} (hb:Blk w g E.t vs) (hm:ys.length<=maxLen) (hy:Zd E ys=vs):Rd E w ⟨some ⟨g,0,none⟩,ys.length,ys.length⟩ ys :=
 (Own.of_blk (E:=E) (xs:=ys) (c:=ys.length) (base:=g) (le_refl _) hb (le_refl _) hm (by rw [<-hy,k5]) (by rw [<-hy,List.take_of_length_le (by rw [k5];exact le_refl _)])).rd
theorem Chg.gg {w1 w2:World} {k:Nat} (h:w1.grownBy w2 (some k)):Chg (λi=>i=k) w1 w2:=Chg.of_grown h λi hi=>by cases hi;rfl
theorem Rd.slK3 {T:Type} {E:El T} {w:World} {s:Slc} {xs:List T} (h:Rd E w s xs) {lo:Option Int} {hi mx:Int} {k:Nat} (hk:k=E.k) {l m:Nat} {K:Slc->Prop} (hlo:lo=none/\l=0\/lo=some (l:Int)) (hhi:hi=(m:Int)) (hmx:mx=(m:Int))
  (hl:l<=m) (hm:m<=xs.length) (hK:Rd E w ⟨cut s.a l m E.k,m-l,m-l⟩ ((xs.take m).drop l)->K ⟨cut s.a l m E.k,m-l,m-l⟩):slK3 s lo hi mx k K:=by
 subst hk hhi hmx;have hn:=h.n;have hnc:=h.nc;have hcm:=h.cm;have hlen:((xs.take m).drop l).length=m-l:=by simp;omega
 have key:Rd E w ⟨cut s.a l m E.k,m-l,m-l⟩ ((xs.take m).drop l):=by
  refine ⟨hlen.symm,le_refl _,by show m-l<=maxLen;omega,λhp=>?_,λi x hx=>?_⟩
  ·rw [hlen] at hp;obtain ⟨a,ha⟩:=Option.isSome_iff_exists.1 (h.some_ (by omega));show (cut s.a l m E.k).isSome=true;unfold cut;rw [ha];split<;>rfl
  ·have hi:i<m-l:=by rw [<-hlen];exact (List.getElem?_eq_some_iff.1 hx).1
   rw [List.getElem?_drop,List.getElem?_take_of_lt (by omega)] at hx;have hc:=h.at_ _ _ hx;obtain ⟨a,ha⟩:=Option.isSome_iff_exists.1 (h.some_ (by omega));have e:(⟨cut s.a l m E.k,m-l,m-l⟩:Slc).at_ E.k i=s.at_ E.k (l+i):=by
    unfold Slc.at_ cut;rw [ha,if_neg (by omega)];simp only [Option.map_some,Option.getD_some];rw [jR,Nat.add_mul]
   rw [e];exact hc
 unfold Vc.slK3;refine vj (by omega) (by omega) ?_;refine vj (by omega) (by simp) ?_;have hk':=hK key;rcases hlo with ⟨rfl,rfl⟩ | rfl
 ·exact yT (by simpa using hk')
 ·exact vj (by omega) (by simp;omega) (by simpa using hk')
theorem qm0 {T:Type} (E:El T) (x:T) (n m:Nat) (hm:m<n*E.k):(Zd E (List.replicate n x))[m]?=(E.cells x)[m%E.k]?:=by
 have hq:m/E.k<n:=(Nat.div_lt_iff_lt_mul E.pos).2 hm;have hr:m%E.k<E.k:=Nat.mod_lt _ E.pos;have e:m/E.k*E.k+m%E.k=m:=by rw [Nat.mul_comm];exact Nat.div_add_mod m E.k
 have hv:(E.cells x)[m%E.k]?=some ((E.cells x)[m%E.k]'(by rw [E.len];exact hr)):=List.getElem?_eq_getElem _;have:=qn2 E (List.replicate n x) (m/E.k) x (m%E.k) _ (by rw [List.getElem?_replicate,if_pos hq]) hv;rw [e] at this;rw [this,hv]
theorem qz5 {P:Program} {T:Type} {E:El T} {st:TypeId} (TT:SlT P E st) {x0:T} (hz:(E.cells x0).toArray=TT.z.cells) {kl kc:IntKind} {l c:Int} {n:Nat} (hl:l=n) (hc:c=n) (hb:TT.i.bytes*n<=281474976710656) (hm:n<=maxLen) {w:World} {K:Slc->Ub}
  (hK:∀w',Own E w' w.heap.size ⟨some ⟨w.heap.size,0,none⟩,n,n⟩ (List.replicate n x0)->Uc w w'->K ⟨some ⟨w.heap.size,0,none⟩,n,n⟩ w'):qwx P st (.int kl l) (.int kc c) w K:=by
 subst hl hc;obtain ⟨w',h1,h2,h3⟩:=run_make_full (P:=P) w w.heap.size st E.t TT.i TT.z E.k TT.ht TT.hi TT.hz TT.hs kl kc n hb hm (le_refl _);refine ⟨_,w',h1,hK w' ?_ ⟨h3.os,h3.tape,h3.output,h3.size,λk hk=>h3.block k hk (by simp)⟩⟩;unfold Own;rw [List.length_replicate];have e:Zd E (List.replicate n x0)=(madeCells TT.z.cells (n*E.k)).toList:=by
  refine List.ext_getElem? λm=>?_;by_cases hmm:m<n*E.k
  ·rw [qm0 E x0 n m hmm];have hsz:TT.z.cells.size=E.k:=TT.hzs;have hr:m%E.k<E.k:=Nat.mod_lt _ E.pos;have h2:(E.cells x0)[m%E.k]?=TT.z.cells[m%E.k]?:=by rw [<-hz];simp
   rw [h2,Array.getElem?_toList];simp [madeCells,hmm,hsz,hr]
  ·rw [List.getElem?_eq_none (by rw [k5,List.length_replicate];omega),List.getElem?_eq_none (by simp [size_madeCells];omega)]
 rw [e];exact h2
theorem qkt (n x:Nat):BitVec.ofInt n (x:Int)=BitVec.ofNat n x:=by
 apply BitVec.eq_of_toNat_eq;simp
def q34:IntKind->Nat
 | .i8=>7 | .i16=>15 | .i32=>31 | .i64=>63 | .u8=>8 | .u16=>16 | .u32=>32 | .u64=>64
theorem jE (k:IntKind) {x:Nat} (h:x<2^q34 k):k.wrap (x:Int)=x:=by
 cases k<;>simp only [q34] at h
 ·exact IntWalk.i8_in _ (by omega)
 ·exact IntWalk.i16_in _ (by omega)
 ·exact IntWalk.i32_in _ (by omega)
 ·exact IntWalk.i64_in _ (by omega)
 ·exact IntWalk.u8_in _ (by omega)
 ·exact IntWalk.u16_in _ (by omega)
 ·exact IntWalk.u32_in _ (by omega)
 ·exact IntWalk.u64_in _ (by omega)
theorem zes (k:IntKind):q34 k<=k.bits:=by cases k<;>decide
theorem qoz (k:IntKind) {x:Nat} (h:x<2^q34 k):x%2^k.bits=x:=Nat.mod_eq_of_lt (Nat.lt_of_lt_of_le h (Nat.pow_le_pow_right (by decide) (zes k)))
theorem qzn (k:IntKind) {a b:Nat} (ha:a<2^q34 k) (hb:b<2^q34 k):jX .or k (a:Int) (b:Int)=((a ||| b:Nat):Int):=by
 show k.wrap ((BitVec.ofInt k.bits (a:Int) ||| BitVec.ofInt k.bits (b:Int)).toNat:Int)=_;rw [qkt,qkt,BitVec.toNat_or,BitVec.toNat_ofNat,BitVec.toNat_ofNat,qoz k ha,qoz k hb];exact jE k (Nat.or_lt_two_pow ha hb)
theorem q0o (k:IntKind) {a b:Nat} (ha:a<2^q34 k) (hb:b<2^q34 k):jX .and k (a:Int) (b:Int)=((a &&& b:Nat):Int):=by
 show k.wrap ((BitVec.ofInt k.bits (a:Int) &&& BitVec.ofInt k.bits (b:Int)).toNat:Int)=_;rw [qkt,qkt,BitVec.toNat_and,BitVec.toNat_ofNat,BitVec.toNat_ofNat,qoz k ha,qoz k hb];exact jE k (Nat.and_lt_two_pow _ hb)
theorem qtw (a k:Nat):(a:Int).fdiv (2^k)=((a/2^k:Nat):Int):=by
 have e:((2:Int)^k)=((2^k:Nat):Int):=by simp
 rw [e,Int.fdiv_eq_ediv_of_nonneg _ (Int.natCast_nonneg _)];rfl
theorem qi3 (a k:Nat):(a:Int)*2^k=((a*2^k:Nat):Int):=by simp
theorem zg8 {a b i:Nat} (h:b<2^i):b ||| 2^i*a=b+2^i*a:=by
 rw [Nat.or_comm,<-Nat.two_pow_add_eq_or_of_lt h,Nat.add_comm]
def le:List UInt8->Nat
 | []=>0
 | b::r=>b.toNat+256*le r
theorem zg6 {w:World} {a:Addr} {b:UInt8} {K:Int->Prop} (h:qy w a [.int .u8 (b.toNat:Int)]) (hK:K (b.toNat:Int)):ldI .u8 a w K:=lI (x:=(b.toNat:Int)) (by simpa using h 0 _ rfl) hK
end Go.Vc
set_option maxRecDepth 100000
namespace Go.Proofs.YtokfefnmpjohpaaGreatDoor
open Go.Vc Go.RowKit
open IntKind (i64)
def zw:El Int:={ cells:=λx=>[(Ua x)],t:=zd,k:=1 }
noncomputable def zR:SlT PG zw qU:={ z:=(Ua 0) }
theorem ZL:zR.i.bytes=8:=by kernel_rfl
def qm:El UInt8:={ cells:=λb=>[.int .u8 b.toNat],t:=qN,k:=1 }
noncomputable def zc:SlT PG qm qg:={ z:=(.int .u8 0) }
theorem xL:zc.i.bytes=1:=by kernel_rfl
def qY:El qf:={ cells:=qf.rep.cells,t:=qA,k:=14 }
noncomputable def jO:SlT PG qY zf:={ z:=(.agg #[(Ua 0),(Ua 0),(.bool false),(Ua 0),(Ua 0),(Ua 0),(Ua 0),(Ua 0),(Ua 0),(Ua 0),(Ua 0),(Ua 0),(Ua 0),(Ua 0)]) }
theorem JH:jO.i.bytes=112:=by kernel_rfl
def q2f:El Slc:={ cells:=λx=>[(.slice x.a x.n x.c)],t:=zk,k:=1 }
noncomputable def za8:SlT PG q2f qR:={ z:=(.slice none 0 0) }
def zgh:El qW:={ cells:=qW.rep.cells,t:=qT,k:=5 }
def qmf:El zX:={ cells:=zX.rep.cells,t:=qke,k:=5 }
def qzy:El Int:={ cells:=λx=>[(.int .i32 x)],t:=vS,k:=1 }
def xS:El ByteArray:={ cells:=λx=>[(.string x)],t:=zo,k:=1 }
noncomputable def qgn:SlT PG xS kE:={ z:=(.string (⟨#[]⟩:ByteArray)) }
theorem qn1:qgn.i.bytes=16:=by kernel_rfl
def vy:El Slc:={ cells:=λx=>[(.slice x.a x.n x.c)],t:=qg,k:=1 }
noncomputable def qkj:SlT PG vy JG:={ z:=(.slice none 0 0) }
theorem qtp:qkj.i.bytes=24:=by kernel_rfl
theorem apB {w:World} {b:Nat} {s x:Slc} {xs ys:List UInt8} {K:Slc->Ub} (hown:Go.Vc.Own qm w b s xs) (hx:Rd qm w x ys) (hb:b<=w.heap.size) (hl:xs.length+ys.length<=1000000000000)
  (hK:∀r w',Go.Vc.Own qm w' b r (xs++ys)->Chg (λk=>s.blk=some k) w w'->(r.blk=s.blk\/r.blk=some w.heap.size)->K r w'):apK PG #[qg,qg] qg s x w K :=
 jx zc hown hx hb (by rw [xL];omega) (by simp only [maxLen];omega) λr w' h1 h2 h3=>hK r w' h1 (Chg.of_grown h2 λk hk=>hk) h3
theorem zfn {w:World} {b:Nat} {s:Slc} {xs:List UInt8} {c:UInt8} {v:Int} {K:Slc->Ub} (hv:v=(c.toNat:Int)) (hown:Go.Vc.Own qm w b s xs) (hb:b<=w.heap.size) (hl:xs.length<=900000000000)
  (hK:∀r w',Go.Vc.Own qm w' b r (xs++[c])->Chg (λk=>s.blk=some k) w w'->(r.blk=s.blk\/∃k,r.blk=some k/\w.heap.size<=k)->K r w') :
  nw qN [(.int .u8 v)] w λt w1=>apK PG #[qg,qg] qg s (⟨(some t),1,1⟩:Slc) w1 K:=by
 subst hv;refine nwb λw1 hb1 hB1 hs1=>?_;have hr:Rd qm w1 ⟨some ⟨w.heap.size,0,none⟩,1,1⟩ [c]:=yg (E:=qm) hb1 rfl;refine apB (hown.ext hB1) hr (by omega) (by simp;omega) λr w2 ho hc hq=>hK r w2 ho ((Chg.of_ext (S:=λk=>s.blk=some k) hB1).trans hc λi _ hi=>hi) ?_;rcases hq with e | e
 ·exact .inl e
 ·exact .inr ⟨_,e,by omega⟩
theorem qa5 {s:Slc} {xs:List UInt8} {w:World} {K:Slc->Ub} (h:Rd qm w s xs) (hl:xs.length<=900000000000)
  (hK:∀r w',Go.Vc.Own qm w' w.heap.size r xs->Uc w w'->K r w'):zN s w K:=by
 refine Yl _ ?_;cases ha:s.a with
 | none =>
  have:=h.none_nil ha;subst this;exact cT rfl (hK _ _ (Go.Vc.Own.nil _ _ _) (Below.refl _ _))
 | some a =>
  refine cF rfl ?_;refine nwb λw1 hb1 hB1 hs1=>?_;refine apB (Yp (E:=qm) hb1 (Nat.le_refl _)) (h.ext hB1) (by omega) (by simp;omega) λr w2 ho hc hq=>?_;rw [List.nil_append] at ho;exact hK r w2 ho (hB1.trans (hc.below (by omega) λi hi hs=>by have e:w.heap.size=i:=Option.some.inj hs;omega))
theorem q9c {n:Int} {w:World} {K:Slc->Ub} (h0:0<=n) (hn:n<=900000000000) (hK:∀r w',Go.Vc.Own qm w' w.heap.size r []->Uc w w'->K r w'):vq (⟨none,0,0⟩:Slc) n w K:=by
 refine YA _ _ ?_;refine jpO λJ hJ=>?_;refine cF (by simpa using h0) (hJ _ _ ?_);have hw:i64.wrap (n-(i64.wrap (((0:Nat):Int)-((0:Nat):Int))))=n:=by
  rw [qP (x:=((0:Nat):Int)-((0:Nat):Int)) (by omega),qP (by omega)];omega
 simp only [hw];refine cO (λh=>?_) (λh=>?_)
 ·have h:=oTq h;refine vj (by omega) (by omega) (yT ?_);refine qys zc (kk:=.i64) (by kernel_rfl) (n:=n.toNat) (by omega) (by omega) (by simp only [maxLen];omega) (by rw [xL];omega) λcap w' h1 h2 ho hB=>?_;refine vj (by omega) (by simp) (yT ?_);have e:cut (some ⟨w.heap.size,0,none⟩) 0 cap 1=some ⟨w.heap.size,0,none⟩:=by
   unfold cut;split
   ·rfl
   ·simp
  show K ⟨cut (some ⟨w.heap.size,0,none⟩) 0 cap 1,0,cap⟩ w';rw [e];exact hK _ _ ho hB
 ·exact hK _ _ (Go.Vc.Own.nil _ _ _) (Below.refl _ _)
def zgp:El Slc where
 cells s:=[.slice s.a s.n s.c]
 t:=qg
 k:=1
 pos:=by decide
 len _:=rfl
 one x v hv:=by
  simp only [List.mem_cons,List.mem_nil_iff,or_false] at hv;rcases hv with rfl
  rfl
def zg0 (w:World) (ss:List Slc) (xss:List (List UInt8)):Prop:=ss.length=xss.length/\∀(i:Nat) s xs,ss[i]?=some s->xss[i]?=some xs->Rd qm w s xs
theorem qz0 (xss:List (List UInt8)) (k:Nat):(xss.take k).flatten.length<=xss.flatten.length:=by
 conv=>rhs;rw [<-List.take_append_drop k xss]
 rw [List.flatten_append,List.length_append];omega
theorem ql4 {xss:List (List UInt8)} {k:Nat} {xs:List UInt8} (h:xss[k]?=some xs):(xss.take (k+1)).flatten=(xss.take k).flatten++xs:=by
 rw [List.take_add_one,h];simp
theorem qoq {p:Slc} {ss:List Slc} {xss:List (List UInt8)} {w:World} {K:Slc->Ub} (hp:Rd zgp w p ss) (hss:zg0 w ss xss) (hl:xss.flatten.length<=900000000000) (hn:ss.length<=1000000)
  (hK:∀r w',Go.Vc.Own qm w' w.heap.size r xss.flatten->Uc w w'->K r w'):jY p w K:=by
 refine Vs _ ?_;have hpn:=hp.n;obtain ⟨hsl,hss⟩:=hss;refine lpR (λ(s:Int×Int×Unit) w2=>∃k:Nat,s.2.1=k/\k<=ss.length/\s.1=((xss.take k).flatten.length:Nat)/\w2=w) (λs=>ss.length-s.2.1.toNat) ⟨0,rfl,by omega,rfl,rfl⟩ ?_;rintro ⟨t,i,_⟩ w2 ⟨k,rfl,hk,rfl,rfl⟩ I hI;dsimp only at *;have hle:=qz0 xss;refine cO (λhlt=>?_) (λhge=>?_)
 ·have hlt:=oTq hlt;rw [hpn] at hlt;have hkl:k<ss.length:=by omega
  have hx:ss[k]?=some ss[k]:=List.getElem?_eq_getElem hkl;have hy:xss[k]?=some (xss[k]'(by omega)):=List.getElem?_eq_getElem _;refine hp.ix rfl (by omega) (by omega) λhc=>?_;refine lSl (x:=ss[k]) (by simpa using hc 0 _ rfl) ?_;have hr:=hss k _ _ hx hy;have hrn:=hr.n;have hf:=ql4 hy;have h1:=hle (k+1);rw [hf,List.length_append] at h1;rw [hrn,qP (by omega)];refine cF (by simp;omega) ?_;rw [qP (by omega)];exact hI _ _ ⟨k+1,by simp,by omega,by rw [hf];simp,rfl⟩ (by simp;omega)
 ·have hge:=oFq hge;rw [hpn] at hge;have:k=ss.length:=by omega
  subst this;have h1:=hle ss.length;refine q9c (by omega) (by omega) λg w3 ho3 hB3=>?_;refine lpR (λ(s:Slc×Int×Unit) w4=>∃k:Nat,s.2.1=k/\k<=ss.length/\Go.Vc.Own qm w4 w2.heap.size s.1 ((xss.take k).flatten)/\Uc w2 w4) (λs=>ss.length-s.2.1.toNat) ⟨0,rfl,by omega,by simpa using ho3,hB3⟩ ?_;rintro ⟨t,i,_⟩ w4 ⟨k,rfl,hk,ho,hB⟩ I2 hI2;dsimp only at *;refine cO (λhlt=>?_) (λhge=>?_)
  ·have hlt:=oTq hlt;rw [hpn] at hlt;have hkl:k<ss.length:=by omega
   have hx:ss[k]?=some ss[k]:=List.getElem?_eq_getElem hkl;have hy:xss[k]?=some (xss[k]'(by omega)):=List.getElem?_eq_getElem _;refine (hp.ext hB).ix rfl (by omega) (by omega) λhc=>?_;refine lSl (x:=ss[k]) (by simpa using hc 0 _ rfl) ?_;have hr:=(hss k _ _ hx hy).ext hB;have hf:=ql4 hy;have h1:=hle (k+1);rw [hf,List.length_append] at h1;refine apB ho hr hB.size (by omega) λr w5 ho5 hc5 hr5=>?_;rw [qP (by omega)];exact hI2 _ _ ⟨k+1,by simp,by omega,by rw [hf];exact ho5,hB.trans (hc5.below hB.size λi hi hs=>by have:=(ho.lt i hs).1;omega)⟩ (by simp;omega)
  ·have hge:=oFq hge;rw [hpn] at hge;have:k=ss.length:=by omega
   subst this;rw [hsl,List.take_length] at ho;exact hK _ _ ho hB
set_option maxRecDepth 400000
def qS (bs:List UInt8):ByteArray:=⟨bs.toArray⟩
theorem Ky (l:List UInt8):(qS l).toList=l:=by rw [ByteArray.toList_eq];rfl
end Go.Proofs.YtokfefnmpjohpaaGreatDoor
namespace Go.Vc
open Go.RowKit
open IntKind (i64)
theorem YZ {P:Program} {T:Type} {E:El T} {st ty:TypeId} (TT:SlT P E st) {w:World} {base:Nat} {s:Slc} {xs:List T} {y:T} {vs:List Value} {K:Slc->Ub} (hown:Own E w base s xs) (hy:E.cells y=vs)
  (hb:base<=w.heap.size) (hl:(xs.length+1)*TT.i.bytes<=140737488355328) (hm:xs.length+1<=maxLen)
  (hK:∀r w',Own E w' base r (xs++[y])->Chg (λk=>s.blk=some k) w w'->(∀k,r.blk=some k->s.blk=some k\/w.heap.size<=k)->K r w') :
  nw E.t vs w λa w1=>apK P #[st,st] ty s ⟨some a,1,1⟩ w1 λr w2=>K r w2:=by
 refine nwb λw1 hb1 hB1 hs1=>?_;refine jx TT (hown.ext hB1) (yg hb1 hy) (by omega) (by simpa using hl) (by simpa using hm) λr w2 ho hg hr=>hK r w2 ho ?_ ?_
 ·exact (Chg.of_ext hB1).trans (Chg.of_grown (S:=λk=>s.blk=some k) hg λk hk=>hk) λi _ hi=>hi
 ·intro k hk;rcases hr with hr | hr
  ·exact .inl (hr ▸ hk)
  ·right;rw [hr] at hk;cases hk;omega
theorem jG {a:Addr} {K:Addr->Prop} (h:K a):qE (some a) K:=h
theorem i64_in {x:Int} (h:-9223372036854775808<=x/\x<=9223372036854775807):i64.wrap x=x:=qP h
theorem qF {w:World} {T:Type} {E:El T} {b g:Nat} {s:Slc} {xs:List T} {t:TypeId} {vs:List Value} (h:Own E w b s xs) (h':Blk w g t vs) (hne:E.t≠t):∀k,s.blk=some k->k≠g:=λk hk=>by
 obtain ⟨cs,hcs⟩:=h.blk_t hk;exact hcs.ne_t h' hne
theorem XK {w:World} {T T':Type} {E:El T} {E':El T'} {b b':Nat} {s s':Slc} {xs:List T} {ys:List T'} (h:Own E w b s xs) (h':Own E' w b' s' ys) (hne:E.t≠E'.t):∀k,s.blk=some k->s'.blk≠some k:=λk hk e=>by
 obtain ⟨cs,hcs⟩:=h.blk_t hk;obtain ⟨cs',hcs'⟩:=h'.blk_t e;exact hcs.ne_t hcs' hne rfl
theorem qz6 {S:Nat->Prop} {w w':World} {k:Nat} (h:Chg (λi=>i=k) w w') (hk:S k):Chg S w w':=h.mono λi _ hi=>by rw [hi];exact hk
end Go.Vc
namespace Go.Proofs
open Go.Shelf
def Tryz.lays156_ren:Go.Shelf.Ren:=⟨λ| 156=>327 | 165=>375 | 166=>376 | 169=>50 | 240=>86 | 241=>404 | 276=>142 | 277=>423 | n=>n,λ| 31=>306 | 9=>9 | 3=>3 | 4=>4 | 0=>0 | 20=>20 | 72=>101 | 76=>110 | 70=>99 | 37=>28 | 75=>108 | 127=>186 | 164=>241 | 5=>5 | 80=>62 | n=>n,λ| n=>n⟩
theorem Tryz.lays156:Go.Proofs.Lays.n156 Tryz.prog Tryz.lays156_ren:={
 mixed:=by kernel_rfl
 f156:=Tryz.func327.trans (congrArg some (by kernel_rfl))
 f165:=Tryz.func375.trans (congrArg some (by kernel_rfl))
 f166:=Tryz.func376.trans (congrArg some (by kernel_rfl))
 f169:=Tryz.func50.trans (congrArg some (by kernel_rfl))
 f240:=Tryz.func86.trans (congrArg some (by kernel_rfl))
 f241:=Tryz.func404.trans (congrArg some (by kernel_rfl))
 f276:=Tryz.func142.trans (congrArg some (by kernel_rfl))
 f277:=Tryz.func423.trans (congrArg some (by kernel_rfl))
 t0:=Tryz.underlying0
 a0:=Tryz.isAgg0
 z0:=Tryz.sizeOf0
 v0:=Tryz.zeroValue0
 t3:=Tryz.underlying3
 a3:=Tryz.isAgg3
 z3:=Tryz.sizeOf3
 v3:=Tryz.zeroValue3
 t4:=Tryz.underlying4
 a4:=Tryz.isAgg4
 z4:=Tryz.sizeOf4
 v4:=Tryz.zeroValue4
 t9:=Tryz.underlying9
 a9:=Tryz.isAgg9
 z9:=Tryz.sizeOf9
 v9:=Tryz.zeroValue9
 t20:=Tryz.underlying20
 a20:=Tryz.isAgg20
 z20:=Tryz.sizeOf20
 v20:=Tryz.zeroValue20
 t31:=Tryz.underlying306
 a31:=Tryz.isAgg306
 z31:=Tryz.sizeOf306
 v31:=Tryz.zeroValue306
 t37:=Tryz.underlying28
 a37:=Tryz.isAgg28
 z37:=Tryz.sizeOf28
 v37:=Tryz.zeroValue28
 t70:=Tryz.underlying99
 a70:=Tryz.isAgg99
 z70:=Tryz.sizeOf99
 v70:=Tryz.zeroValue99
 t72:=Tryz.underlying101
 a72:=Tryz.isAgg101
 z72:=Tryz.sizeOf101
 v72:=Tryz.zeroValue101
 t75:=Tryz.underlying108
 a75:=Tryz.isAgg108
 z75:=Tryz.sizeOf108
 v75:=Tryz.zeroValue108
 t76:=Tryz.underlying110
 a76:=Tryz.isAgg110
 z76:=Tryz.sizeOf110
 v76:=Tryz.zeroValue110
 t127:=Tryz.underlying186
 a127:=Tryz.isAgg186
 z127:=Tryz.sizeOf186
 v127:=Tryz.zeroValue186
 t164:=Tryz.underlying241
 a164:=Tryz.isAgg241
 z164:=Tryz.sizeOf241
 v164:=Tryz.zeroValue241 }
theorem Tryz.Builder_Extra_156:Builder.Extra Tryz.prog Tryz.lays156_ren:={
 sizeBuilder:=by kernel_rfl
 liesBuilder:=by kernel_rfl
 t5:=Tryz.underlying5
 a5:=Tryz.isAgg5
 z5:=Tryz.sizeOf5
 v5:=Tryz.zeroValue5
 infoByte:=by kernel_rfl
 cellsByte:=by kernel_rfl
 sizeByte:=by kernel_rfl
 neB5:=by decide }
open Go.RowKit in
theorem Tryz.strings_Join_none (a:Option Addr) (c:Nat) (sep:ByteArray) (w:World) :
  Calls Tryz.prog 327 #[.slice a 0 c,.string sep] w λe w'=>e=.returned (.string ⟨#[]⟩)/\w'=w:=Any.strings_Join_none Tryz.lays156 Tryz.Builder_Extra_156 a c sep w
open Go.RowKit in
theorem Tryz.strings_Join (bk o c:Nat) (xs:List ByteArray) (sep:ByteArray) (w:World) (hcells:∀(j:Nat) x,xs[j]?=some x->w.cell? ⟨bk,o+j,none⟩=some (.string x)) (hbk:bk<w.heap.size) (hN:xs.length<=140737488355328) (hcap:xs.length<=c) (hlen:(Lib.join (xs.map (·.data.toList)) sep.data.toList).length<=140737488355328) :
  Calls Tryz.prog 327 #[.slice (some ⟨bk,o,none⟩) xs.length c,.string sep] w λe w'=>e=.returned (.string ⟨(Lib.join (xs.map (·.data.toList)) sep.data.toList).toArray⟩)/\Uc w w':=Any.strings_Join Tryz.lays156 Tryz.Builder_Extra_156 bk o c xs sep w hcells hbk hN hcap hlen
def Tryz.lays137_ren:Go.Shelf.Ren:=⟨λ| 137=>292 | 217=>352 | 266=>388 | n=>n,λ| 9=>9 | 5=>5 | 3=>3 | n=>n,λ| n=>n⟩
theorem Tryz.lays137:Go.Proofs.Lays.n137 Tryz.prog Tryz.lays137_ren:={
 mixed:=by kernel_rfl
 f137:=Tryz.func292.trans (congrArg some (by kernel_rfl))
 f217:=Tryz.func352.trans (congrArg some (by kernel_rfl))
 f266:=Tryz.func388.trans (congrArg some (by kernel_rfl))
 t3:=Tryz.underlying3
 a3:=Tryz.isAgg3
 z3:=Tryz.sizeOf3
 v3:=Tryz.zeroValue3
 t5:=Tryz.underlying5
 a5:=Tryz.isAgg5
 z5:=Tryz.sizeOf5
 v5:=Tryz.zeroValue5
 t9:=Tryz.underlying9
 a9:=Tryz.isAgg9
 z9:=Tryz.sizeOf9
 v9:=Tryz.zeroValue9 }
open Go.RowKit in
theorem Tryz.strings_IndexByte (s:ByteArray) (c:Int) (w:World) :
  Calls Tryz.prog 292 #[.string s,.int .u8 c] w λe w'=>e=.returned (Ua (Lib.indexByte s.data.toList c.toNat.toUInt8))/\w'=w:=Any.strings_IndexByte Tryz.lays137 s c w
def Tryz.laysM171_ren:Go.Shelf.Ren:=⟨λ| 171=>181 | 243=>268 | 246=>339 | 283=>381 | 284=>382 | 285=>383 | 286=>384 | 129=>200 | 317=>407 | 318=>408 | 319=>409 | 320=>410 | 337=>424 | 338=>425 | n=>n,λ| 3=>3 | 9=>9 | 2=>2 | 4=>4 | 171=>413 | 0=>0 | 53=>285 | 37=>28 | 5=>5 | 173=>415 | 212=>430 | 51=>128 | 20=>20 | 213=>431 | 46=>129 | 232=>476 | 233=>477 | n=>n,λ| 17=>3 | 18=>4 | 19=>5 | n=>n⟩
theorem Tryz.laysM171:Go.Proofs.LaysM.n171 Tryz.prog Tryz.laysM171_ren:={
 mixed:=by kernel_rfl
 f129:=Tryz.func200.trans (congrArg some (by kernel_rfl))
 f171:=Tryz.func181.trans (congrArg some (by kernel_rfl))
 f243:=Tryz.func268.trans (congrArg some (by kernel_rfl))
 f246:=Tryz.func339.trans (congrArg some (by kernel_rfl))
 f283:=Tryz.func381.trans (congrArg some (by kernel_rfl))
 f284:=Tryz.func382.trans (congrArg some (by kernel_rfl))
 f285:=Tryz.func383.trans (congrArg some (by kernel_rfl))
 f286:=Tryz.func384.trans (congrArg some (by kernel_rfl))
 f317:=Tryz.func407.trans (congrArg some (by kernel_rfl))
 f318:=Tryz.func408.trans (congrArg some (by kernel_rfl))
 f319:=Tryz.func409.trans (congrArg some (by kernel_rfl))
 f320:=Tryz.func410.trans (congrArg some (by kernel_rfl))
 f337:=Tryz.func424.trans (congrArg some (by kernel_rfl))
 f338:=Tryz.func425.trans (congrArg some (by kernel_rfl))
 t0:=Tryz.underlying0
 a0:=Tryz.isAgg0
 z0:=Tryz.sizeOf0
 v0:=Tryz.zeroValue0
 t2:=Tryz.underlying2
 a2:=Tryz.isAgg2
 z2:=Tryz.sizeOf2
 v2:=Tryz.zeroValue2
 t3:=Tryz.underlying3
 a3:=Tryz.isAgg3
 z3:=Tryz.sizeOf3
 v3:=Tryz.zeroValue3
 t4:=Tryz.underlying4
 a4:=Tryz.isAgg4
 z4:=Tryz.sizeOf4
 v4:=Tryz.zeroValue4
 t5:=Tryz.underlying5
 a5:=Tryz.isAgg5
 z5:=Tryz.sizeOf5
 v5:=Tryz.zeroValue5
 t9:=Tryz.underlying9
 a9:=Tryz.isAgg9
 z9:=Tryz.sizeOf9
 v9:=Tryz.zeroValue9
 t20:=Tryz.underlying20
 a20:=Tryz.isAgg20
 z20:=Tryz.sizeOf20
 v20:=Tryz.zeroValue20
 t37:=Tryz.underlying28
 a37:=Tryz.isAgg28
 z37:=Tryz.sizeOf28
 v37:=Tryz.zeroValue28
 t46:=Tryz.underlying129
 a46:=Tryz.isAgg129
 z46:=Tryz.sizeOf129
 v46:=Tryz.zeroValue129
 t51:=Tryz.underlying128
 a51:=Tryz.isAgg128
 z51:=Tryz.sizeOf128
 v51:=Tryz.zeroValue128
 t53:=Tryz.underlying285
 a53:=Tryz.isAgg285
 z53:=Tryz.sizeOf285
 v53:=Tryz.zeroValue285
 t171:=Tryz.underlying413
 a171:=Tryz.isAgg413
 z171:=Tryz.sizeOf413
 v171:=Tryz.zeroValue413
 t173:=Tryz.underlying415
 a173:=Tryz.isAgg415
 z173:=Tryz.sizeOf415
 v173:=Tryz.zeroValue415
 t212:=Tryz.underlying430
 a212:=Tryz.isAgg430
 z212:=Tryz.sizeOf430
 v212:=Tryz.zeroValue430
 t213:=Tryz.underlying431
 a213:=Tryz.isAgg431
 z213:=Tryz.sizeOf431
 t232:=Tryz.underlying476
 a232:=Tryz.isAgg476
 z232:=Tryz.sizeOf476
 v232:=Tryz.zeroValue476
 t233:=Tryz.underlying477
 a233:=Tryz.isAgg477
 z233:=Tryz.sizeOf477
 v233:=Tryz.zeroValue477
 g17:=by kernel_rfl
 g18:=by kernel_rfl
 g19:=by kernel_rfl
 i0:=by kernel_rfl
 i2:=by kernel_rfl
 i3:=by kernel_rfl
 i4:=by kernel_rfl
 i5:=by kernel_rfl
 i9:=by kernel_rfl
 i20:=by kernel_rfl
 i37:=by kernel_rfl
 i46:=by kernel_rfl
 i51:=by kernel_rfl
 i53:=by kernel_rfl
 i171:=by kernel_rfl
 i173:=by kernel_rfl
 i212:=by kernel_rfl
 i232:=by kernel_rfl
 i233:=by kernel_rfl
 m17:=by kernel_rfl
 m18:=by kernel_rfl
 m19:=by kernel_rfl }
open Go.RowKit Go.Sort Go.Lib in
theorem Tryz.strconv_Itoa (n : Int) (h0 : -9223372036854775808 <= n) (h1 : n <= 9223372036854775807) (w : World) (htab : Lib.TabIs Tryz.prog w "internal/strconv.uint64pow10" .u64 Lib.pow10Tab) :
  Calls Tryz.prog 181 #[.int .i64 n] w λe w'=>e=.returned (.string ⟨(Lib.itoa n).toArray⟩)/\∃k os,w'=grow (w.drewN k) os:=Any.strconv_Itoa Tryz.laysM171 n h0 h1 w htab
def Tryz.lays143_ren:Go.Shelf.Ren:=⟨λ| 143=>364 | 219=>393 | 217=>352 | 225=>295 | 224=>294 | 267=>413 | 266=>388 | 314=>426 | n=>n,λ| 9=>9 | 3=>3 | 4=>4 | 5=>5 | 46=>129 | 146=>420 | 51=>128 | n=>n,λ| 1=>2 | n=>n⟩
theorem Tryz.lays143:Go.Proofs.Lays.n143 Tryz.prog Tryz.lays143_ren:={
 mixed:=by kernel_rfl
 f143:=Tryz.func364.trans (congrArg some (by kernel_rfl))
 f217:=Tryz.func352.trans (congrArg some (by kernel_rfl))
 f219:=Tryz.func393.trans (congrArg some (by kernel_rfl))
 f224:=Tryz.func294.trans (congrArg some (by kernel_rfl))
 f225:=Tryz.func295.trans (congrArg some (by kernel_rfl))
 f266:=Tryz.func388.trans (congrArg some (by kernel_rfl))
 f267:=Tryz.func413.trans (congrArg some (by kernel_rfl))
 f314:=Tryz.func426.trans (congrArg some (by kernel_rfl))
 t3:=Tryz.underlying3
 a3:=Tryz.isAgg3
 z3:=Tryz.sizeOf3
 v3:=Tryz.zeroValue3
 t4:=Tryz.underlying4
 a4:=Tryz.isAgg4
 z4:=Tryz.sizeOf4
 v4:=Tryz.zeroValue4
 t5:=Tryz.underlying5
 a5:=Tryz.isAgg5
 z5:=Tryz.sizeOf5
 v5:=Tryz.zeroValue5
 t9:=Tryz.underlying9
 a9:=Tryz.isAgg9
 z9:=Tryz.sizeOf9
 v9:=Tryz.zeroValue9
 t46:=Tryz.underlying129
 a46:=Tryz.isAgg129
 z46:=Tryz.sizeOf129
 v46:=Tryz.zeroValue129
 t51:=Tryz.underlying128
 a51:=Tryz.isAgg128
 z51:=Tryz.sizeOf128
 v51:=Tryz.zeroValue128
 t146:=Tryz.underlying420
 a146:=Tryz.isAgg420
 z146:=Tryz.sizeOf420
 v146:=Tryz.zeroValue420
 g1:=by kernel_rfl }
open Go.RowKit Go.Lib in
theorem Tryz.strings_Index_one (s:ByteArray) (c:UInt8) (w:World) :
  Calls Tryz.prog 364 #[.string s,.string ⟨#[c]⟩] w λe w'=>e=.returned (Ua (Lib.indexByte s.data.toList c))/\w'=w:=Any.strings_Index_one Tryz.lays143 s c w
def Tryz.lays138_ren:Go.Shelf.Ren:=⟨λ| 138=>363 | 195=>391 | 218=>392 | 143=>364 | 219=>393 | 217=>352 | 225=>295 | 224=>294 | 267=>413 | 266=>388 | 314=>426 | n=>n,λ| 9=>9 | 3=>3 | 4=>4 | 5=>5 | 0=>0 | 46=>129 | 146=>420 | 51=>128 | n=>n,λ| 1=>2 | n=>n⟩
theorem Tryz.lays138:Go.Proofs.Lays.n138 Tryz.prog Tryz.lays138_ren:={
 mixed:=by kernel_rfl
 f138:=Tryz.func363.trans (congrArg some (by kernel_rfl))
 f143:=Tryz.func364.trans (congrArg some (by kernel_rfl))
 f195:=Tryz.func391.trans (congrArg some (by kernel_rfl))
 f217:=Tryz.func352.trans (congrArg some (by kernel_rfl))
 f218:=Tryz.func392.trans (congrArg some (by kernel_rfl))
 f219:=Tryz.func393.trans (congrArg some (by kernel_rfl))
 f224:=Tryz.func294.trans (congrArg some (by kernel_rfl))
 f225:=Tryz.func295.trans (congrArg some (by kernel_rfl))
 f266:=Tryz.func388.trans (congrArg some (by kernel_rfl))
 f267:=Tryz.func413.trans (congrArg some (by kernel_rfl))
 f314:=Tryz.func426.trans (congrArg some (by kernel_rfl))
 t0:=Tryz.underlying0
 a0:=Tryz.isAgg0
 z0:=Tryz.sizeOf0
 v0:=Tryz.zeroValue0
 t3:=Tryz.underlying3
 a3:=Tryz.isAgg3
 z3:=Tryz.sizeOf3
 v3:=Tryz.zeroValue3
 t4:=Tryz.underlying4
 a4:=Tryz.isAgg4
 z4:=Tryz.sizeOf4
 v4:=Tryz.zeroValue4
 t5:=Tryz.underlying5
 a5:=Tryz.isAgg5
 z5:=Tryz.sizeOf5
 v5:=Tryz.zeroValue5
 t9:=Tryz.underlying9
 a9:=Tryz.isAgg9
 z9:=Tryz.sizeOf9
 v9:=Tryz.zeroValue9
 t46:=Tryz.underlying129
 a46:=Tryz.isAgg129
 z46:=Tryz.sizeOf129
 v46:=Tryz.zeroValue129
 t51:=Tryz.underlying128
 a51:=Tryz.isAgg128
 z51:=Tryz.sizeOf128
 v51:=Tryz.zeroValue128
 t146:=Tryz.underlying420
 a146:=Tryz.isAgg420
 z146:=Tryz.sizeOf420
 v146:=Tryz.zeroValue420
 g1:=by kernel_rfl }
open Go.RowKit Go.Lib in
theorem Tryz.strings_Count_one (s:ByteArray) (c:UInt8) (w:World) :
  Calls Tryz.prog 363 #[.string s,.string ⟨#[c]⟩] w λe w'=>e=.returned (Ua (Lib.countByte s.data.toList c))/\w'=w:=Any.strings_Count_one Tryz.lays138 s c w
def Tryz.lays187_ren:Go.Shelf.Ren:=⟨λ| 187=>358 | 255=>389 | n=>n,λ| 37=>28 | 5=>5 | 3=>3 | n=>n,λ| n=>n⟩
theorem Tryz.lays187:Go.Proofs.Lays.n187 Tryz.prog Tryz.lays187_ren:={
 mixed:=by kernel_rfl
 f187:=Tryz.func358.trans (congrArg some (by kernel_rfl))
 f255:=Tryz.func389.trans (congrArg some (by kernel_rfl))
 t3:=Tryz.underlying3
 a3:=Tryz.isAgg3
 z3:=Tryz.sizeOf3
 v3:=Tryz.zeroValue3
 t5:=Tryz.underlying5
 a5:=Tryz.isAgg5
 z5:=Tryz.sizeOf5
 v5:=Tryz.zeroValue5
 t37:=Tryz.underlying28
 a37:=Tryz.isAgg28
 z37:=Tryz.sizeOf28
 v37:=Tryz.zeroValue28 }
theorem Tryz.bytes_IndexByte (b o n c:Nat) (xs:List Int) (cv:Int) (w:World) (hx:xs.length=n) (hc:∀i,i<n->w.cell? ⟨b,o+i,none⟩=some (.int .u8 (xs.getD i 0))) :
  Calls Tryz.prog 358 #[.slice (some ⟨b,o,none⟩) n c,.int .u8 cv] w λe w'=>e=.returned (Ua (Lib.indexByte (Lib.bytesOf xs) cv.toNat.toUInt8))/\w'=w:=Any.bytes_IndexByte Tryz.lays187 b o n c xs cv w hx hc
end Go.Proofs
namespace Go.Proofs.YtokfefnmpjohpaaGreatDoor
open Go.Vc Go.RowKit
set_option maxRecDepth 400000
open Lib (itoa)
theorem vz (l:List UInt8):(qS l).toList=l:=by rw [ByteArray.toList_eq];rfl
theorem qtr (l:List UInt8):(qS l).data.toList=l:=rfl
theorem zdw (s:ByteArray):qS s.data.toList=s:=by cases s;simp [qS]
theorem qD (l:List UInt8):(qS l).size=l.length:=by show l.toArray.size=_;simp
theorem jh (a b:List UInt8):qS a++qS b=qS (a++b):=by
 have:(qS a++qS b).data=(qS (a++b)).data:=by rw [ByteArray.data_append];simp [qS]
 calc qS a++qS b=⟨(qS a++qS b).data⟩:=rfl
  _=qS (a++b):=by rw [this]
theorem qsz {w:World} {s:Slc} {bs:List UInt8} (h:Rd qm w s bs):(convert qg zo (.slice s.a s.n s.c)).run PG w=.ok (.string (qS bs)) w:=by
 cases ha:s.a with
 | none =>
  have:bs=[]:=by
   cases bs with
   | nil=>rfl
   | cons x r=>have:=h.some_ (by simp);rw [ha] at this;cases this
  subst this;exact run_convert_bytes_nil (P:=PG) w qg qN (by kernel_rfl) (by kernel_rfl) _ _ zo (by kernel_rfl)
 | some a =>
  have hn:=h.n;have hl:(loadCells a bs.length).run PG w=.ok ((bs.map λb=>Value.int .u8 b.toNat)).toArray w:=by
   have:=run_loadCells_list (P:=PG) w a (bs.map λb=>Value.int .u8 b.toNat) (λj v hj=>by
    rw [List.getElem?_map] at hj;cases hb:bs[j]? with
    | none=>rw [hb] at hj;cases hj
    | some b =>
     rw [hb] at hj;cases hj;have:=h.at_ j b hb 0 (.int .u8 b.toNat) rfl;simp only [Slc.at_,ha,Option.getD_some,add_zero] at this
     rwa [show j*qm.k=j from Nat.mul_one j] at this)
   simpa using this
  have hb:=run_bytesToString w a s.n s.c (bs.map λb=>(b.toNat:Int)) (by rw [hn,hl];simp);rw [run_convert_bytes_string w qg zo qN _ s.n s.c (by kernel_rfl) (by kernel_rfl) (by kernel_rfl),hb,foldl_push_bytes];have e:(bs.map λb=>(b.toNat:Int)).map (λn=>UInt8.ofNat n.toNat)=bs:=by
   rw [List.map_map]
   conv=>rhs;rw [<-List.map_id bs]
   refine List.map_congr_left λb _=>?_;simp
  rw [e];simp [qS,ByteArray.empty,ByteArray.emptyWithCapacity];rfl
section
variable {w:World}
theorem yK {s:Slc} {bs:List UInt8} (h:Rd qm w s bs) {K:ByteArray->Ub} (hK:K (qS bs) w):jv PG (convert qg zo (.slice s.a s.n s.c)) Kind.string w K:=⟨_,w,qsz h,hK⟩
theorem qf3 {bs:List UInt8} (hl:bs.length<=1000000000) {K:Slc->Ub} (hK:∀q w',Rd qm w' q bs->(∀k,q.blk=some k->w.heap.size<=k)->Uc w w'->q.a.isSome=true->K q w') :
  jv PG (convert zo qg (.string (qS bs))) Kind.slice w K:=by
 have hr:=Lib.run_convert_string_bytes (P:=PG) w zo qg qN (qS bs) (u:=.string) (by kernel_rfl) (by kernel_rfl) (by kernel_rfl);have hsz:=qD bs;refine ⟨⟨some ⟨w.heap.size,0,none⟩,(qS bs).size,grownCap w (qS bs).size 0 qN⟩,_,hr,hK _ _ ⟨hsz,grownCap_ge w _ 0 qN,grownCap_le_maxLen w _ 0 qN (by rw [hsz];unfold maxLen;omega),λ_=>rfl,λi x hx=>?_⟩ (λk hk=>by cases hk;exact Nat.le_refl _) ⟨rfl,rfl,rfl,by rw [Lib.bytesWorld_size];omega,λk hk=>Lib.bytesWorld_at_old w _ _ k hk⟩ rfl⟩;have hi:i<bs.length:=(List.getElem?_eq_some_iff.1 hx).1;intro j v hv
 match j,hv with
 | 0,hv =>
  cases hv;have:=Lib.bytesWorld_cell w qN (qS bs) i (by rw [hsz];exact hi);rw [qtr] at this;have e:bs.getD i 0=x:=by rw [List.getD_eq_getElem?_getD,hx];rfl
  rw [e] at this;show World.cell? _ (((⟨w.heap.size,0,none⟩:Addr).add (i*1)).add 0)=_;rw [add_zero,Nat.mul_one,q4,Nat.zero_add];exact this
theorem qmp {bs:List UInt8} {i:Int} {k:Nat} {b:UInt8} {K:Int->Prop} (hi:i=k) (hb:bs[k]?=some b) (hK:K b.toNat):ixS (qS bs) i K:=by
 subst hi;have hk:k<bs.length:=(List.getElem?_eq_some_iff.1 hb).1;refine ⟨⟨by omega,by rw [qD];omega⟩,?_⟩;have e:(qS bs).data.getD ((k:Int)).toNat 0=b:=by
  show bs.toArray.getD _ _=_;rw [Int.toNat_natCast,Array.getD_eq_getD_getElem?,List.getElem?_toArray,hb];rfl
 rw [e];exact hK
theorem qzo (bs:List UInt8) (l h:Nat):(qS bs).extract l h=qS ((bs.take h).drop l):=by
 have:((qS bs).extract l h).data=(qS ((bs.take h).drop l)).data:=by
  rw [ByteArray.data_extract];apply Array.ext';simp [qS,List.drop_take]
 calc (qS bs).extract l h=⟨((qS bs).extract l h).data⟩:=rfl
  _=_:=by rw [this]
theorem qtb {bs:List UInt8} {lo hi:Option Int} {l h:Nat} {K:ByteArray->Prop} (hlo:lo=none/\l=0\/lo=some (l:Int)) (hhi:hi=none/\h=bs.length\/hi=some (h:Int)) (h1:l<=h) (h2:h<=bs.length)
  (hK:K (qS ((bs.take h).drop l))):slS (qS bs) lo hi K:=by
 have key:K ((qS bs).extract l h):=by rw [qzo];exact hK
 have inner:bnd lo h 0 λl'=>K ((qS bs).extract l' h):=by
  rcases hlo with ⟨rfl,rfl⟩ | rfl
  ·exact yT key
  ·exact vj (by omega) (by omega) (by simpa using key)
 unfold slS;rcases hhi with ⟨rfl,rfl⟩ | rfl
 ·refine yT ?_;rw [qD];exact inner
 ·exact vj (by omega) (by rw [qD];omega) (by simpa using inner)
def Tab (w : World) : Prop := Lib.TabIs PG w "internal/strconv.uint64pow10" .u64 Lib.pow10Tab
theorem zdb {g:Nat} {cs:Array Value} {n:String} (hg:PG.globalNamed n=some g) (h:w.var? PG n=some cs):g<w.heap.size:=by
 unfold World.var? at h;rw [hg] at h;dsimp only [Option.bind_some] at h;rcases Nat.lt_or_ge g w.heap.size with hlt | hge
 ·exact hlt
 ·rw [Array.getElem?_eq_none hge] at h;cases h
theorem Tab.ext {w':World} (h:Tab w) (hb:Uc w w'):Tab w' :=
 var?_below (g:=3) hb (by kernel_rfl) (zdb (by kernel_rfl) h) h
theorem qo8 {n:Int} (h0:-9223372036854775808<=n) (h1:n<=9223372036854775807):(itoa n).length<=20:=by
 have hd:∀(m u:Nat),1<=m->u<10^m->(Lib.decDigits u).length<=m:=by
  intro m
  induction m with
  | zero=>intro u h;omega
  | succ m ih =>
   intro u _ h;rw [Lib.decDigits];split
   ·simp
   ·rename_i h10;have:m≠0:=λe=>by subst e;simp at h;omega
    have:=ih (u/10) (by omega) (by rw [Nat.pow_succ] at h;omega);rw [List.length_append,List.length_singleton];omega
 unfold itoa;split
 ·rw [List.length_cons];have:=hd 19 n.natAbs (by omega) (by omega);omega
 ·have:=hd 19 n.toNat (by omega) (by omega);omega
theorem qqn (hT:Tab w) {n:Int} (h0:-9223372036854775808<=n) (h1:n<=9223372036854775807) {K:ByteArray->Ub} (hK:∀w',Uc w w'->K (qS (itoa n)) w'):vl n w K:=by
 refine Calls.mono (Tryz.strconv_Itoa n h0 h1 w hT) ?_;rintro e w' ⟨rfl,k,os,rfl⟩;refine ⟨_,rfl,hK _ ⟨rfl,rfl,rfl,by show _<=((w.drewN k).heap++os).size;simp [World.drewN],λj hj=>?_⟩⟩;show ((w.drewN k).heap++os)[j]?=_;rw [Array.getElem?_append_left (by simpa [World.drewN] using hj)];rfl
theorem qhf {bs:List UInt8} {c:UInt8} {i:Int} (hi:i=c.toNat) {K:Int->Ub} (hK:K (Lib.indexByte bs c) w):x9 (qS bs) i w K:=by
 subst hi;refine Calls.mono (Tryz.strings_IndexByte (qS bs) c.toNat w) ?_;rintro e w' ⟨rfl,rfl⟩;refine ⟨_,rfl,?_⟩;rw [qtr,show ((c.toNat:Int)).toNat.toUInt8=c by simp];exact hK
end
end Go.Proofs.YtokfefnmpjohpaaGreatDoor
namespace Go.Proofs.YtokfefnmpjohpaaGreatDoor
open Go.Vc Go.ChangeShapes Go.WideShapes Go.ChangeAt Go.RowKit
set_option maxRecDepth 100000
theorem own:ownKnob Tryz.prog.godebug=none:=by kernel_rfl
theorem zfi:laidOutB Tryz.prog=true:=by kernel_rfl
theorem za9 {ls:List Leaf} {vs:List Value} {k:IntKind} (h:qpi ls vs) (j:Nat) (hj:ls[j]?=some (.int k)):∃z,vs[j]?=some (.int k z)/\(Lit.int k z).wf=true:=by
 obtain ⟨v,hv,z,rfl,hw⟩:=h j _ hj;exact ⟨z,hv,hw⟩
theorem q04 {vs us:List Value} (hl:vs.length=us.length) (h:∀(j:Nat),j<us.length->us[j]?=vs[j]?):us=vs :=
 List.ext_getElem? λj=>by
  rcases Nat.lt_or_ge j us.length with hj | hj
  ·exact h j hj
  ·rw [List.getElem?_eq_none hj,List.getElem?_eq_none (by omega)]
def zhl (P:Program) (t:TypeId):TypeId:=match P.underlying t with
 | some (.array _ e)=>e
 | _=>0
def qzs : List (String × DataW Unit) := [("math/bits.deBruijn32tab", Rows.laid_math_bits_deBruijn32tab), ("math/bits.deBruijn64tab", Rows.laid_math_bits_deBruijn64tab), ("internal/strconv.uint64pow10", Rows.laid_internal_strconv_uint64pow10), ("unicode/utf8.acceptRanges", Rows.laid_unicode_utf8_acceptRanges), ("unicode/utf8.first", Rows.laid_unicode_utf8_first)]
theorem q2c (os:Os):(World.laidAll Tryz.prog os qzs).Shaped Tryz.prog:=World.shaped_of_ZipB (by kernel_rfl) (by kernel_rfl)
theorem zcl (os:Os) (args:Array Value):laidMetH Tryz.prog qzs ((World.laidAll Tryz.prog os qzs).forCall (λ_ _=>0) ⟨#[],args,[]⟩).memory:=by
 rw [MakeChecks.laidMetH_plain _ _ _ (by kernel_rfl)];exact laidMet_laidAll _ (by kernel_rfl) (by kernel_rfl)
theorem qwe {P:Program} {W:World} {name:String} {k:IntKind} {zs:List Int} {rest:List (String×DataW Unit)} {g:Nat} {t e:TypeId} {n:Nat} {ps:List MemPlace}
  (hg:P.globalNamed name=some g) (hty:(P.globals[g]?).map (·.type)=some t) (ht:P.underlying t=some (.array n e)) (he:P.underlying e=some (.int k)) (hce:P.cellsOf e=1) (hct:P.cellsOf t=n)
  (h:DataW.LaidVars P W ((name,Lib.tabData k zs)::rest) ps):Lib.TabIs P W name k zs:=by
 obtain ⟨g',t',cs,fuel,p,q,hg',ht',hvar,hd,_,_⟩:=h;obtain rfl:=Option.some.inj (hg.symm.trans hg');obtain rfl:=Option.some.inj (hty.symm.trans ht');unfold Lib.TabIs;rw [hvar,<-Lib.cells_of_tab ht he hce hct hd]
theorem qx7 {P:Program} {W:World} {x:String×DataW Unit} {rest:List (String×DataW Unit)} {ps:List MemPlace} (h:DataW.LaidVars P W (x::rest) ps):∃q,DataW.LaidVars P W rest q:=by
 obtain ⟨_,_,_,_,_,q,_,_,_,_,h,_⟩:=h;exact ⟨q,h⟩
theorem q3s {W:World} (h:laidMetH Tryz.prog qzs W):Tab W:=by
 rw [MakeChecks.laidMetH_plain _ _ _ (by kernel_rfl)] at h;obtain ⟨ps,h,_⟩:=h;unfold qzs at h;obtain ⟨_,h⟩:=qx7 h;obtain ⟨_,h⟩:=qx7 h;have e:(Rows.laid_internal_strconv_uint64pow10:DataW Unit)=Lib.tabData .u64 Lib.pow10Tab:=by kernel_rfl
 rw [e] at h;exact qwe (g:=3) (t:=(Tryz.prog.globals[3]?).map (·.type) |>.getD 0) (e:=zhl Tryz.prog ((Tryz.prog.globals[3]?).map (·.type) |>.getD 0)) (n:=20) (by kernel_rfl) (by kernel_rfl) (by kernel_rfl) (by kernel_rfl) (by kernel_rfl) (by kernel_rfl) h
def zds:List Leaf:=[.int .i64]
theorem q5u:qod Tryz.prog 4 3=some zds:=by kernel_rfl
theorem zhj (vs:List Value) (hl:vs.length=1) (h:qpi zds vs):∃x:Int,zw.cells x=vs/\True:=by
 obtain ⟨z,h0,w0⟩:=za9 h 0 rfl;refine ⟨z,q04 hl λj hj=>?_,trivial⟩
 match j,hj with
 | 0,_=>exact h0.symm
 | j+1,hj=>exact absurd hj (by simp [zw])
section
variable {H:Type} {enc:TypeId×Value->H} {w:World} {base:Nat} {held:Bool} {r:Reach} {b0:Nat} {v:Value} {d:DataW H} {p:List MemPlace}
theorem q9l {t:TypeId} (ht:Tryz.prog.underlying t=some (.slice 3)) (hv:Value.okWide Tryz.prog w r b0 t v) (h:DataW.Trod enc Tryz.prog w base (λ_=>true) held t v d p):∃(s:Slc) (xs:List Int),v=.slice s.a s.n s.c/\Rd zw w s xs/\∀x∈xs,True:=by
 have a:=@q5m H enc Tryz.prog w base held Int zw (λ_=>True) r b0 4 t 3 zds v d p ht (by kernel_rfl) q5u zhj;exact a hv h
end
end Go.Proofs.YtokfefnmpjohpaaGreatDoor
namespace Go.Proofs.YtokfefnmpjohpaaGreatDoor
open Go.Vc Go.RowKit
open IntKind (i64)
open _root_.List (append_assoc append_nil drop_zero getD_cons_zero length_append length_cons length_drop length_nil mem_cons take_length)
open _root_.Nat (le_refl zero_le)
structure EvP where
 k:Int
 r:Int
 b:Int
 pv:Int
 i:List UInt8
 ps:List Int
 d:List UInt8
structure PS where
 st:Int
 ends:Bool
 priv:Int
 inter:List UInt8
 wrong:Bool
 first:Bool
 params:List Int
 some_:Bool
 last:Int
 data:List UInt8
def ps0:PS:=⟨0,false,0,[],false,true,[],false,0,[]⟩
def evK (k b:Int):EvP:=⟨k,0,b,0,[],[],[]⟩
def q0k (r:Int):EvP:=⟨1,r,0,0,[],[],[]⟩
def JK (k:Int) (d:List UInt8):EvP:=⟨k,0,0,0,[],[],d⟩
def qul (c:Int):Bool:=decide (c<32) && (c !=24 && (c !=26 && c !=27))
def JB (c:Int):Bool:=c==24 || (c==26 || (c==27 || c==127))
namespace PS
def begin_ (p:PS) (s:Int):PS:={ p with st:=s,priv:=0,wrong:=false,first:=true,some_:=false,last:=0,inter:=[],params:=[] }
def close (p:PS) (b:Int):List EvP:=if p.st=5 then [evK 8 b] else if p.st=6 then [evK 11 b] else []
def ground (p:PS) (c:Int):PS×List EvP:=(p,if qul c then [evK 2 c] else if c=127 then [] else [q0k c])
def keep (p:PS) (c:Int):PS:=if p.inter.length=2 then { p with wrong:=true } else { p with inter:=p.inter++[UInt8.ofNat c.toNat] }
def opens (p:PS) (c:Int):Option (PS×List EvP) :=
 if c=91 then some (p.begin_ 2,[])
 else if c=80 then some (p.begin_ 3,[])
 else if c=93 then some ({ p with st:=4,data:=[] },[])
 else if c=95 then some ({ p with st:=6 },[evK 9 0])
 else if c=88\/c=94 then some ({ p with st:=7 },[])
 else none
def escEnd (p:PS) (c:Int):PS×List EvP:=({ p with st:=0 },if p.wrong then [] else [⟨3,0,c,0,p.inter,[],[]⟩])
def escape (p:PS) (c:Int):PS×List EvP :=
 if qul c then (p,[evK 2 c])
 else if c<=47 then (p.keep c,[])
 else if c=127 then (p,[])
 else if p.inter≠[] then p.escEnd c
 else (p.opens c).getD (p.escEnd c)
def next (p:PS):PS:={ p with params:=if p.params.length<16 then p.params++[p.last] else p.params,last:=0 }
def final (p:PS) (c:Int):PS×List EvP :=
 let p1:PS:={ p with st:=if p.st≠3 then 0 else if p.wrong then 7 else 5 }
 if p.wrong then (p1,[])
 else
  let p2:=if p.some_ then p1.next else p1
  (p2,[⟨if p.st=3 then 6 else 4,0,c,p.priv,p.inter,p2.params,[]⟩])
def head (p0:PS) (c:Int):PS×List EvP :=
 let p:PS:={ p0 with first:=p0.first && (qul c || c==127) }
 if qul c then (p,if p.st=2 then [evK 2 c] else [])
 else if c<=47 then (p.keep c,[])
 else if c=127 then (p,[])
 else if c<=57 then ({ p with wrong:=p.wrong || decide (p.inter≠[]),some_:=true,last:=if 65535<10*p.last+(c-48) then 65535 else 10*p.last+(c-48) },[])
 else if c=59 then (({ p with wrong:=p.wrong || decide (p.inter≠[]),some_:=true }:PS).next,[])
 else if 60<=c/\c<=63/\p0.first=true then ({ p with priv:=c },[])
 else if c<=63 then ({ p with wrong:=true },[])
 else p.final c
def text (p:PS) (c:Int):PS×List EvP :=
 if c=7 then ({ p with st:=0 },[JK 5 p.data])
 else if 32<=c/\c≠127/\p.data.length<1024 then ({ p with data:=p.data++[UInt8.ofNat c.toNat] },[])
 else (p,[])
def plain (p:PS) (c:Int):PS×List EvP :=
 if p.st=1 then p.escape c else if p.st=2\/p.st=3 then p.head c else if p.st=4 then p.text c else if p.st=5\/p.st=6\/p.st=7 then (p,[]) else p.ground c
def ended (p0:PS) (c:Int):PS×List EvP :=
 let p:PS:={ p0 with ends:=false }
 if c=92 then ({ p with st:=0 },(if p.st=4 then [JK 5 p.data] else [])++p.close 1)
 else
  let p1:=p.begin_ 1
  if c=27 then (p1,p.close 0)
  else if c=24\/c=26 then ({ p1 with st:=0 },p.close 0++[evK 2 c])
  else ((p1.escape c).1,p.close 0++(p1.escape c).2)
def step (p:PS) (c:Int):PS×List EvP :=
 if p.ends then p.ended c
 else if c≠24/\c≠26/\c≠27 then p.plain c
 else if c≠27 then ({ p with st:=0 },p.close 0++[evK 2 c])
 else if p.st>=4 then ({ p with ends:=true },[])
 else (p.begin_ 1,[])
def runN (p:PS) (bs:List UInt8):Nat:=if p.ends=true\/p.st≠5/\p.st≠6 then 0 else (bs.takeWhile λb=>!JB b.toNat).length
def zao:Nat->PS->List UInt8->PS×List EvP
 | 0,p,_=>(p,[])
 | _,p,[]=>(p,[])
 | f+1,p,b::bs =>
  if 0<p.runN (b::bs) then
   let r:=zao f p ((b::bs).drop (p.runN (b::bs)))
   (r.1,JK (if p.st=6 then 10 else 7) ((b::bs).take (p.runN (b::bs)))::r.2)
  else
   let s:=p.step b.toNat
   let r:=zao f s.1 bs
   (r.1,s.2++r.2)
def eachB (p:PS) (bs:List UInt8):PS×List EvP:=zao bs.length p bs
end PS
set_option maxRecDepth 400000
structure PF where
 pg:Nat
 cg:Nat
 qi:Slc
 qp:Slc
 qd:Slc
def q44 (F:PF) (p:PS) (fv:Value):List Value:=[.int .i64 p.st,.bool p.ends,.pointer (some ⟨F.cg,0,none⟩),.int .u8 p.priv,.slice F.qi.a F.qi.n F.qi.c,.bool p.wrong,.bool p.first,.slice F.qp.a F.qp.n F.qp.c,.bool p.some_,.int .i64 p.last,.slice F.qd.a F.qd.n F.qd.c,fv]
def vE (F:PF) (k:Nat):Prop:=k=F.pg\/k=F.cg\/F.qi.blk=some k\/F.qp.blk=some k\/F.qd.blk=some k
structure PsOk (p:PS):Prop where
 il:p.inter.length<=2
 pl:p.params.length<=16
 dl:p.data.length<=1024
 la:0<=p.last/\p.last<=65535
 pv:0<=p.priv/\p.priv<=255
 pr:∀x∈p.params,0<=x/\x<=65535
structure ParsM (w:World) (base:Nat) (F:PF) (p:PS) (fv:Value):Prop where
 blk:Blk w F.pg Zh (q44 F p fv)
 ch:∃r lo hi,Blk w F.cg YW [.int .i32 r,.int .i64 0,.int .u8 lo,.int .u8 hi]
 hg:base<=F.pg/\base<=F.cg
 qi:Go.Vc.Own qm w base F.qi p.inter
 qp:Go.Vc.Own zw w base F.qp p.params
 qd:Go.Vc.Own qm w base F.qd p.data
 ne:∀k,F.qi.blk=some k->F.qd.blk≠some k
 ok:PsOk p
def far (T:Nat->Prop) (w:World):Prop:=∀k cs,T k->¬Blk w k qT cs
structure Hnd (σ:Type) where
 M:World->(Nat->Prop)->σ->Prop
 R:σ->EvP->σ->Prop
 ok:σ->EvP->Prop
structure EvW (w:World) (S:Nat->Prop) (p d:Slc) (v:EvP):Prop where
 ps:Rd zw w p v.ps
 pf:∀a,p.a=some a->¬S a.block/\a.block<w.heap.size
 ds:Rd qm w d v.d
 df:∀a,d.a=some a->¬S a.block/\a.block<w.heap.size
 rng:∀x∈v.ps,0<=x/\x<=65535
 pl:v.ps.length<=16
 b:0<=v.b/\v.b<=255
 pv:0<=v.pv/\v.pv<=255
 il:v.i.length<=2
 dl:v.d.length<=1000000
def agE (v:EvP) (p d:Slc):Value:=.agg #[.int .i64 v.k,.int .i32 v.r,.int .u8 v.b,.int .u8 v.pv,.string (qS v.i),.slice p.a p.n p.c,.slice d.a d.n d.c]
structure HndOk {σ:Type} (H:Hnd σ) (base:Nat) (fv:Value):Prop where
 keep:∀{w w' S s T},H.M w S s->Chg T w w'->(∀k,S k->¬T k)->far T w->(∀k,T k->base<=k)->H.M w' S s
 lt:∀{w S s},H.M w S s->∀k,S k->base<=k/\k<w.heap.size
 call:∀{w S s v p d} {K:Ub},H.M w S s->H.ok s v->EvW w S p d v->(∀w' S' s',H.M w' S' s'->H.R s v s'->Chg S w w'->(∀k,S' k->S k\/w.heap.size<=k)->K w')->jl C fv [agE v p d] [] w K
def ZM {σ:Type} (H:Hnd σ):σ->List EvP->σ->Prop
 | s,[],s'=>s'=s
 | s,e::es,s'=>∃m,H.R s e m/\ZM H m es s'
def jf {σ:Type} (H:Hnd σ):σ->List EvP->Prop
 | _,[]=>True
 | s,e::es=>H.ok s e/\∀m,H.R s e m->jf H m es
theorem ZM.append {σ:Type} {H:Hnd σ}:∀{a b:List EvP} {s m s':σ},ZM H s a m->ZM H m b s'->ZM H s (a++b) s'
 | [],b,s,m,s',h,h2=>by cases h;exact h2
 | e::a,b,s,m,s',⟨x,h1,h⟩,h2=>⟨x,h1,ZM.append h h2⟩
theorem jf.left {σ:Type} {H:Hnd σ}:∀{a b:List EvP} {s:σ},jf H s (a++b)->jf H s a
 | [],b,s,h=>trivial
 | e::a,b,s,h=>⟨h.1,λm hm=>jf.left (h.2 m hm)⟩
theorem jf.right {σ:Type} {H:Hnd σ}:∀{a b:List EvP} {s m:σ},jf H s (a++b)->ZM H s a m->jf H m b
 | [],b,s,m,h,hr=>by cases hr;exact h
 | e::a,b,s,m,h,⟨x,h1,hr⟩=>jf.right (h.2 x h1) hr
section
variable {w w':World} {base:Nat} {F F':PF} {p p':PS} {fv:Value}
theorem ParsM.below (h:ParsM w base F p fv):∀k,vE F k->base<=k/\k<w.heap.size:=by
 obtain ⟨r,lo,hi,hc⟩:=h.ch;rintro k (rfl | rfl | hk | hk | hk)
 ·exact ⟨h.hg.1,h.blk.lt⟩
 ·exact ⟨h.hg.2,hc.lt⟩
 ·exact h.qi.lt k hk
 ·exact h.qp.lt k hk
 ·exact h.qd.lt k hk
theorem ParsM.chg {T:Nat->Prop} (h:ParsM w base F p fv) (hc:Chg T w w') (hT:∀k,vE F k->¬T k):ParsM w' base F p fv:=by
 obtain ⟨r,lo,hi,hch⟩:=h.ch;exact ⟨h.blk.chg hc (hT _ (.inl rfl)),⟨r,lo,hi,hch.chg hc (hT _ (.inr (.inl rfl)))⟩,h.hg,h.qi.chg hc λk hk=>hT k (.inr (.inr (.inl hk))),h.qp.chg hc λk hk=>hT k (.inr (.inr (.inr (.inl hk)))),h.qd.chg hc λk hk=>hT k (.inr (.inr (.inr (.inr hk)))),h.ne,h.ok⟩
theorem ParsM.ext (h:ParsM w base F p fv) (hB:Uc w w'):ParsM w' base F p fv:=h.chg (Chg.of_ext (S:=λ_=>False) hB) λ_ _ h=>h
theorem ParsM.far (h:ParsM w base F p fv):far (vE F) w:=by
 obtain ⟨r,lo,hi,hch⟩:=h.ch;rintro k cs (rfl | rfl | hk | hk | hk) hb
 ·exact h.blk.ne_t hb (by decide) rfl
 ·exact hch.ne_t hb (by decide) rfl
 ·obtain ⟨c,hc⟩:=h.qi.blk_t hk;exact hc.ne_t hb (by decide) rfl
 ·obtain ⟨c,hc⟩:=h.qp.blk_t hk;exact hc.ne_t hb (by decide) rfl
 ·obtain ⟨c,hc⟩:=h.qd.blk_t hk;exact hc.ne_t hb (by decide) rfl
theorem ParsM.ne_pg (h:ParsM w base F p fv):∀k,(k=F.cg\/F.qi.blk=some k\/F.qp.blk=some k\/F.qd.blk=some k)->k≠F.pg:=by
 obtain ⟨r,lo,hi,hch⟩:=h.ch;rintro k (rfl | hk | hk | hk)
 ·exact hch.ne_t h.blk (by decide)
 ·exact qF h.qi h.blk (by decide) k hk
 ·exact qF h.qp h.blk (by decide) k hk
 ·exact qF h.qd h.blk (by decide) k hk
theorem ParsM.put (h:ParsM w base F p fv) (hb:Blk w' F.pg Zh (q44 F' p' fv)) (hc:Chg (λk=>k=F.pg) w w') (e1:F'.pg=F.pg) (e2:F'.cg=F.cg)
  (qi:Go.Vc.Own qm w base F'.qi p'.inter) (qp:Go.Vc.Own zw w base F'.qp p'.params) (qd:Go.Vc.Own qm w base F'.qd p'.data) (ne:∀k,F'.qi.blk=some k->F'.qd.blk≠some k) (ok:PsOk p'):ParsM w' base F' p' fv:=by
 obtain ⟨r,lo,hi,hch⟩:=h.ch;refine ⟨by rw [e1];exact hb,⟨r,lo,hi,?_⟩,by rw [e1,e2];exact h.hg,qi.chg hc (qF qi h.blk (by decide)),qp.chg hc (qF qp h.blk (by decide)),qd.chg hc (qF qd h.blk (by decide)),ne,ok⟩;rw [e2];exact hch.chg hc (h.ne_pg _ (.inl rfl))
end
section
variable {σ:Type} {H:Hnd σ} {w w':World} {base:Nat} {F F':PF} {p p':PS} {fv:Value} {S S':Nat->Prop} {s s':σ}
structure PH (H:Hnd σ) (w:World) (base:Nat) (F:PF) (p:PS) (fv:Value) (S:Nat->Prop) (s:σ):Prop where
 par:ParsM w base F p fv
 m:H.M w S s
 dj:∀k,vE F k->¬S k
structure PhT (H:Hnd σ) (base:Nat) (w:World) (F:PF) (S:Nat->Prop) (F':PF) (S':Nat->Prop) (p':PS) (fv:Value) (s':σ) (w':World):Prop where
 m:PH H w' base F' p' fv S' s'
 old:∀k,(vE F' k\/S' k)->(vE F k\/S k)\/w.heap.size<=k
 chg:Chg (λk=>vE F k\/S k) w w'
 pg:F'.pg=F.pg
theorem PhT.refl (h:PH H w base F p fv S s):PhT H base w F S F S p fv s w:=⟨h,λk hk=>.inl hk,Chg.refl _ _,rfl⟩
theorem PhT.trans {w1 w2:World} {F1 F2:PF} {S1 S2:Nat->Prop} {p1 p2:PS} {s1 s2:σ} (h:PhT H base w F S F1 S1 p1 fv s1 w1) (h2:PhT H base w1 F1 S1 F2 S2 p2 fv s2 w2):PhT H base w F S F2 S2 p2 fv s2 w2:=by
 have hs:=h.chg.size;refine ⟨h2.m,λk hk=>?_,h.chg.trans h2.chg λi hi hk=>?_,h2.pg.trans h.pg⟩
 ·rcases h2.old k hk with h3 | h3
  ·exact h.old k h3
  ·right;omega
 ·rcases h.old i hk with h3 | h3
  ·exact h3
  ·omega
theorem PH.ext (hH:HndOk H base fv) (h:PH H w base F p fv S s) (hB:Uc w w'):PhT H base w F S F S p fv s w' :=
 ⟨⟨h.par.ext hB,hH.keep h.m (Chg.of_ext (S:=λ_=>False) hB) (λ_ _ h=>h) (λ_ _ h=>h.elim) (λ_ h=>h.elim),h.dj⟩,λk hk=>.inl hk,Chg.of_ext hB,rfl⟩
theorem PH.drew (hH:HndOk H base fv) (h:PH H w base F p fv S s):PhT H base w F S F S p fv s w.drew:=h.ext hH ((Below.refl _ w).drew)
theorem PH.base_le (h:PH H w base F p fv S s):base<=w.heap.size:=Nat.le_trans h.par.hg.1 (Nat.le_of_lt h.par.blk.lt)
theorem PH.own (hH:HndOk H base fv) (h:PH H w base F p fv S s) (hp:ParsM w' base F' p' fv) (hc:Chg (vE F) w w') (ho:∀k,vE F' k->vE F k\/w.heap.size<=k) (e:F'.pg=F.pg):PhT H base w F S F' S p' fv s w':=by
 refine ⟨⟨hp,hH.keep h.m hc (λk hk hp=>h.dj k hp hk) h.par.far (λk hk=>(h.par.below k hk).1),λk hk hs=>?_⟩,λk hk=>?_,hc.mono λk _ hk=>.inl hk,e⟩
 ·rcases ho k hk with h1 | h1
  ·exact h.dj k h1 hs
  ·have:=(hH.lt h.m k hs).2;omega
 ·rcases hk with hk | hk
  ·rcases ho k hk with h1 | h1
   ·exact .inl (.inl h1)
   ·exact .inr h1
  ·exact .inl (.inr hk)
theorem PH.put (hH:HndOk H base fv) (h:PH H w base F p fv S s) (hb:Blk w' F.pg Zh (q44 F' p' fv)) (hc:Chg (λk=>k=F.pg) w w') (e1:F'.pg=F.pg) (e2:F'.cg=F.cg)
  (qi:Go.Vc.Own qm w base F'.qi p'.inter) (qp:Go.Vc.Own zw w base F'.qp p'.params) (qd:Go.Vc.Own qm w base F'.qd p'.data) (bi:∀k,F'.qi.blk=some k->F.qi.blk=some k) (bp:∀k,F'.qp.blk=some k->F.qp.blk=some k) (bd:∀k,F'.qd.blk=some k->F.qd.blk=some k) (ok:PsOk p'):PhT H base w F S F' S p' fv s w':=by
 refine h.own hH (h.par.put hb hc e1 e2 qi qp qd (λk hk hk'=>h.par.ne k (bi k hk) (bd k hk')) ok) (hc.mono λk _ e=>.inl e) ?_ e1;rintro k (hk | hk | hk | hk | hk)
 ·exact .inl (.inl (hk.trans e1))
 ·exact .inl (.inr (.inl (hk.trans e2)))
 ·exact .inl (.inr (.inr (.inl (bi k hk))))
 ·exact .inl (.inr (.inr (.inr (.inl (bp k hk)))))
 ·exact .inl (.inr (.inr (.inr (.inr (bd k hk)))))
theorem PH.st (hH:HndOk H base fv) (h:PH H w base F p fv S s) {i:Nat} {v:Value} (p':PS) (hi:i<12) (he:(q44 F p fv).set i v=q44 F p' fv) (ei:p'.inter=p.inter) (ep:p'.params=p.params) (ed:p'.data=p.data) (ok:PsOk p') {K:Ub}
  (hK:∀w',PhT H base w F S F S p' fv s w'->K w'):stK ((⟨F.pg,0,none⟩:Addr).add i) [v] w K:=by
 rw [q4];refine qw h.par.blk (by show 0+i+1<=12;omega) λw1 hb hg hs=>hK w1 ?_;have e:putL (q44 F p fv) (0+i) [v]=q44 F p' fv:=by rw [Nat.zero_add,<-he];rfl
 rw [e] at hb;exact h.put hH hb (Go.Vc.Chg.gg hg) rfl rfl (by rw [ei];exact h.par.qi) (by rw [ep];exact h.par.qp) (by rw [ed];exact h.par.qd) (λ_ h=>h) (λ_ h=>h) (λ_ h=>h) ok
theorem qkm {a:Addr} {w:World} {K:Value->Prop} {x:Value} (h:w.cell? a=some x) (hK:K x):ldR a w K:=⟨x,h,hK⟩
theorem qiw (hH:HndOk H base fv) (h:PH H w base F p fv S s) {v:EvP} {q d:Slc} (hok:H.ok s v) (hv:EvW w S q d v) {K:Ub} (hK:∀S' s' w',PhT H base w F S F S' p fv s' w'->H.R s v s'->K w'):jl C fv [agE v q d] [] w K :=
 hH.call h.m hok hv λw' S' s' hm hr hc ho=>hK S' s' w' ⟨⟨h.par.chg hc (λk hk=>h.dj k hk),hm,λk hk hs=>(ho k hs).elim (h.dj k hk) λhle=>by have:=(h.par.below k hk).2;omega⟩,
  λk hk=>hk.elim (λhk=>.inl (.inl hk)) λhk=>(ho k hk).elim (λh1=>.inl (.inr h1)) .inr,hc.mono λk _ hk=>.inr hk,rfl⟩ hr
theorem zhz {w:World} {S:Nat->Prop} {v:EvP} (e1:v.ps=[]) (e2:v.d=[]) (hb:0<=v.b/\v.b<=255) (hp:0<=v.pv/\v.pv<=255) (hi:v.i.length<=2):EvW w S ⟨none,0,0⟩ ⟨none,0,0⟩ v :=
 ⟨by rw [e1];exact Rd.nil _ _,(λa h=>by cases h),by rw [e2];exact Rd.nil _ _,(λa h=>by cases h),(by rw [e1];intro x hx;cases hx),by rw [e1];exact zero_le _,hb,hp,hi,by rw [e2];exact zero_le _⟩
theorem qof (hH:HndOk H base fv) (h:PH H w base F p fv S s) (k r b:Int) (hb:0<=b/\b<=255) (hok:H.ok s ⟨k,r,b,0,[],[],[]⟩) {K:Ub} (hK:∀S' s' w',PhT H base w F S F S' p fv s' w'->H.R s ⟨k,r,b,0,[],[],[]⟩ s'->K w') :
  ldR ((⟨F.pg,0,none⟩:Addr).add 11) w λt=>jl C t [(.agg #[(Ua k),(.int .i32 r),(.int .u8 b),(.int .u8 0),(.string (⟨#[]⟩:ByteArray)),(.slice none 0 0),(.slice none 0 0)])] [] w K :=
 qkm (x:=fv) (h.par.blk.cells 11 _ rfl) (qiw hH h (v:=⟨k,r,b,0,[],[],[]⟩) (q:=⟨none,0,0⟩) (d:=⟨none,0,0⟩) hok (zhz rfl rfl hb ⟨Int.le_refl 0,by show (0:Int)<=255;omega⟩ (zero_le _)) hK)
end
theorem qtt {T:Type} {E:El T} {w:World} {base:Nat} {q:Slc} {xs:List T} (h:Go.Vc.Own E w base q xs):∃r:Slc,(⟨cut q.a 0 q.c E.k,0-0,q.c-0⟩:Slc)=r/\Go.Vc.Own E w base r []/\∀k,r.blk=some k->q.blk=some k:=by
 rcases h.form with ⟨rfl,rfl⟩ | ⟨g,cur,hs,hg,hb,h1,h2,h3,h4⟩
 ·exact ⟨⟨none,0,0⟩,rfl,Go.Vc.Own.nil _ _ _,λk hk=>hk⟩
 ·refine ⟨⟨some ⟨g,0,none⟩,0,q.c⟩,?_,Go.Vc.Own.of_blk (xs:=[]) hg hb (zero_le _) h2 h3 (by simp [Zd]),λk hk=>by rw [hs];exact hk⟩;rw [hs];unfold cut;dsimp only;split
  ·rfl
  ·show (⟨some ((⟨g,0,none⟩:Addr).add (0*E.k)),0,_⟩:Slc)=_;rw [q4];simp
theorem qrz {s:Slc} {xs:List Int} {w:World} {K:Slc->Ub} (h:Rd zw w s xs) (hl:xs.length<=100000) (hK:∀r w',Go.Vc.Own zw w' w.heap.size r xs->Uc w w'->K r w'):xD s w K:=by
 refine qaq _ ?_;cases ha:s.a with
 | none =>
  have:=h.none_nil ha;subst this;exact cT rfl (hK _ _ (Go.Vc.Own.nil _ _ _) (Below.refl _ _))
 | some a =>
  refine cF rfl ?_;refine nwb λw1 hb1 hB1 hs1=>?_;refine jx zR (Yp (E:=zw) hb1 (le_refl _)) (h.ext hB1) (by omega) (by rw [ZL];simp;omega) (by simp only [maxLen];simp;omega) λr w2 ho hg hq=>?_;rw [List.nil_append] at ho;exact hK r w2 ho (hB1.grown hg (by omega) λg hg=>by cases hg;exact le_refl _)
section
variable {σ:Type} {H:Hnd σ} {w w':World} {base:Nat} {F F':PF} {p p':PS} {fv:Value} {S S':Nat->Prop} {s s':σ} {c:Int}
theorem ZU {K:Bool->Ub} (hK:K (qul c) w):xr c w K:=by
 refine qjj _ ?_;unfold qul at hK;refine cO (λe=>?_) λe=>?_
 ·rw [e,Bool.true_and] at hK;refine cO (λe2=>?_) λe2=>?_
  ·rw [e2,Bool.true_and] at hK;refine cO (λe3=>?_) λe3=>?_
   ·rw [e3,Bool.true_and] at hK;exact hK
   ·rw [e3,Bool.false_and] at hK;exact hK
  ·rw [e2,Bool.false_and] at hK;exact hK
 ·rw [e,Bool.false_and] at hK;exact hK
theorem PH.chars (hH:HndOk H base fv) (h:PH H w base F p fv S s) {r lo hi:Int} (hb:Blk w' F.cg YW [.int .i32 r,.int .i64 0,.int .u8 lo,.int .u8 hi]) (hc:Chg (λk=>k=F.cg) w w'):PhT H base w F S F S p fv s w':=by
 have hp:=h.par;obtain ⟨r0,l0,h0,hch⟩:=hp.ch;refine h.own hH ⟨hp.blk.chg hc (λe=>hp.ne_pg F.cg (.inl rfl) e.symm),⟨r,lo,hi,hb⟩,hp.hg,hp.qi.chg hc (qF hp.qi hch (by decide)),hp.qp.chg hc (qF hp.qp hch (by decide)),hp.qd.chg hc (qF hp.qd hch (by decide)),hp.ne,hp.ok⟩ (hc.mono λk _ e=>.inr (.inl e)) (λk hk=>.inl hk) rfl
theorem PH.ldCh (h:PH H w base F p fv S s) {K:Option Addr->Prop} (hK:K (some ⟨F.cg,0,none⟩)):ldP ((⟨F.pg,0,none⟩:Addr).add 2) w K:=qK (x:=some ⟨F.cg,0,none⟩) (h.par.blk.cells 2 _ rfl) hK
theorem qms (hH:HndOk H base fv) (h:PH H w base F p fv S s) {K:Slc->Ub} (hK:∀w',PhT H base w F S F S p fv s w'->K ⟨none,0,0⟩ w'):kC (some ⟨F.cg,0,none⟩) w K:=by
 refine qim _ ?_;obtain ⟨r0,l0,h0,hch⟩:=h.par.ch;refine qfo _ ?_;simp only [onPtr_some];refine lI (x:=0) (hch.cells 1 _ rfl) ?_;refine qw hch (by show 0+4<=4;omega) λw1 hb hg hs=>cF rfl (hK w1 ?_);exact h.chars hH (r:=0) (lo:=0) (hi:=0) hb (Go.Vc.Chg.gg hg)
theorem q6n (hH:HndOk H base fv) (h:PH H w base F p fv S s) (hc:0<=c/\c<128) {K:Slc->Ub} (hK:∀q w',Rd qzy w' q [c]->(∀a,q.a=some a->¬S a.block/\¬vE F a.block/\a.block<w'.heap.size)->PhT H base w F S F S p fv s w'->K q w'):JJ (some ⟨F.cg,0,none⟩) c w K:=by
 refine qin _ _ ?_;obtain ⟨r0,l0,h0,hch⟩:=h.par.ch;simp only [onPtr_some];refine lI (x:=0) (hch.cells 1 _ rfl) (cT rfl ?_);refine qex _ _ ?_;simp only [onPtr_some];refine qw hch (by show 0+4<=4;omega) λw1 hb hg hs=>?_;have h1:=h.chars hH (r:=0) (lo:=128) (hi:=191) hb (Go.Vc.Chg.gg hg);refine jpO λJ1 hJ1=>cT (dTq hc.2) ?_;refine nwb λw2 hb2 hB2 hs2=>?_;have e:IntKind.i32.wrap c=c:=by
  obtain ⟨m,hm⟩:∃m:Nat,c=m:=⟨c.toNat,by omega⟩;rw [hm];exact jE .i32 (by show _<2^31;omega)
 rw [e] at hb2;refine hK _ w2 (yg (E:=qzy) hb2 rfl) (λa ha=>?_) (h1.trans (h1.m.ext hH hB2));cases ha;exact ⟨λhs=>by have:=(hH.lt h1.m.m _ hs).2;exact Nat.lt_irrefl _ this,λhs=>by have:=(h1.m.par.below _ hs).2;exact Nat.lt_irrefl _ this,hb2.lt⟩
theorem qmn {K:Ub} (hK:K w):jk (some ⟨F.pg,0,none⟩) ⟨none,0,0⟩ w K:=by
 refine Z5 _ _ ?_;refine lpR (λ(st:Int×Unit) w2=>st.1=0/\w2=w) (λ_=>0) ⟨rfl,rfl⟩ ?_;rintro ⟨i,u⟩ w2 ⟨rfl,rfl⟩ I hI;exact cF rfl hK
theorem q94 (hH:HndOk H base fv) (h:PH H w base F p fv S s) {q:Slc} (hq:Rd qzy w q [c]) (hok:H.ok s (q0k c)) {K:Ub} (hK:∀S' s' w',PhT H base w F S F S' p fv s' w'->H.R s (q0k c) s'->K w'):jk (some ⟨F.pg,0,none⟩) q w K:=by
 refine Z5 _ _ ?_;simp only [onPtr_some];have hn:q.n=1:=hq.n;refine lpR (λ(st:Int×Unit) w2=>(st.1=0/\w2=w)\/(st.1=1/\∃S' s',PhT H base w F S F S' p fv s' w2/\H.R s (q0k c) s')) (λst=>1-st.1.toNat) (.inl ⟨rfl,rfl⟩) ?_;rintro ⟨i,u⟩ w2 (⟨rfl,rfl⟩ | ⟨rfl,S2,s2,h2,hr2⟩) I hI
 ·refine cT (by rw [hn];rfl) ?_;refine hq.ix (i:=0) rfl (by decide) (by simp) λhc=>lI (x:=c) (by simpa using hc 0 _ rfl) ?_;refine qof hH h 1 c 0 (by omega) hok λS' s' w' hT hr=>hI _ _ (.inr ⟨by show i64.wrap (0+1)=1;decide,S',s',hT,hr⟩) (by show 1-(i64.wrap (0+1)).toNat<1-(0:Int).toNat;decide)
 ·exact cF (by rw [hn];rfl) (hK S2 s2 w2 h2 hr2)
theorem zcp (h:PsOk p) (x:Int):PsOk (p.begin_ x):=⟨zero_le _,zero_le _,h.dl,⟨Int.le_refl 0,by show (0:Int)<=65535;omega⟩,⟨Int.le_refl 0,by show (0:Int)<=255;omega⟩,λy hy=>by cases hy⟩
theorem Yn (hH:HndOk H base fv) (h:PH H w base F p fv S s) (x:Int) {K:Ub} (hK:∀F' w',PhT H base w F S F' S (p.begin_ x) fv s w'->K w'):jC (some ⟨F.pg,0,none⟩) x w K:=by
 refine qdy _ _ ?_;simp only [onPtr_some];have ok:=h.par.ok;have z5:(0:Int)<=0/\(0:Int)<=65535:=by omega
 have z2:(0:Int)<=0/\(0:Int)<=255:=by omega
 refine h.st hH (i:=0) { p with st:=x } (by decide) rfl rfl rfl rfl ⟨ok.il,ok.pl,ok.dl,ok.la,ok.pv,ok.pr⟩ λw1 h1=>?_;refine h1.m.st hH (i:=3) { p with st:=x,priv:=0 } (by decide) rfl rfl rfl rfl ⟨ok.il,ok.pl,ok.dl,ok.la,z2,ok.pr⟩ λw2 h2=>?_;refine h2.m.st hH (i:=5) { p with st:=x,priv:=0,wrong:=false } (by decide) rfl rfl rfl rfl ⟨ok.il,ok.pl,ok.dl,ok.la,z2,ok.pr⟩ λw3 h3=>?_;refine h3.m.st hH (i:=6) { p with st:=x,priv:=0,wrong:=false,first:=true } (by decide) rfl rfl rfl rfl ⟨ok.il,ok.pl,ok.dl,ok.la,z2,ok.pr⟩ λw4 h4=>?_;refine h4.m.st hH (i:=8) { p with st:=x,priv:=0,wrong:=false,first:=true,some_:=false } (by decide) rfl rfl rfl rfl ⟨ok.il,ok.pl,ok.dl,ok.la,z2,ok.pr⟩ λw5 h5=>?_;refine h5.m.st hH (i:=9) { p with st:=x,priv:=0,wrong:=false,first:=true,some_:=false,last:=0 } (by decide) rfl rfl rfl rfl ⟨ok.il,ok.pl,ok.dl,z5,z2,ok.pr⟩ λw6 h6=>?_;have h06:=((((h1.trans h2).trans h3).trans h4).trans h5).trans h6;have h07:=h06.trans (h06.m.drew hH);generalize w6.drew=w7 at h07 ⊢;have hp:=h07.m.par;refine lSl (x:=F.qi) (hp.blk.cells 4 _ rfl) ?_;refine hp.qi.rd.slK (l:=0) (m:=0) rfl (.inl ⟨rfl,rfl⟩) (.inr rfl) (le_refl _) (zero_le _) λ_=>?_;refine lSl (x:=F.qp) (hp.blk.cells 7 _ rfl) ?_;refine hp.qp.rd.slK (l:=0) (m:=0) rfl (.inl ⟨rfl,rfl⟩) (.inr rfl) (le_refl _) (zero_le _) λ_=>?_;obtain ⟨q1,e1,o1,b1⟩:=qtt hp.qi;obtain ⟨q2,e2,o2,b2⟩:=qtt hp.qp;rw [e1,e2];rw [q4];refine qw hp.blk (by show 0+4+1<=12;omega) λw8 hb8 hg8 hs8=>?_;rw [q4];refine qw hb8 (by show 0+7+1<=(putL _ _ _).length;rw [Kf];show 8<=12;omega) λw9 hb9 hg9 hs9=>?_;refine hK { F with qi:=q1,qp:=q2 } w9 (h07.trans (h07.m.put hH hb9 ((Go.Vc.Chg.gg hg8).trans (Go.Vc.Chg.gg hg9) λi _ hi=>hi) rfl rfl o1 o2 hp.qd b1 b2 (λ_ h=>h) (zcp ok x)))
theorem qgg (hH:HndOk H base fv) (h:PH H w base F p fv S s) {b:Int} (hb:0<=b/\b<=255) (hok:jf H s (p.close b)) {K:Ub} (hK:∀S' s' w',PhT H base w F S F S' p fv s' w'->ZM H s (p.close b) s'->K w'):xn (some ⟨F.pg,0,none⟩) b w K:=by
 refine qdp _ _ ?_;simp only [onPtr_some];unfold PS.close at hok hK;refine lI (x:=p.st) (h.par.blk.cells 0 _ rfl) ?_;refine cO (λe=>?_) λe=>?_
 ·have e:p.st=5:=eq_of_beq e;rw [if_pos e] at hok hK;exact qof hH h 8 0 b hb hok.1 λS' s' w' hT hr=>hK S' s' w' hT ⟨s',hr,rfl⟩
 have e:¬p.st=5:=beq_eq_false_iff_ne.1 e;rw [if_neg e] at hok hK;refine cO (λe=>?_) λe=>?_
 ·have e:p.st=6:=eq_of_beq e;rw [if_pos e] at hok hK;exact qof hH h 11 0 b hb hok.1 λS' s' w' hT hr=>hK S' s' w' hT ⟨s',hr,rfl⟩
 have e:¬p.st=6:=beq_eq_false_iff_ne.1 e;rw [if_neg e] at hok hK;exact hK S s w (PhT.refl h) rfl
theorem q3p (hH:HndOk H base fv) (h:PH H w base F p fv S s) (hc:0<=c/\c<128) (hok:jf H s (p.ground c).2) {K:Ub} (hK:∀S' s' w',PhT H base w F S F S' p fv s' w'->ZM H s (p.ground c).2 s'->K w'):vn (some ⟨F.pg,0,none⟩) c w K:=by
 refine Y6 _ _ ?_;simp only [onPtr_some];unfold PS.ground at hok hK;dsimp only at hok hK;refine ZU (cO (λe=>?_) λe=>?_)
 ·rw [if_pos e] at hok hK;refine h.ldCh (qms hH h λw2 h2=>qmn ?_);exact qof hH h2.m 2 0 c (by omega) hok.1 λS' s' w' hT hr=>hK S' s' w' (h2.trans hT) ⟨s',hr,rfl⟩
 rw [if_neg (by rw [e];decide)] at hok hK;refine cO (λe2=>?_) λe2=>?_
 ·have e2:c=127:=eq_of_beq e2;rw [if_pos e2] at hok hK;exact h.ldCh (qms hH h λw2 h2=>qmn (hK S s w2 h2 rfl))
 ·have e2:¬c=127:=beq_eq_false_iff_ne.1 e2;rw [if_neg e2] at hok hK;refine h.ldCh (q6n hH h hc λq w2 hq hqn h2=>?_);exact q94 hH h2.m hq hok.1 λS' s' w' hT hr=>hK S' s' w' (h2.trans hT) ⟨s',hr,rfl⟩
theorem zf7 {c:Int} (hc:0<=c/\c<256):c=((UInt8.ofNat c.toNat).toNat:Int):=by
 have:(UInt8.ofNat c.toNat).toNat=c.toNat:=by
  rw [UInt8.toNat_ofNat'];omega
 rw [this];omega
theorem qq5 (hH:HndOk H base fv) (h:PH H w base F p fv S s) (hc:0<=c/\c<128) {K:Ub} (hK:∀F' w',PhT H base w F S F' S (p.keep c) fv s w'->K w'):kT (some ⟨F.pg,0,none⟩) c w K:=by
 refine qe0 _ _ ?_;simp only [onPtr_some];have ok:=h.par.ok;have hp:=h.par;unfold PS.keep at hK;refine lSl (x:=F.qi) (hp.blk.cells 4 _ rfl) ?_;have hn:F.qi.n=p.inter.length:=hp.qi.rd.n;rw [hn];refine cO (λe=>?_) λe=>?_
 ·have e:p.inter.length=2:=by have:=eq_of_beq e;omega
  rw [if_pos e] at hK;exact h.st hH (i:=5) { p with wrong:=true } (by decide) rfl rfl rfl rfl ⟨ok.il,ok.pl,ok.dl,ok.la,ok.pv,ok.pr⟩ λw1 h1=>hK F w1 h1
 ·have e:¬p.inter.length=2:=λh2=>by rw [h2] at e;exact absurd e (by decide)
  rw [if_neg e] at hK;refine lSl (x:=F.qi) (hp.blk.cells 4 _ rfl) ?_;refine zfn (c:=UInt8.ofNat c.toNat) (zf7 (by omega)) hp.qi h.base_le (by have:=ok.il;omega) λq w2 ho hc2 hq=>?_;have hni:=hp.ne_pg;have hb2:=hp.blk.chg hc2 λe=>hni _ (.inr (.inl e)) rfl;rw [q4];refine qw hb2 (by show 0+4+1<=12;omega) λw3 hb3 hg3 hs3=>?_;have z2:=hc2.size;have c3:Chg (λk=>F.qi.blk=some k\/k=F.pg) w w3:=(hc2.mono λk _ e=>.inl e).trans (Go.Vc.Chg.gg hg3) λk _ e=>.inr e;obtain ⟨r0,l0,h0,hch⟩:=hp.ch;have nq:∀k,F.qi.blk=some k->k≠F.cg:=qF hp.qi hch (by decide);have hq':∀k,q.blk=some k->F.qi.blk=some k\/w.heap.size<=k:=λk hk=>by
   rcases hq with e | ⟨j,e,hj⟩
   ·exact .inl (e ▸ hk)
   ·rw [e] at hk;cases hk;exact .inr hj
  refine hK { F with qi:=q } w3 (h.own hH ⟨hb3,⟨r0,l0,h0,hch.chg c3 (λhh=>hh.elim (λe=>nq _ e rfl) λe=>hni _ (.inl rfl) e)⟩,hp.hg,ho.chg (Go.Vc.Chg.gg hg3) λk hk e=>?_,hp.qp.chg c3 ?_,hp.qd.chg c3 ?_,λk hk hk'=>?_,?_⟩ (c3.mono λk _ hk=>?_) (λk hk=>?_) rfl)
  ·rcases hq' k hk with h1 | h1
   ·exact hni k (.inr (.inl h1)) e
   ·have:=hp.blk.lt;omega
  ·rintro k hk (e | e)
   ·exact XK hp.qi hp.qp (by decide) k e hk
   ·exact hni k (.inr (.inr (.inl hk))) e
  ·rintro k hk (e | e)
   ·exact hp.ne k e hk
   ·exact hni k (.inr (.inr (.inr hk))) e
  ·rcases hq' k hk with h1 | h1
   ·exact hp.ne k h1 hk'
   ·have:=(hp.qd.lt k hk').2;omega
  ·exact ⟨by show (p.inter++_).length<=2;rw [length_append];have:=ok.il;simp;omega,ok.pl,ok.dl,ok.la,ok.pv,ok.pr⟩
  ·rcases hk with hk | hk
   ·exact .inr (.inr (.inl hk))
   ·exact .inl hk
  ·rcases hk with hk | hk | hk | hk | hk
   ·exact .inl (.inl hk)
   ·exact .inl (.inr (.inl hk))
   ·rcases hq' k hk with h1 | h1
    ·exact .inl (.inr (.inr (.inl h1)))
    ·exact .inr h1
   ·exact .inl (.inr (.inr (.inr (.inl hk))))
   ·exact .inl (.inr (.inr (.inr (.inr hk))))
theorem qv0 (hH:HndOk H base fv) (h:PH H w base F p fv S s) (x:Int) {K:Ub} (hK:∀w',PhT H base w F S F S { p with st:=x } fv s w'->K w'):stK ((⟨F.pg,0,none⟩:Addr).add 0) [.int .i64 x] w K :=
 h.st hH (i:=0) { p with st:=x } (by decide) rfl rfl rfl rfl ⟨h.par.ok.il,h.par.ok.pl,h.par.ok.dl,h.par.ok.la,h.par.ok.pv,h.par.ok.pr⟩ hK
theorem q4x (hH:HndOk H base fv) (h:PH H w base F p fv S s) (hok:∀r,p.opens c=some r->jf H s r.2) {K:Bool->Ub} (h1:∀r F' S' s' w',p.opens c=some r->PhT H base w F S F' S' r.1 fv s' w'->ZM H s r.2 s'->K true w') (h0:p.opens c=none->K false w):yB (some ⟨F.pg,0,none⟩) c w K:=by
 refine qem _ _ ?_;simp only [onPtr_some];unfold PS.opens at hok h1 h0;refine jpO λJ1 hJ1=>?_;refine cO (λe=>?_) λe=>?_
 ·rw [if_pos (eq_of_beq e)] at hok h1 h0;exact Yn hH h 2 λF' w' hT=>h1 _ F' S s w' rfl hT rfl
 rw [if_neg (beq_eq_false_iff_ne.1 e)] at hok h1 h0;refine cO (λe=>?_) λe=>?_
 ·rw [if_pos (eq_of_beq e)] at hok h1 h0;exact Yn hH h 3 λF' w' hT=>h1 _ F' S s w' rfl hT rfl
 rw [if_neg (beq_eq_false_iff_ne.1 e)] at hok h1 h0;refine cO (λe=>?_) λe=>?_
 ·rw [if_pos (eq_of_beq e)] at hok h1 h0;have hd:=h.drew hH;generalize w.drew=w1 at hd ⊢;have hp:=hd.m.par;refine lSl (x:=F.qd) (hp.blk.cells 10 _ rfl) ?_;refine hp.qd.rd.slK (l:=0) (m:=0) rfl (.inl ⟨rfl,rfl⟩) (.inr rfl) (le_refl _) (zero_le _) λ_=>?_;obtain ⟨q1,e1,o1,b1⟩:=qtt hp.qd;rw [e1,q4];refine qw hp.blk (by show 0+0+1<=12;omega) λw8 hb8 hg8 hs8=>?_;rw [q4];refine qw hb8 (by show 0+10+1<=(putL _ _ _).length;rw [Kf];show 11<=12;omega) λw9 hb9 hg9 hs9=>?_;have ok:=hp.ok;exact h1 _ { F with qd:=q1 } S s w9 rfl (hd.trans (hd.m.put (p':={ p with st:=4,data:=[] }) hH hb9 ((Go.Vc.Chg.gg hg8).trans (Go.Vc.Chg.gg hg9) λi _ hi=>hi) rfl rfl hp.qi hp.qp o1 (λ_ h=>h) (λ_ h=>h) b1 ⟨ok.il,ok.pl,zero_le _,ok.la,ok.pv,ok.pr⟩)) rfl
 rw [if_neg (beq_eq_false_iff_ne.1 e)] at hok h1 h0;refine cO (λe=>?_) λe=>?_
 ·rw [if_pos (eq_of_beq e)] at hok h1 h0;refine qv0 hH h 6 λw1 hT1=>?_;exact qof hH hT1.m 9 0 0 (by omega) (hok _ rfl).1 λS' s' w' hT hr=>h1 _ F S' s' w' rfl (hT1.trans hT) ⟨s',hr,rfl⟩
 rw [if_neg (beq_eq_false_iff_ne.1 e)] at hok h1 h0;have hx:(c=88\/c=94)->J1 () w:=λhx=>by
  rw [if_pos hx] at h1;exact hJ1 _ _ (qv0 hH h 7 λw1 hT1=>h1 _ F S s w1 rfl hT1 rfl)
 refine cO (λe=>hx (.inl (eq_of_beq e))) λe=>cO (λe2=>hx (.inr (eq_of_beq e2))) λe2=>?_;rw [if_neg (λhh=>hh.elim (beq_eq_false_iff_ne.1 e) (beq_eq_false_iff_ne.1 e2))] at h0;exact h0 rfl
theorem qlr (hH:HndOk H base fv) (h:PH H w base F p fv S s) (hc:0<=c/\c<128) (hok:jf H s (p.escape c).2) {K:Ub} (hK:∀F' S' s' w',PhT H base w F S F' S' (p.escape c).1 fv s' w'->ZM H s (p.escape c).2 s'->K w'):xu (some ⟨F.pg,0,none⟩) c w K:=by
 refine YJ _ _ ?_;simp only [onPtr_some];unfold PS.escape at hok hK;refine ZU (cO (λe=>?_) λe=>?_)
 ·rw [if_pos e] at hok hK;exact qof hH h 2 0 c (by omega) hok.1 λS' s' w' hT hr=>hK F S' s' w' hT ⟨s',hr,rfl⟩
 rw [if_neg (by rw [e];decide)] at hok hK;refine cF (dFq (by omega)) ?_;refine cO (λe=>?_) λe=>?_
 ·rw [if_pos (oTq e)] at hok hK;exact qq5 hH h hc λF' w' hT=>hK F' S s w' hT rfl
 rw [if_neg (oFq e)] at hok hK;refine cO (λe=>?_) λe=>?_
 ·rw [if_pos (eq_of_beq e)] at hok hK;exact hK F S s w (PhT.refl h) rfl
 rw [if_neg (beq_eq_false_iff_ne.1 e)] at hok hK;refine jpO λJ1 hJ1=>?_;have key:jf H s (p.escEnd c).2->(∀F' S' s' w',PhT H base w F S F' S' (p.escEnd c).1 fv s' w'->ZM H s (p.escEnd c).2 s'->K w')->J1 (true,()) w:=by
  intro hok hK;refine hJ1 _ _ (cT rfl ?_);unfold PS.escEnd at hok hK;refine qv0 hH h 0 λw1 hT1=>?_;have hp:=hT1.m.par;refine xP (x:=p.wrong) (hp.blk.cells 5 _ rfl) ?_;cases hw:p.wrong
  ·rw [hw,if_neg (by decide)] at hok;refine cT rfl ?_;have hd:=hT1.m.drew hH;generalize w1.drew=w2 at hd ⊢;have hp2:=hd.m.par;refine qkm (x:=fv) (hp2.blk.cells 11 _ rfl) (lSl (x:=F.qi) (hp2.blk.cells 4 _ rfl) ?_);refine yK hp2.qi.rd ⟨hp2.blk.cells 11 _ rfl,?_⟩;refine qiw hH hd.m (v:=⟨3,0,c,0,p.inter,[],[]⟩) (q:=⟨none,0,0⟩) (d:=⟨none,0,0⟩) hok.1 (zhz rfl rfl ⟨hc.1,by show c<=255;omega⟩ ⟨Int.le_refl 0,by show (0:Int)<=255;omega⟩ h.par.ok.il) λS' s' w' hT hr=>hK F S' s' w' ((hT1.trans hd).trans hT) (by rw [if_neg (by rw [hw];decide)];exact ⟨s',hr,rfl⟩)
  ·exact cF rfl (hK F S s w1 hT1 (by rw [if_pos hw];rfl))
 refine lSl (x:=F.qi) (h.par.blk.cells 4 _ rfl) ?_;have hn:F.qi.n=p.inter.length:=h.par.qi.rd.n;rw [hn];refine cO (λe=>?_) λe=>?_
 ·have e:=oTq e;have hne:p.inter≠[]:=λh2=>by rw [h2] at e;exact absurd e (by decide)
  rw [if_pos hne] at hok hK;exact key hok hK
 ·have e:=oFq e;have hnil:p.inter=[]:=List.eq_nil_of_length_eq_zero (by omega);rw [if_neg (λhh=>hh hnil)] at hok hK;refine q4x hH h (λr hr=>by rw [hr] at hok;exact hok) (λr F' S' s' w' hr hT hR=>?_) λhr=>?_
  ·rw [hr] at hK;exact hJ1 _ _ (cF rfl (hK F' S' s' w' hT hR))
  ·rw [hr] at hok hK;exact key hok hK
end
section
variable {σ:Type} {H:Hnd σ} {w w':World} {base:Nat} {F F':PF} {p p':PS} {fv:Value} {S S':Nat->Prop} {s s':σ} {c:Int}
theorem zfw (h:PsOk p):PsOk p.next:=by
 unfold PS.next;refine ⟨h.il,?_,h.dl,⟨Int.le_refl 0,by show (0:Int)<=65535;omega⟩,h.pv,?_⟩
 ·show (if p.params.length<16 then p.params++[p.last] else p.params).length<=16;split
  ·rw [length_append];simp;omega
  ·exact h.pl
 ·show ∀x∈(if p.params.length<16 then p.params++[p.last] else p.params),0<=x/\x<=65535;split
  ·intro x hx;rcases List.mem_append.1 hx with h1 | h1
   ·exact h.pr x h1
   ·rw [List.mem_singleton] at h1;rw [h1];exact h.la
  ·exact h.pr
theorem qq8 (hH:HndOk H base fv) (h:PH H w base F p fv S s) {K:Ub} (hK:∀F' w',PhT H base w F S F' S p.next fv s w'->K w'):vd (some ⟨F.pg,0,none⟩) w K:=by
 refine qgl _ ?_;simp only [onPtr_some];have hok:=zfw h.par.ok;have ok:=h.par.ok;unfold PS.next at hK hok;refine jpO λJ1 hJ1=>?_;have hp:=h.par;refine lSl (x:=F.qp) (hp.blk.cells 7 _ rfl) ?_;have hn:F.qp.n=p.params.length:=hp.qp.rd.n;rw [hn];refine cO (λe=>?_) λe=>?_
 ·have e:p.params.length<16:=by have:=oTq e;omega
  rw [if_pos e] at hK hok;have hd:=h.drew hH;generalize w.drew=w1 at hd ⊢;have hp:=hd.m.par;refine lSl (x:=F.qp) (hp.blk.cells 7 _ rfl) (lI (x:=p.last) (hp.blk.cells 9 _ rfl) ?_);refine nwb λw2 hb2 hB2 hs2=>?_;have h2:=hd.trans (hd.m.ext hH hB2);have hp2:=h2.m.par;refine ⟨hp2.blk.cells 7 _ rfl,?_⟩;refine jx zR hp2.qp (yg (E:=zw) hb2 rfl) h2.m.base_le (by rw [ZL];simp;omega) (by simp only [maxLen];simp;omega) λq w3 ho hg hq=>?_;have hc3:Chg (λk=>F.qp.blk=some k) w2 w3:=Chg.of_grown hg λk hk=>hk;have hni:=hp2.ne_pg;have hb3:=hp2.blk.chg hc3 λe=>hni _ (.inr (.inr (.inl e))) rfl;rw [q4];refine qw hb3 (by show 0+7+1<=12;omega) λw4 hb4 hg4 hs4=>?_;have z3:=hc3.size;have c4:Chg (λk=>F.qp.blk=some k\/k=F.pg) w2 w4:=(hc3.mono λk _ e=>.inl e).trans (Go.Vc.Chg.gg hg4) λk _ e=>.inr e;obtain ⟨r0,l0,h0,hch⟩:=hp2.ch;have nq:∀k,F.qp.blk=some k->k≠F.cg:=qF hp2.qp hch (by decide);have hq':∀k,q.blk=some k->F.qp.blk=some k\/w2.heap.size<=k:=λk hk=>by
   rcases hq with e | e
   ·exact .inl (e ▸ hk)
   ·rw [e] at hk;cases hk;exact .inr (le_refl _)
  have h4:PhT H base w F S { F with qp:=q } S { p with params:=p.params++[p.last] } fv s w4:=by
   refine h2.trans (h2.m.own hH ⟨hb4,⟨r0,l0,h0,hch.chg c4 (λhh=>hh.elim (λe=>nq _ e rfl) λe=>hni _ (.inl rfl) e)⟩,hp2.hg,hp2.qi.chg c4 ?_,ho.chg (Go.Vc.Chg.gg hg4) λk hk e=>?_,hp2.qd.chg c4 ?_,hp2.ne,⟨ok.il,hok.pl,ok.dl,ok.la,ok.pv,hok.pr⟩⟩ (c4.mono λk _ hk=>?_) (λk hk=>?_) rfl)
   ·rintro k hk (e | e)
    ·exact XK hp2.qp hp2.qi (by decide) k e hk
    ·exact hni k (.inr (.inl hk)) e
   ·rcases hq' k hk with h1 | h1
    ·exact hni k (.inr (.inr (.inl h1))) e
    ·have:=hp2.blk.lt;omega
   ·rintro k hk (e | e)
    ·exact XK hp2.qp hp2.qd (by decide) k e hk
    ·exact hni k (.inr (.inr (.inr hk))) e
   ·rcases hk with hk | hk
    ·exact .inr (.inr (.inr (.inl hk)))
    ·exact .inl hk
   ·rcases hk with hk | hk | hk | hk | hk
    ·exact .inl (.inl hk)
    ·exact .inl (.inr (.inl hk))
    ·exact .inl (.inr (.inr (.inl hk)))
    ·rcases hq' k hk with h1 | h1
     ·exact .inl (.inr (.inr (.inr (.inl h1))))
     ·exact .inr h1
    ·exact .inl (.inr (.inr (.inr (.inr hk))))
  refine hJ1 _ _ (h4.m.st hH (i:=9) { p with params:=p.params++[p.last],last:=0 } (by decide) rfl rfl rfl rfl hok λw5 h5=>hK _ w5 (h4.trans h5))
 ·have e:¬p.params.length<16:=λh2=>oFq e (by omega);rw [if_neg e] at hK hok;exact hJ1 _ _ (h.st hH (i:=9) { p with last:=0 } (by decide) rfl rfl rfl rfl hok λw5 h5=>hK F w5 h5)
theorem q62 (hH:HndOk H base fv) (h:PH H w base F p fv S s) (hc:0<=c/\c<128) (hok:jf H s (p.final c).2) {K:Ub} (hK:∀F' S' s' w',PhT H base w F S F' S' (p.final c).1 fv s' w'->ZM H s (p.final c).2 s'->K w'):yG (some ⟨F.pg,0,none⟩) c w K:=by
 refine qd1 _ _ ?_;simp only [onPtr_some];unfold PS.final at hok hK;dsimp only at hok hK;refine jpO λJ1 hJ1=>?_;have key:∀k:Int,k=(if p.st=3 then 6 else 4)->J1 (k,()) w:=by
  rintro k hk;refine hJ1 _ _ ?_;refine jpO λJ2 hJ2=>?_;have key2:∀w1,PhT H base w F S F S { p with st:=if p.st≠3 then 0 else if p.wrong then 7 else 5 } fv s w1->J2 () w1:=by
   intro w1 h1;refine hJ2 _ _ ?_;refine xP (x:=p.wrong) (h1.m.par.blk.cells 5 _ rfl) ?_;cases hw:p.wrong
   ·have hwn:¬p.wrong=true:=by rw [hw];decide
    simp only [if_neg hwn] at hok hK h1;refine cF rfl ?_;refine jpO λJ3 hJ3=>?_;have key3:∀(p2:PS) F2 w2,PhT H base w F S F2 S p2 fv s w2->p2.priv=p.priv->p2.inter=p.inter->(if p.some_ then ({ p with st:=if p.st≠3 then 0 else 5 }:PS).next else { p with st:=if p.st≠3 then 0 else 5 })=p2->J3 () w2:=by
     intro p2 F2 w2 h2 e1 e2 e3;rw [e3] at hok hK;refine hJ3 _ _ ?_;have hpg:=h2.pg;rw [<-hpg];have hd:=h2.trans (h2.m.drew hH);generalize w2.drew=w3 at hd ⊢;have hp:=hd.m.par;refine qkm (x:=fv) (hp.blk.cells 11 _ rfl) (lI (x:=p2.priv) (hp.blk.cells 3 _ rfl) (lSl (x:=F2.qp) (hp.blk.cells 7 _ rfl) (lSl (x:=F2.qi) (hp.blk.cells 4 _ rfl) ?_)));have fin:∀(q:Slc) w4,Go.Vc.Own zw w4 w3.heap.size q p2.params->Uc w3 w4->(∀K':Ub,(∀S' s' w',PhT H base w F S F2 S' p2 fv s' w'->H.R s ⟨k,0,c,p2.priv,p2.inter,p2.params,[]⟩ s'->K' w')->jl C fv [agE ⟨k,0,c,p2.priv,p2.inter,p2.params,[]⟩ q ⟨none,0,0⟩] [] w4 K'):=by
      intro q w4 ho hB K' hK';have h4:=hd.trans (hd.m.ext hH hB);refine qiw hH h4.m (v:=⟨k,0,c,p2.priv,p2.inter,p2.params,[]⟩) (q:=q) (d:=⟨none,0,0⟩) ?_ ⟨ho.rd,(λa ha=>?_),Rd.nil _ _,(λa ha=>by cases ha),hp.ok.pr,hp.ok.pl,⟨hc.1,by show c<=255;omega⟩,hp.ok.pv,hp.ok.il,zero_le _⟩ λS' s' w' hT hr=>hK' S' s' w' (h4.trans hT) hr
      ·have:=hok.1;rw [hk,e1,e2];exact this
      ·have h5:=ho.lt a.block (slk.2 ⟨a,ha,rfl⟩);exact ⟨λhs=>by have:=(hH.lt hd.m.m _ hs).2;omega,h5.2⟩
     refine ⟨?_,?_⟩
     ·refine qrz hp.qp.rd (by have:=hp.ok.pl;omega) λq w4 ho hB=>?_;have hp4:=hp.ext hB;refine ⟨hp4.blk.cells 4 _ rfl,hp4.blk.cells 3 _ rfl,hp4.blk.cells 11 _ rfl,?_⟩;refine yK hp4.qi.rd ⟨hp4.blk.cells 7 _ rfl,hp4.blk.cells 3 _ rfl,hp4.blk.cells 11 _ rfl,?_⟩;exact fin q w4 ho hB K λS' s' w' hT hr=>hK F2 S' s' w' hT ⟨s',by rw [hk,e1,e2] at hr;exact hr,rfl⟩
     ·refine yK hp.qi.rd ⟨hp.blk.cells 7 _ rfl,hp.blk.cells 3 _ rfl,hp.blk.cells 11 _ rfl,?_⟩;refine qrz hp.qp.rd (by have:=hp.ok.pl;omega) λq w4 ho hB=>?_;have hp4:=hp.ext hB;refine ⟨hp4.blk.cells 4 _ rfl,hp4.blk.cells 3 _ rfl,hp4.blk.cells 11 _ rfl,?_⟩;exact fin q w4 ho hB K λS' s' w' hT hr=>hK F2 S' s' w' hT ⟨s',by rw [hk,e1,e2] at hr;exact hr,rfl⟩
    refine xP (x:=p.some_) (h1.m.par.blk.cells 8 _ rfl) ?_;cases hs:p.some_
    ·exact cF rfl (key3 _ F w1 h1 rfl rfl (if_neg (by rw [hs];decide)))
    ·exact cT rfl (qq8 hH h1.m λF2 w2 h2=>key3 _ F2 w2 (h1.trans h2) rfl rfl (if_pos hs))
   ·simp only [if_pos hw] at hok hK h1;exact cT rfl (hK F S s w1 h1 rfl)
  refine cO (λe=>?_) λe=>?_
  ·have e:k=4:=eq_of_beq e;have h3:p.st≠3:=λh3=>by rw [if_pos h3] at hk;omega
   refine qv0 hH h 0 λw1 h1=>key2 w1 ?_;rw [if_pos h3];exact h1
  ·have e:¬k=4:=beq_eq_false_iff_ne.1 e;have h3:p.st=3:=by
    by_cases h3:p.st=3
    ·exact h3
    ·rw [if_neg h3] at hk;exact absurd hk e
   refine xP (x:=p.wrong) (h.par.blk.cells 5 _ rfl) ?_;cases hw:p.wrong
   ·refine cF rfl (qv0 hH h 5 λw1 h1=>key2 w1 ?_);rw [if_neg (λhh=>hh h3),if_neg (by rw [hw];decide)];exact h1
   ·refine cT rfl (qv0 hH h 7 λw1 h1=>key2 w1 ?_);rw [if_neg (λhh=>hh h3),if_pos hw];exact h1
 refine lI (x:=p.st) (h.par.blk.cells 0 _ rfl) ?_;refine cO (λe=>?_) λe=>?_
 ·exact key 6 (by rw [if_pos (eq_of_beq e)])
 ·exact key 4 (by rw [if_neg (beq_eq_false_iff_ne.1 e)])
end
section
variable {σ:Type} {H:Hnd σ} {w w':World} {base:Nat} {F F':PF} {p p':PS} {fv:Value} {S S':Nat->Prop} {s s':σ} {c:Int}
theorem qrc (hH:HndOk H base fv) (h:PH H w base F p fv S s) (hc:0<=c/\c<128) (hok:jf H s (p.head c).2) {K:Ub} (hK:∀F' S' s' w',PhT H base w F S F' S' (p.head c).1 fv s' w'->ZM H s (p.head c).2 s'->K w'):kh (some ⟨F.pg,0,none⟩) c w K:=by
 refine qcp _ _ ?_;simp only [onPtr_some];refine xP (x:=p.first) (h.par.blk.cells 6 _ rfl) ?_;refine jpO λJ1 hJ1=>?_;unfold PS.head at hok hK;dsimp only at hok hK;obtain ⟨fb,hfb⟩:∃fb,fb=(p.first && (qul c || c==127)):=⟨_,rfl⟩;rw [<-hfb] at hok hK;have key:∀w1,PhT H base w F S F S { p with first:=fb } fv s w1->J1 () w1:=by
  intro w1 h1;refine hJ1 _ _ ?_;have ok:=h1.m.par.ok;refine ZU (cO (λe=>?_) λe=>?_)
  ·rw [if_pos e] at hok hK;refine lI (x:=p.st) (h1.m.par.blk.cells 0 _ rfl) (cO (λe=>?_) λe=>?_)
   ·have e:p.st=2:=eq_of_beq e;rw [if_pos e] at hok hK;exact qof hH h1.m 2 0 c (by omega) hok.1 λS' s' w' hT hr=>hK F S' s' w' (h1.trans hT) ⟨s',hr,rfl⟩
   ·have e:¬p.st=2:=beq_eq_false_iff_ne.1 e;rw [if_neg e] at hok hK;exact hK F S s w1 h1 rfl
  rw [if_neg (by rw [e];decide)] at hok hK;refine cF (dFq (by omega)) ?_;refine cO (λe=>?_) λe=>?_
  ·rw [if_pos (oTq e)] at hok hK;exact qq5 hH h1.m hc λF' w' hT=>hK F' S s w' (h1.trans hT) rfl
  have e47:=oFq e;rw [if_neg e47] at hok hK;refine cO (λe=>?_) λe=>?_
  ·rw [if_pos (eq_of_beq e)] at hok hK;exact hK F S s w1 h1 rfl
  rw [if_neg (beq_eq_false_iff_ne.1 e)] at hok hK;have hn:F.qi.n=p.inter.length:=h1.m.par.qi.rd.n;have wrg:∀(X:Ub),(∀w2,PhT H base w F S F S { p with first:=fb,wrong:=p.wrong || decide (p.inter≠[]) } fv s w2->X w2) ->
    ldB ((⟨F.pg,0,none⟩:Addr).add 5) w1 λt61=>cond t61 (stK ((⟨F.pg,0,none⟩:Addr).add 5) [(.bool true)] w1 λw9=>X w9) (jy ((⟨F.pg,0,none⟩:Addr).add 4) w1 λt66=>stK ((⟨F.pg,0,none⟩:Addr).add 5) [(.bool (decide (((t66.n:Nat):Int)>(0:Int))))] w1 λw10=>X w10):=by
   intro X hX;refine xP (x:=p.wrong) (h1.m.par.blk.cells 5 _ rfl) ?_;have st:∀b:Bool,b=(p.wrong || decide (p.inter≠[]))->stK ((⟨F.pg,0,none⟩:Addr).add 5) [(.bool b)] w1 λw9=>X w9:=by
    rintro b hb;rw [<-hb] at hX;exact h1.m.st hH (i:=5) { p with first:=fb,wrong:=b } (by decide) rfl rfl rfl rfl ⟨ok.il,ok.pl,ok.dl,ok.la,ok.pv,ok.pr⟩ λw2 h2=>hX w2 (h1.trans h2)
   cases hw:p.wrong
   ·refine cF rfl (lSl (x:=F.qi) (h1.m.par.blk.cells 4 _ rfl) (st _ ?_));rw [hw,Bool.false_or,hn];by_cases hi:p.inter=[]
    ·rw [hi];rfl
    ·rw [dTq hi,dTq];have:=List.length_pos_iff.2 hi;omega
   ·exact cT rfl (st _ (by rw [hw,Bool.true_or]))
  refine cO (λe=>?_) λe=>?_
  ·have e57:=oTq e;rw [if_pos e57] at hok hK;refine jpO λJ2 hJ2=>?_;refine wrg (λw2=>J2 () w2) λw2 h2=>hJ2 _ _ ?_;have ok2:=h2.m.par.ok;refine h2.m.st hH (i:=8) { p with first:=fb,wrong:=p.wrong || decide (p.inter≠[]),some_:=true } (by decide) rfl rfl rfl rfl ⟨ok2.il,ok2.pl,ok2.dl,ok2.la,ok2.pv,ok2.pr⟩ λw3 h3=>?_;refine lI (x:=p.last) (h3.m.par.blk.cells 9 _ rfl) ?_;have hla:=ok.la;have w1':IntKind.u8.wrap (c-48)=c-48:=by
    obtain ⟨m,hm⟩:∃m:Nat,c-48=m:=⟨(c-48).toNat,by omega⟩;rw [hm];exact jE .u8 (by show _<2^8;omega)
   have hla:0<=p.last/\p.last<=65535:=hla;rw [w1',qP (x:=c-48) (by omega),qP (x:=10*p.last) (by omega),qP (x:=10*p.last+(c-48)) (by omega)];refine h3.m.st hH (i:=9) { p with first:=fb,wrong:=p.wrong || decide (p.inter≠[]),some_:=true,last:=if 65535<10*p.last+(c-48) then 65535 else 10*p.last+(c-48) } (by decide) rfl rfl rfl rfl ?_ λw4 h4=>hK F S s w4 (h2.trans (h3.trans h4)) rfl;refine ⟨ok2.il,ok2.pl,ok2.dl,?_,ok2.pv,ok2.pr⟩;show 0<=(if 65535<10*p.last+(c-48) then 65535 else 10*p.last+(c-48))/\(if 65535<10*p.last+(c-48) then 65535 else 10*p.last+(c-48))<=65535;split<;>omega
  have e57:=oFq e;rw [if_neg e57] at hok hK;refine cO (λe=>?_) λe=>?_
  ·have e59:c=59:=eq_of_beq e;rw [if_pos e59] at hok hK;refine jpO λJ3 hJ3=>?_;refine wrg (λw2=>J3 () w2) λw2 h2=>hJ3 _ _ ?_;have ok2:=h2.m.par.ok;refine h2.m.st hH (i:=8) { p with first:=fb,wrong:=p.wrong || decide (p.inter≠[]),some_:=true } (by decide) rfl rfl rfl rfl ⟨ok2.il,ok2.pl,ok2.dl,ok2.la,ok2.pv,ok2.pr⟩ λw3 h3=>?_;exact qq8 hH h3.m λF4 w4 h4=>hK F4 S s w4 (h2.trans (h3.trans h4)) rfl
  have e59:¬c=59:=beq_eq_false_iff_ne.1 e;rw [if_neg e59] at hok hK;refine jpO λJ4 hJ4=>?_;have end_:∀b:Bool,b=decide (60<=c/\c<=63/\p.first=true)->J4 (b,()) w1:=by
   intro b hb;refine hJ4 _ _ (cO (λe=>?_) λe=>?_)
   ·have e:b=true:=e;rw [e] at hb;have hb:=oTq hb.symm;rw [if_pos hb] at hok hK;exact h1.m.st hH (i:=3) { p with first:=fb,priv:=c } (by decide) rfl rfl rfl rfl ⟨ok.il,ok.pl,ok.dl,ok.la,⟨hc.1,by show c<=255;omega⟩,ok.pr⟩ λw2 h2=>hK F S s w2 (h1.trans h2) rfl
   ·have e:b=false:=e;rw [e] at hb;have hb:=oFq hb.symm;rw [if_neg hb] at hok hK;refine cO (λe=>?_) λe=>?_
    ·rw [if_pos (oTq e)] at hok hK;exact h1.m.st hH (i:=5) { p with first:=fb,wrong:=true } (by decide) rfl rfl rfl rfl ⟨ok.il,ok.pl,ok.dl,ok.la,ok.pv,ok.pr⟩ λw2 h2=>hK F S s w2 (h1.trans h2) rfl
    ·rw [if_neg (oFq e)] at hok hK;exact q62 hH h1.m hc hok λF' S' s' w' hT hr=>hK F' S' s' w' (h1.trans hT) hr
  refine cO (λe=>?_) λe=>?_
  ·have e:=oTq e;refine cO (λe2=>?_) λe2=>?_
   ·have e2:=oTq e2;refine end_ _ ?_;cases p.first
    ·rw [dFq];rintro ⟨_,_,h⟩;cases h
    ·rw [dTq];exact ⟨e,e2,rfl⟩
   ·have e2:=oFq e2;exact end_ _ (by rw [dFq];rintro ⟨_,h,_⟩;exact e2 h)
  ·have e:=oFq e;exact end_ _ (by rw [dFq];rintro ⟨h,_,_⟩;exact e h)
 have ok:=h.par.ok;have st:∀b:Bool,b=fb->stK ((⟨F.pg,0,none⟩:Addr).add 6) [(.bool b)] w λw9=>J1 () w9:=by
  rintro b rfl;exact h.st hH (i:=6) { p with first:=b } (by decide) rfl rfl rfl rfl ⟨ok.il,ok.pl,ok.dl,ok.la,ok.pv,ok.pr⟩ λw2 h2=>key w2 h2
 cases hf:p.first
 ·refine cF rfl (st _ ?_);rw [hfb,hf,Bool.false_and]
 ·refine cT rfl (ZU (cO (λe=>?_) λe=>?_))
  ·exact st _ (by rw [hfb,hf,e];rfl)
  ·exact st _ (by rw [hfb,hf,e];rfl)
theorem qr6 (hH:HndOk H base fv) (h:PH H w base F p fv S s) (hok:H.ok s (JK 5 p.data)) {K:Ub} (hK:∀S' s' w',PhT H base w F S F S' p fv s' w'->H.R s (JK 5 p.data) s'->K w'):kY (some ⟨F.pg,0,none⟩) w K:=by
 refine qfs _ ?_;simp only [onPtr_some];have hd:=h.drew hH;generalize w.drew=w1 at hd ⊢;have hp:=hd.m.par;refine qkm (x:=fv) (hp.blk.cells 11 _ rfl) (lSl (x:=F.qd) (hp.blk.cells 10 _ rfl) ?_);refine qa5 hp.qd.rd (by have:=hp.ok.dl;omega) λq w2 ho hB=>?_;have h2:=hd.trans (hd.m.ext hH hB);refine ⟨h2.m.par.blk.cells 11 _ rfl,?_⟩;refine qiw hH h2.m (v:=JK 5 p.data) (q:=⟨none,0,0⟩) (d:=q) hok ⟨Rd.nil _ _,(λa ha=>by cases ha),ho.rd,(λa ha=>?_),(λx hx=>by cases hx),zero_le _,⟨Int.le_refl 0,by show (0:Int)<=255;omega⟩,⟨Int.le_refl 0,by show (0:Int)<=255;omega⟩,zero_le _,by show p.data.length<=_;have:=hp.ok.dl;omega⟩ λS' s' w' hT hr=>hK S' s' w' (h2.trans hT) hr;have h5:=ho.lt a.block (slk.2 ⟨a,ha,rfl⟩);exact ⟨λhs=>by have:=(hH.lt hd.m.m _ hs).2;omega,h5.2⟩
theorem q9q (hH:HndOk H base fv) (h:PH H w base F p fv S s) {q:Slc} {bs:List UInt8} (hq:Rd qm w q bs) (hl:bs.length<=1000000) (hok:H.ok s (JK (if p.st=6 then 10 else 7) bs)) {K:Ub} (hK:∀S' s' w',PhT H base w F S F S' p fv s' w'->H.R s (JK (if p.st=6 then 10 else 7) bs) s'->K w'):xe (some ⟨F.pg,0,none⟩) q w K:=by
 refine qcf _ _ ?_;simp only [onPtr_some];refine jpO λJ1 hJ1=>?_;have key:∀k:Int,k=(if p.st=6 then 10 else 7)->J1 (k,()) w:=by
  rintro k hk;rw [<-hk] at hok hK;refine hJ1 _ _ ?_;have hd:=h.drew hH;have hq1:Rd qm w.drew q bs:=hq.drew;generalize w.drew=w1 at hd hq1 ⊢;have hp:=hd.m.par;refine qkm (x:=fv) (hp.blk.cells 11 _ rfl) ?_;refine qa5 hq1 (by omega) λq2 w2 ho hB=>?_;have h2:=hd.trans (hd.m.ext hH hB);refine ⟨h2.m.par.blk.cells 11 _ rfl,?_⟩;refine qiw hH h2.m (v:=JK k bs) (q:=⟨none,0,0⟩) (d:=q2) hok ⟨Rd.nil _ _,(λa ha=>by cases ha),ho.rd,(λa ha=>?_),(λx hx=>by cases hx),zero_le _,⟨Int.le_refl 0,by show (0:Int)<=255;omega⟩,⟨Int.le_refl 0,by show (0:Int)<=255;omega⟩,zero_le _,hl⟩ λS' s' w' hT hr=>hK S' s' w' (h2.trans hT) hr;have h5:=ho.lt a.block (slk.2 ⟨a,ha,rfl⟩);exact ⟨λhs=>by have:=(hH.lt hd.m.m _ hs).2;omega,h5.2⟩
 refine lI (x:=p.st) (h.par.blk.cells 0 _ rfl) (cO (λe=>?_) λe=>?_)
 ·exact key 10 (by rw [if_pos (eq_of_beq e)])
 ·exact key 7 (by rw [if_neg (beq_eq_false_iff_ne.1 e)])
theorem q0r (hH:HndOk H base fv) (h:PH H w base F p fv S s) (hc:0<=c/\c<128) (hok:jf H s (p.text c).2) {K:Ub} (hK:∀F' S' s' w',PhT H base w F S F' S' (p.text c).1 fv s' w'->ZM H s (p.text c).2 s'->K w'):yj (some ⟨F.pg,0,none⟩) c w K:=by
 refine qb7 _ _ ?_;simp only [onPtr_some];unfold PS.text at hok hK;refine cO (λe=>?_) λe=>?_
 ·rw [if_pos (eq_of_beq e)] at hok hK;refine qr6 hH h hok.1 λS1 s1 w1 h1 hr=>?_;exact qv0 hH h1.m 0 λw2 h2=>hK F S1 s1 w2 (h1.trans h2) ⟨s1,hr,rfl⟩
 rw [if_neg (beq_eq_false_iff_ne.1 e)] at hok hK;refine jpO λJ1 hJ1=>?_;have hp:=h.par;have ok:=hp.ok;have key:∀b:Bool,b=decide (32<=c/\c≠127/\p.data.length<1024)->J1 (b,()) w:=by
  intro b hb;refine hJ1 _ _ (cO (λe=>?_) λe=>?_)
  ·have e:b=true:=e;rw [e] at hb;have hb:=oTq hb.symm;rw [if_pos hb] at hok hK;refine lSl (x:=F.qd) (hp.blk.cells 10 _ rfl) ?_;refine zfn (c:=UInt8.ofNat c.toNat) (zf7 (by omega)) hp.qd h.base_le (by omega) λq w2 ho hc2 hq=>?_;have hni:=hp.ne_pg;have hb2:=hp.blk.chg hc2 λe=>hni _ (.inr (.inr (.inr e))) rfl;rw [q4];refine qw hb2 (by show 0+10+1<=12;omega) λw3 hb3 hg3 hs3=>?_;have z2:=hc2.size;have c3:Chg (λk=>F.qd.blk=some k\/k=F.pg) w w3:=(hc2.mono λk _ e=>.inl e).trans (Go.Vc.Chg.gg hg3) λk _ e=>.inr e;obtain ⟨r0,l0,h0,hch⟩:=hp.ch;have nq:∀k,F.qd.blk=some k->k≠F.cg:=qF hp.qd hch (by decide);have hq':∀k,q.blk=some k->F.qd.blk=some k\/w.heap.size<=k:=λk hk=>by
    rcases hq with e | ⟨j,e,hj⟩
    ·exact .inl (e ▸ hk)
    ·rw [e] at hk;cases hk;exact .inr hj
   refine hK { F with qd:=q } S s w3 (h.own hH ⟨hb3,⟨r0,l0,h0,hch.chg c3 (λhh=>hh.elim (λe=>nq _ e rfl) λe=>hni _ (.inl rfl) e)⟩,hp.hg,hp.qi.chg c3 ?_,hp.qp.chg c3 ?_,ho.chg (Go.Vc.Chg.gg hg3) λk hk e=>?_,λk hk hk'=>?_,?_⟩ (c3.mono λk _ hk=>?_) (λk hk=>?_) rfl) rfl
   ·rintro k hk (e | e)
    ·exact hp.ne k hk e
    ·exact hni k (.inr (.inl hk)) e
   ·rintro k hk (e | e)
    ·exact XK hp.qd hp.qp (by decide) k e hk
    ·exact hni k (.inr (.inr (.inl hk))) e
   ·rcases hq' k hk with h1 | h1
    ·exact hni k (.inr (.inr (.inr h1))) e
    ·have:=hp.blk.lt;omega
   ·rcases hq' k hk' with h1 | h1
    ·exact hp.ne k hk h1
    ·have:=(hp.qi.lt k hk).2;omega
   ·exact ⟨ok.il,ok.pl,by show (p.data++_).length<=1024;rw [length_append];simp;omega,ok.la,ok.pv,ok.pr⟩
   ·rcases hk with hk | hk
    ·exact .inr (.inr (.inr (.inr hk)))
    ·exact .inl hk
   ·rcases hk with hk | hk | hk | hk | hk
    ·exact .inl (.inl hk)
    ·exact .inl (.inr (.inl hk))
    ·exact .inl (.inr (.inr (.inl hk)))
    ·exact .inl (.inr (.inr (.inr (.inl hk))))
    ·rcases hq' k hk with h1 | h1
     ·exact .inl (.inr (.inr (.inr (.inr h1))))
     ·exact .inr h1
  ·have e:b=false:=e;rw [e] at hb;have hb:=oFq hb.symm;rw [if_neg hb] at hok hK;exact hK F S s w (PhT.refl h) rfl
 have hn:F.qd.n=p.data.length:=hp.qd.rd.n;refine cO (λe=>?_) λe=>?_
 ·have e:=oTq e;refine cO (λe2=>?_) λe2=>?_
  ·have e2:c≠127:=by simpa using e2
   refine lSl (x:=F.qd) (hp.blk.cells 10 _ rfl) (key _ ?_);rw [hn];by_cases hd:p.data.length<1024
   ·rw [dTq (p:=32<=c/\c≠127/\p.data.length<1024) ⟨e,e2,hd⟩,dTq (p:=((p.data.length:Nat):Int)<1024) (by omega)]
   ·rw [dFq (p:=32<=c/\c≠127/\p.data.length<1024) (λhh=>hd hh.2.2),dFq (p:=((p.data.length:Nat):Int)<1024) (by omega)]
  ·have e2:c=127:=by simpa using e2
   exact key _ (by rw [dFq];rintro ⟨_,h,_⟩;exact h e2)
 ·have e:=oFq e;exact key _ (by rw [dFq];rintro ⟨h,_,_⟩;exact e h)
theorem qzf (hH:HndOk H base fv) (h:PH H w base F p fv S s) (hc:0<=c/\c<128) (hok:jf H s (p.plain c).2) {K:Ub} (hK:∀F' S' s' w',PhT H base w F S F' S' (p.plain c).1 fv s' w'->ZM H s (p.plain c).2 s'->K w'):yX (some ⟨F.pg,0,none⟩) c w K:=by
 refine qed _ _ ?_;simp only [onPtr_some];unfold PS.plain at hok hK;refine lI (x:=p.st) (h.par.blk.cells 0 _ rfl) ?_;refine cO (λe=>?_) λe=>?_
 ·rw [if_pos (eq_of_beq e)] at hok hK;exact qlr hH h hc hok hK
 rw [if_neg (beq_eq_false_iff_ne.1 e)] at hok hK;refine cO (λe=>?_) λe2=>?_
 ·rw [if_pos (.inl (eq_of_beq e))] at hok hK;exact qrc hH h hc hok hK
 refine cO (λe=>?_) λe3=>?_
 ·rw [if_pos (.inr (eq_of_beq e))] at hok hK;exact qrc hH h hc hok hK
 rw [if_neg (λhh=>hh.elim (beq_eq_false_iff_ne.1 e2) (beq_eq_false_iff_ne.1 e3))] at hok hK;refine cO (λe=>?_) λe=>?_
 ·rw [if_pos (eq_of_beq e)] at hok hK;exact q0r hH h hc hok hK
 rw [if_neg (beq_eq_false_iff_ne.1 e)] at hok hK;have nop:(p.st=5\/p.st=6\/p.st=7)->K w:=λhh=>by
  rw [if_pos hh] at hK;exact hK F S s w (PhT.refl h) rfl
 refine cO (λe=>nop (.inl (eq_of_beq e))) λe5=>?_;refine cO (λe=>nop (.inr (.inl (eq_of_beq e)))) λe6=>?_;refine cO (λe=>nop (.inr (.inr (eq_of_beq e)))) λe7=>?_;rw [if_neg (λhh=>hh.elim (beq_eq_false_iff_ne.1 e5) λhh=>hh.elim (beq_eq_false_iff_ne.1 e6) (beq_eq_false_iff_ne.1 e7))] at hok hK;exact q3p hH h hc hok λS' s' w' hT hr=>hK F S' s' w' hT hr
theorem zcm (hH:HndOk H base fv) (h:PH H w base F p fv S s) (b:Bool) {K:Ub} (hK:∀w',PhT H base w F S F S { p with ends:=b } fv s w'->K w'):stK ((⟨F.pg,0,none⟩:Addr).add 1) [.bool b] w K :=
 h.st hH (i:=1) { p with ends:=b } (by decide) rfl rfl rfl rfl ⟨h.par.ok.il,h.par.ok.pl,h.par.ok.dl,h.par.ok.la,h.par.ok.pv,h.par.ok.pr⟩ hK
theorem q59 (hH:HndOk H base fv) (h:PH H w base F p fv S s) (hc:0<=c/\c<128) (hok:jf H s (p.ended c).2) {K:Ub} (hK:∀F' S' s' w',PhT H base w F S F' S' (p.ended c).1 fv s' w'->ZM H s (p.ended c).2 s'->K w'):yN (some ⟨F.pg,0,none⟩) c w K:=by
 refine qda _ _ ?_;simp only [onPtr_some];have hdef:p.ended c=(λp1:PS=>if c=92 then ({ p1 with st:=0 },(if p1.st=4 then [JK 5 p1.data] else [])++p1.close 1) else if c=27 then (p1.begin_ 1,p1.close 0) else if c=24\/c=26 then ({ p1.begin_ 1 with st:=0 },p1.close 0++[evK 2 c]) else (((p1.begin_ 1).escape c).1,p1.close 0++((p1.begin_ 1).escape c).2)) { p with ends:=false }:=rfl;rw [hdef] at hok hK;refine zcm hH h false λw1 h1=>?_;obtain ⟨p1,hp1⟩:∃p1:PS,p1={ p with ends:=false }:=⟨_,rfl⟩;rw [<-hp1] at h1 hok hK;dsimp only at hok hK;have est:p.st=p1.st:=by rw [hp1]
 refine cO (λe=>?_) λe=>?_
 ·rw [if_pos (eq_of_beq e)] at hok hK;refine jpO λJ1 hJ1=>?_;have key:∀S2 s2 w2,PhT H base w F S F S2 p1 fv s2 w2->ZM H s (if p1.st=4 then [JK 5 p1.data] else []) s2->J1 () w2:=by
   intro S2 s2 w2 h2 hr2;refine hJ1 _ _ (qgg hH h2.m (by omega) (jf.right hok hr2) λS3 s3 w3 h3 hr3=>?_);exact qv0 hH h3.m 0 λw4 h4=>hK F S3 s3 w4 (h2.trans (h3.trans h4)) (ZM.append hr2 hr3)
  refine lI (x:=p1.st) (h1.m.par.blk.cells 0 _ rfl) (cO (λe=>?_) λe=>?_)
  ·have e:p1.st=4:=eq_of_beq e;have hok1:=jf.left hok;rw [if_pos e] at hok1;exact qr6 hH h1.m hok1.1 λS2 s2 w2 h2 hr=>key S2 s2 w2 (h1.trans h2) (by rw [if_pos e];exact ⟨s2,hr,rfl⟩)
  ·have e:¬p1.st=4:=beq_eq_false_iff_ne.1 e;exact key S s w1 h1 (by rw [if_neg e];rfl)
 ·rw [if_neg (beq_eq_false_iff_ne.1 e)] at hok hK;have okc:jf H s (p1.close 0):=by
   revert hok;split
   ·exact id
   ·split
    ·exact jf.left
    ·exact jf.left
  refine qgg hH h1.m (by omega) okc λS2 s2 w2 h2 hr2=>?_;refine Yn hH h2.m 1 λF3 w3 h3=>?_;have h03:=h1.trans (h2.trans h3);have epg:=h3.pg;rw [<-epg];refine jpO λJ2 hJ2=>?_;have key:(c=24\/c=26)->c≠27->J2 () w3:=by
   intro hh h27;rw [if_neg h27,if_pos hh] at hok hK;refine hJ2 _ _ (qv0 hH h03.m 0 λw4 h4=>?_);refine qof hH h4.m 2 0 c (by omega) (jf.right hok hr2).1 λS5 s5 w5 h5 hr5=>hK F3 S5 s5 w5 (h03.trans (h4.trans h5)) (ZM.append hr2 ⟨s5,hr5,rfl⟩)
  refine cO (λe=>?_) λe27=>?_
  ·rw [if_pos (eq_of_beq e)] at hok hK;exact hK F3 S2 s2 w3 h03 hr2
  have e27:¬c=27:=beq_eq_false_iff_ne.1 e27;refine cO (λe=>key (.inl (eq_of_beq e)) e27) λe24=>cO (λe=>key (.inr (eq_of_beq e)) e27) λe26=>?_;have n2:¬(c=24\/c=26):=λhh=>hh.elim (beq_eq_false_iff_ne.1 e24) (beq_eq_false_iff_ne.1 e26);rw [if_neg e27,if_neg n2] at hok hK;exact qlr hH h03.m hc (jf.right hok hr2) λF4 S4 s4 w4 h4 hr4=>hK F4 S4 s4 w4 (h03.trans h4) (ZM.append hr2 hr4)
theorem q32 (hH:HndOk H base fv) (h:PH H w base F p fv S s) (hc:0<=c/\c<128) (hok:jf H s (p.step c).2) {K:Ub} (hK:∀F' S' s' w',PhT H base w F S F' S' (p.step c).1 fv s' w'->ZM H s (p.step c).2 s'->K w'):Q6 (some ⟨F.pg,0,none⟩) c w K:=by
 refine qf2 _ _ ?_;simp only [onPtr_some];unfold PS.step at hok hK;refine jpO λJ1 hJ1=>?_;refine xP (x:=p.ends) (h.par.blk.cells 1 _ rfl) ?_;cases hen:p.ends
 ·rw [if_neg (by rw [hen];decide)] at hok hK;refine cF rfl ?_;refine jpO λJ3 hJ3=>?_;have key:∀b:Bool,b=decide (c≠24/\c≠26/\c≠27)->J3 (b,()) w:=by
   intro b hb;refine hJ3 _ _ (cO (λe=>?_) λe=>?_)
   ·have e:b=true:=e;rw [e] at hb;rw [if_pos (oTq hb.symm)] at hok hK;exact qzf hH h hc hok hK
   ·have e:b=false:=e;rw [e] at hb;rw [if_neg (oFq hb.symm)] at hok hK;refine hJ1 _ _ (jpO λJ2 hJ2=>?_);have key2:∀w1,PhT H base w F S F S p fv s w1->J2 () w1:=by
     intro w1 h1;refine hJ2 _ _ (cO (λe=>?_) λe=>?_)
     ·have e:c≠27:=by simpa using e
      rw [if_pos e] at hok hK;refine qgg hH h1.m (by omega) (jf.left hok) λS2 s2 w2 h2 hr2=>?_;refine qv0 hH h2.m 0 λw3 h3=>?_;exact qof hH h3.m 2 0 c (by omega) (jf.right hok hr2).1 λS4 s4 w4 h4 hr4=>hK F S4 s4 w4 (h1.trans (h2.trans (h3.trans h4))) (ZM.append hr2 ⟨s4,hr4,rfl⟩)
     ·have e:¬c≠27:=by simpa using e
      rw [if_neg e] at hok hK;refine lI (x:=p.st) (h1.m.par.blk.cells 0 _ rfl) (cO (λe=>?_) λe=>?_)
      ·rw [if_pos (oTq e)] at hok hK;exact zcm hH h1.m true λw2 h2=>hK F S s w2 (h1.trans h2) rfl
      ·rw [if_neg (oFq e)] at hok hK;exact Yn hH h1.m 1 λF2 w2 h2=>hK F2 S s w2 (h1.trans h2) rfl
    refine lI (x:=p.st) (h.par.blk.cells 0 _ rfl) (cO (λe=>?_) λe=>?_)
    ·exact h.ldCh (qms hH h λw1 h1=>qmn (key2 w1 h1))
    ·exact key2 w (PhT.refl h)
  refine cO (λe=>?_) λe=>?_
  ·have e:c≠24:=by simpa using e
   refine cO (λe2=>?_) λe2=>?_
   ·have e2:c≠26:=by simpa using e2
    refine key _ ?_;by_cases h27:c=27
    ·rw [h27];decide
    ·rw [dTq ⟨e,e2,h27⟩];simpa using h27
   ·have e2:c=26:=by simpa using e2
    exact key _ (by rw [e2];decide)
  ·have e:c=24:=by simpa using e
   exact key _ (by rw [e];decide)
 ·rw [if_pos hen] at hok hK;exact cT rfl (q59 hH h hc hok hK)
end
theorem zc0 {α:Type} {f:α->Bool}:∀{l:List α},(∀x∈l,f x=true)->(l.takeWhile f).length=l.length
 | [],_=>rfl
 | a::l,h=>by
  rw [List.takeWhile_cons_of_pos (h a List.mem_cons_self),length_cons,length_cons,zc0 λx hx=>h x (List.mem_cons_of_mem _ hx)]
theorem zbu {α:Type} {f:α->Bool}:∀{l:List α} {m:Nat} {x:α},(∀y∈l.take m,f y=true)->l[m]?=some x->f x=false->(l.takeWhile f).length=m
 | [],m,x,_,h,_=>by cases h
 | a::l,0,x,_,h,hf=>by
  have h:a=x:=Option.some.inj h;rw [List.takeWhile_cons_of_neg (by rw [h,hf];decide)];rfl
 | a::l,m+1,x,ha,h,hf=>by
  rw [List.takeWhile_cons_of_pos (ha a (by simp)),length_cons,zbu (l:=l) (m:=m) (λy hy=>ha y (by rw [List.take_succ_cons];exact List.mem_cons_of_mem _ hy)) h hf]
namespace PS
theorem runN_le (p:PS) (bs:List UInt8):p.runN bs<=bs.length:=by
 unfold runN;split
 ·exact zero_le _
 ·exact (List.takeWhile_sublist _).length_le
theorem qqt:∀(f:Nat) (p:PS) (bs:List UInt8),bs.length<=f->zao (f+1) p bs=zao f p bs
 | 0,p,bs,h=>by
  rw [List.eq_nil_of_length_eq_zero (by omega:bs.length=0)];rfl
 | f+1,p,[],h=>rfl
 | f+1,p,b::bs,h=>by
  have hl:bs.length<=f:=by simp at h;omega
  show (if 0<p.runN (b::bs) then _ else _)=(if 0<p.runN (b::bs) then _ else _);split
  ·rename_i hr;have hd:((b::bs).drop (p.runN (b::bs))).length<=f:=by rw [length_drop,length_cons];omega
   rw [qqt f p _ hd]
  ·dsimp only;rw [qqt f _ bs hl]
theorem q7i {f:Nat} {p:PS} {bs:List UInt8} (h:bs.length<=f):zao f p bs=p.eachB bs:=by
 induction f with
 | zero=>rw [List.eq_nil_of_length_eq_zero (by omega:bs.length=0)];rfl
 | succ f ih =>
  by_cases hf:bs.length=f+1
  ·unfold eachB;rw [hf]
  ·rw [qqt f p bs (by omega),ih (by omega)]
theorem eachB_run {p:PS} {b:UInt8} {bs:List UInt8} (h:0<p.runN (b::bs)):p.eachB (b::bs)=((p.eachB ((b::bs).drop (p.runN (b::bs)))).1,JK (if p.st=6 then 10 else 7) ((b::bs).take (p.runN (b::bs)))::(p.eachB ((b::bs).drop (p.runN (b::bs)))).2):=by
 have hd:((b::bs).drop (p.runN (b::bs))).length<=bs.length:=by rw [length_drop,length_cons];omega
 rw [<-q7i hd];show (if 0<p.runN (b::bs) then _ else _)=_;rw [if_pos h]
theorem eachB_step {p:PS} {b:UInt8} {bs:List UInt8} (h:¬0<p.runN (b::bs)):p.eachB (b::bs)=(((p.step b.toNat).1.eachB bs).1,(p.step b.toNat).2++((p.step b.toNat).1.eachB bs).2):=by
 rw [<-q7i (le_refl bs.length)];show (if 0<p.runN (b::bs) then _ else _)=_;rw [if_neg h]
end PS
section
variable {σ:Type} {H:Hnd σ} {w w':World} {base:Nat} {F F':PF} {p p':PS} {fv:Value} {S S':Nat->Prop} {s s':σ} {c:Int}
theorem q4f {x:UInt8} {K:Bool->Ub} (hK:K (JB x.toNat) w):KX (x.toNat:Int) w K:=by
 refine qdb _ ?_;unfold JB at hK;refine cO (λe=>?_) λe=>?_
 ·rw [e,Bool.true_or] at hK;exact hK
 rw [e,Bool.false_or] at hK;refine cO (λe=>?_) λe=>?_
 ·rw [e,Bool.true_or] at hK;exact hK
 rw [e,Bool.false_or] at hK;refine cO (λe=>?_) λe=>?_
 ·rw [e,Bool.true_or] at hK;exact hK
 rw [e,Bool.false_or] at hK;exact hK
theorem q4t (hH:HndOk H base fv) (h:PH H w base F p fv S s) {q:Slc} {bs:List UInt8} (hq:Rd qm w q bs) (hl:bs.length<=1000000) (hok:0<p.runN bs->H.ok s (JK (if p.st=6 then 10 else 7) (bs.take (p.runN bs)))) {K:Int->Ub}
  (h0:p.runN bs=0->K 0 w) (h1:0<p.runN bs->∀S' s' w',PhT H base w F S F S' p fv s' w'->H.R s (JK (if p.st=6 then 10 else 7) (bs.take (p.runN bs))) s'->K (p.runN bs:Nat) w'):Zl (some ⟨F.pg,0,none⟩) q w K:=by
 refine qic _ _ ?_;simp only [onPtr_some];refine jpO λJ1 hJ1=>?_;have off:(p.ends=true\/p.st≠5/\p.st≠6)->K 0 w:=λhh=>h0 (by unfold PS.runN;rw [if_pos hh]);have key:¬(p.ends=true\/p.st≠5/\p.st≠6)->J1 () w:=by
  intro hh;have en:p.runN bs=(bs.takeWhile λb=>!JB b.toNat).length:=by unfold PS.runN;rw [if_neg hh]
  refine hJ1 _ _ ?_;have tail:∀n:Nat,n=p.runN bs->n<=bs.length->qX (σ:=Int×Unit) (λs_1 w3=>cond (decide (s_1.1>(0:Int))) (slK q none (some s_1.1) 1 λt35=>xe (some ⟨F.pg,0,none⟩) t35 w3 λw4=>K s_1.1 w4) (K s_1.1 w3)) λJ2=>J2 ((n:Int),()) w:=by
   intro n hn hnl;refine jpO λJ2 hJ2=>hJ2 _ _ ?_;by_cases hp:0<n
   ·refine cT (dTq (by show (n:Int)>0;omega)) ?_;refine hq.slK (l:=0) (m:=n) rfl (.inl ⟨rfl,rfl⟩) (.inr rfl) (zero_le _) hnl λhr=>?_;rw [drop_zero] at hr;subst hn;exact q9q hH h hr (by rw [List.length_take];omega) (hok hp) λS' s' w' hT hR=>h1 hp S' s' w' hT hR
   ·refine cF (dFq (by show ¬(n:Int)>0;omega)) ?_;have:n=0:=by omega
    subst this;exact h0 hn.symm
  refine JN _ _ ?_;rw [hq.n];refine lpR (λ(st:Int×Unit) w1=>w1=w/\∃i:Nat,st.1=i/\i<=bs.length/\∀y∈bs.take i,(!JB y.toNat)=true) (λst=>bs.length-st.1.toNat) ⟨rfl,0,rfl,by omega,λy hy=>by cases hy⟩ ?_;rintro ⟨i,u⟩ w1 ⟨rfl,m,hi,hm,hno⟩ I hI;dsimp only at hi ⊢;subst hi;by_cases hlt:m<bs.length
  ·refine cT (dTq (by omega)) ?_;obtain ⟨x,hx,hxs⟩:=Go.Vc.get_of (xs:=bs) (k:=m) hlt;refine hq.ix (i:=(m:Int)) (k:=1) rfl (by omega) (by omega) λhcell=>?_;rw [hxs] at hcell;refine zg6 (b:=x) hcell (callR_plain (by kernel_rfl) ?_);refine Calls.mono (q4f (x:=x) (K:=λt16 w2=>cond t16 (qX (σ:=Int×Unit) (λs_1 w3=>cond (decide (s_1.1>(0:Int))) (slK q none (some s_1.1) 1 λt35=>xe (some ⟨F.pg,0,none⟩) t35 w3 λw4=>K s_1.1 w4) (K s_1.1 w3)) λJ2=>cond (decide ((m:Int)<(0:Int))) (J2 (((bs.length:Nat):Int),()) w2) (J2 ((m:Int),()) w2)) (I ((i64.wrap ((m:Int)+(1:Int))),()) w2)) ?_) ?_
   ·cases hxl:JB x.toNat with
    | true =>
     refine cT rfl ?_;rw [dFq (by omega)];exact tail m (by rw [en];exact (zbu hno hx (by rw [hxl];rfl)).symm) hm
    | false =>
     refine cF rfl ?_;rw [qP (by omega)];refine hI _ _ ⟨rfl,m+1,rfl,by omega,?_⟩ (by simp;omega);intro y hy;rw [List.take_add_one,hx] at hy;rcases List.mem_append.1 hy with h2 | h2
     ·exact hno y h2
     ·have h2:y=x:=by simpa using h2
      rw [h2,hxl];rfl
   ·rintro e w' ⟨r,rfl,hk⟩;exact ⟨r,rfl,hk⟩
  ·refine cF (dFq (by omega)) ?_;obtain rfl:m=bs.length:=by omega
   rw [take_length] at hno;show qX _ (λJ2=>cond (decide ((-1:Int)<0)) _ _);rw [show decide ((-1:Int)<0)=true from rfl];exact tail bs.length (by rw [en];exact (zc0 hno).symm) (le_refl _)
 refine xP (x:=p.ends) (h.par.blk.cells 1 _ rfl) (cO (λe=>off (.inl e)) λe=>?_);have e:p.ends=false:=e;refine lI (x:=p.st) (h.par.blk.cells 0 _ rfl) (cO (λe5=>?_) λe5=>?_)
 ·have e5:p.st≠5:=by simpa using e5
  refine lI (x:=p.st) (h.par.blk.cells 0 _ rfl) (cO (λe6=>?_) λe6=>?_)
  ·have e6:p.st≠6:=by simpa using e6
   exact off (.inr ⟨e5,e6⟩)
  ·have e6:p.st=6:=by simpa using e6
   exact key (λhh=>hh.elim (λh=>by rw [e] at h;cases h) λh=>h.2 e6)
 ·have e5:p.st=5:=by simpa using e5
  exact key (λhh=>hh.elim (λh=>by rw [e] at h;cases h) λh=>h.1 e5)
def zie:Value:=.func (.func Jp) #[] #[]
theorem zg5 {a:Addr} {v:Value} {w:World} {K:Ub} (h1:v.cells.toList=[v]) (h2:qz2 v=true) (h:stK a [v] w K):stR a v w K:=by
 unfold stR;have hs:v.cells.size=1:=by rw [<-Array.length_toList,h1];rfl
 rw [hs,h1];show qfp true (qfp (qz2 v && true) _);rw [h2];exact h
theorem ParsM.say (h:ParsM w base F p fv) (v:Value) {K:Ub} (hK:∀w',ParsM w' base F p v->Chg (λk=>k=F.pg) w w'->K w'):stK ((⟨F.pg,0,none⟩:Addr).add 11) [v] w K:=by
 rw [q4];refine qw h.blk (by show 0+11+1<=12;omega) λw1 hb hg hs=>hK w1 ?_ (Chg.gg hg);have hni:=h.ne_pg;have c1:Chg (λk=>k=F.pg) w w1:=Chg.gg hg;obtain ⟨r0,l0,h0,hch⟩:=h.ch;exact ⟨hb,⟨r0,l0,h0,hch.chg c1 (hni _ (.inl rfl))⟩,h.hg,h.qi.chg c1 λk hk=>hni k (.inr (.inl hk)),h.qp.chg c1 λk hk=>hni k (.inr (.inr (.inl hk))),h.qd.chg c1 λk hk=>hni k (.inr (.inr (.inr hk))),h.ne,h.ok⟩
theorem q03 {fv0:Value} (hH:HndOk H base fv) (f1:fv.cells.toList=[fv]) (f2:qz2 fv=true) (hp:ParsM w base F p fv0) (hm:H.M w S s) (dj:∀k,vE F k->¬S k) {q:Slc} {bs:List UInt8} (hq:Rd qm w q bs) (hl:bs.length<=1000000) (hb:∀b∈bs,b.toNat<128)
  (hqn:∀a,q.a=some a->¬vE F a.block/\¬S a.block/\a.block<w.heap.size) (hok:jf H s (p.eachB bs).2) {K:Ub}
  (hK:∀F' S' s' w',ParsM w' base F' (p.eachB bs).1 zie->H.M w' S' s'->(∀k,vE F' k->¬S' k)->ZM H s (p.eachB bs).2 s'->(∀k,(vE F' k\/S' k)->(vE F k\/S k)\/w.heap.size<=k)->Chg (λk=>vE F k\/S k) w w'->F'.pg=F.pg->K w'):Q3 (some ⟨F.pg,0,none⟩) q fv w K:=by
 refine qga _ _ _ ?_;simp only [onPtr_some];refine zg5 f1 f2 (hp.say fv λw1 hp1 hc1=>?_);have hs1:=hc1.size;have cp1:Chg (vE F) w w1:=hc1.mono λk _ e=>.inl e;have h1:PH H w1 base F p fv S s:=⟨hp1,hH.keep hm cp1 (λk hk hp=>dj k hp hk) hp.far (λk hk=>(hp.below k hk).1),dj⟩;have hq1:Rd qm w1 q bs:=hq.chg cp1 λa ha=>(hqn a ha).1;refine lpR (λ(st:Slc×Unit) w2=>∃(rest:List UInt8) (evs:List EvP) (p2:PS) (F2:PF) (S2:Nat->Prop) (s2:σ),Rd qm w2 st.1 rest/\rest.length<=bs.length/\(∀b∈rest,b.toNat<128)/\(∀a,st.1.a=some a->¬vE F2 a.block/\¬S2 a.block/\a.block<w2.heap.size)/\PhT H base w1 F S F2 S2 p2 fv s2 w2/\ZM H s evs s2/\p.eachB bs=((p2.eachB rest).1,evs++(p2.eachB rest).2))
  (λst=>st.1.n) ⟨bs,[],p,F,S,s,hq1,le_refl _,hb,(λa ha=>⟨(hqn a ha).1,(hqn a ha).2.1,by have:=(hqn a ha).2.2;omega⟩),PhT.refl h1,rfl,rfl⟩ ?_
 rintro ⟨q2,u⟩ w2 ⟨rest,evs,p2,F2,S2,s2,hr2,hrl,hrb,hqn2,hT2,hR2,heq⟩ I hI;dsimp only at hr2 hqn2 ⊢;have hn2:=hr2.n;have epg:=hT2.pg;cases rest with
 | nil =>
  refine cF (by rw [hn2];rfl) ?_;rw [<-epg];have hfin:p2.eachB []=(p2,[]):=rfl;rw [hfin,append_nil] at heq;refine hT2.m.par.say zie λw3 hp3 hc3=>?_;have cp3:Chg (vE F2) w2 w3:=hc3.mono λk _ e=>.inl e;rw [heq] at hK;have z2:=hT2.chg.size;refine hK F2 S2 s2 w3 hp3 (hH.keep hT2.m.m cp3 (λk hk hp=>hT2.m.dj k hp hk) hT2.m.par.far (λk hk=>(hT2.m.par.below k hk).1)) hT2.m.dj hR2 (λk hk=>?_) ?_ hT2.pg
  ·rcases hT2.old k hk with h3 | h3
   ·exact .inl h3
   ·right;omega
  ·refine ((cp1.mono λk _ hk=>.inl hk).trans hT2.chg λi _ hi=>hi).trans cp3 λi hi hk=>?_;rcases hT2.old i (.inl hk) with h3 | h3
   ·exact h3
   ·have hlt:=(h1.par.below F.pg (.inl rfl)).2;exfalso;omega
 | cons b rest =>
  refine cT (by rw [hn2];simp<;>omega) ?_;rw [<-epg];rw [heq] at hok;have hok2:=jf.right hok hR2;refine q4t hH hT2.m hr2 (by omega) (λhpos=>?_) (λhz=>?_) λhpos S3 s3 w3 hT3 hR3=>?_
  ·rw [PS.eachB_run hpos] at hok2;exact hok2.1
  ·
   have hz:¬0<p2.runN (b::rest):=by omega
   refine cF rfl ?_;refine hr2.ix (i:=0) (k:=1) rfl (by decide) (by simp) λhc=>?_;have hc:qy w2 (q2.at_ qm.k 0) [.int .u8 (b.toNat:Int)]:=hc;refine zg6 (b:=b) hc ?_;rw [PS.eachB_step hz] at heq hok2;refine q32 hH hT2.m ⟨by omega,by have:=hrb b List.mem_cons_self;omega⟩ (jf.left hok2) λF3 S3 s3 w3 hT3 hR3=>?_;have hr3:Rd qm w3 q2 (b::rest):=hr2.chg hT3.chg λa ha hh=>hh.elim (hqn2 a ha).1 (hqn2 a ha).2.1;refine hr3.slK (l:=1) (m:=(b::rest).length) rfl (.inr rfl) (.inl ⟨rfl,rfl⟩) (by simp) (le_refl _) λhr4=>?_;rw [take_length,List.drop_succ_cons,drop_zero] at hr4;have z3:=hT3.chg.size;refine hI _ _ ⟨rest,evs++(p2.step b.toNat).2,(p2.step b.toNat).1,F3,S3,s3,hr4,by simp at hrl;omega,(λy hy=>hrb y (List.mem_cons_of_mem _ hy)),(λa ha=>?_),hT2.trans hT3,ZM.append hR2 hR3,by rw [heq,append_assoc]⟩ ?_
   ·obtain ⟨a0,ha0,e⟩:=cut_block ha;obtain ⟨n1,n2,n3⟩:=hqn2 a0 ha0;rw [e];refine ⟨λhh=>?_,λhh=>?_,by omega⟩
    ·rcases hT3.old _ (.inl hh) with (h5 | h5) | h5
     ·exact n1 h5
     ·exact n2 h5
     ·omega
    ·rcases hT3.old _ (.inr hh) with (h5 | h5) | h5
     ·exact n1 h5
     ·exact n2 h5
     ·omega
   ·have:=hr4.n;show (b::rest).length-1<q2.n;rw [hn2];simp
  ·
   refine cT (dTq (by show ((p2.runN (b::rest):Nat):Int)>0;omega)) ?_;have hle:=PS.runN_le p2 (b::rest);have hr3:Rd qm w3 q2 (b::rest):=hr2.chg hT3.chg λa ha hh=>hh.elim (hqn2 a ha).1 (hqn2 a ha).2.1;refine hr3.slK (l:=p2.runN (b::rest)) (m:=(b::rest).length) rfl (.inr rfl) (.inl ⟨rfl,rfl⟩) hle (le_refl _) λhr4=>?_;rw [take_length] at hr4;have z3:=hT3.chg.size;refine hI _ _ ⟨(b::rest).drop (p2.runN (b::rest)),evs++[JK (if p2.st=6 then 10 else 7) ((b::rest).take (p2.runN (b::rest)))],p2,F2,S3,s3,hr4,by rw [length_drop];omega,(λy hy=>hrb y (List.mem_of_mem_drop hy)),(λa ha=>?_),hT2.trans hT3,ZM.append hR2 ⟨s3,hR3,rfl⟩,by rw [heq,PS.eachB_run hpos,append_assoc];rfl⟩ ?_
   ·obtain ⟨a0,ha0,e⟩:=cut_block ha;obtain ⟨n1,n2,n3⟩:=hqn2 a0 ha0;rw [e];refine ⟨λhh=>?_,λhh=>?_,by omega⟩
    ·rcases hT3.old _ (.inl hh) with (h5 | h5) | h5
     ·exact n1 h5
     ·exact n2 h5
     ·omega
    ·rcases hT3.old _ (.inr hh) with (h5 | h5) | h5
     ·exact n1 h5
     ·exact n2 h5
     ·omega
   ·show (b::rest).length-p2.runN (b::rest)<q2.n;rw [hn2];omega
end
abbrev qO:=qW
abbrev vQ:=qt
instance:Inhabited qt:=⟨⟨0,0,0⟩⟩
instance:Inhabited qW:=⟨⟨0,0,⟨0,0,0⟩⟩⟩
def zr:El qW where
 cells:=qW.rep.cells
 t:=qT
 k:=5
 pos:=by decide
 len _:=rfl
 one x v hv:=by
  simp only [qW.rep,mem_cons,List.mem_nil_iff,or_false] at hv;rcases hv with rfl | rfl | rfl | rfl | rfl<;>rfl
noncomputable def q21:SlT PG zr zk where
 ht:=by kernel_rfl
 i:=(PG.info? qT).getD default
 hi:=by kernel_rfl
 z:=.agg #[.int .i32 0,.int .i64 0,.int .i64 0,.int .i64 0,.int .i64 0]
 hz:=by kernel_rfl
 hs:=by kernel_rfl
 hzs:=rfl
theorem ze1:q21.i.bytes=40:=by kernel_rfl
def qfb (xs:List qO) (i:Int):Int:=if 0<=i then ((xs[i.toNat]?).map (·.Kind)).getD (-1) else -1
def isB (xs:List qO) (col kind:Int):Bool:=decide (0<=col) && decide (col<xs.length) && (qfb xs col==kind)
def Xz (xs:List qO) (i:Int):Bool :=
 if qfb xs i=0 then true else if qfb xs i=1 then isB xs (i+1) 2 else if qfb xs i=2 then isB xs (i-1) 1 else false
def okB (xs:List qO) (i:Nat):Bool:=Xz xs i && !(qfb xs i==2 && ((xs[i]?).map (·.R)).getD 0 !=0)
def Zm (xs:List qO):Bool:=(List.range xs.length).all (okB xs)
def kr (a:vQ):qO:=⟨0,0,a⟩
def V5 (xs:List qO) (i:Nat) (c:qO):qO :=
 if c.Kind≠0/\c.Kind≠1/\c.Kind≠2 then { c with Kind:=0 } else if Xz xs i=false then kr c.A else if c.Kind=2 then { c with R:=0 } else c
def jp (xs:List qO):List qO:=xs.mapIdx (V5 xs)
theorem ja (xs:List qO):(jp xs).length=xs.length:=by simp [jp]
theorem Yq (xs:List qO) (i:Nat) (x:qO) (h:xs[i]?=some x):(jp xs)[i]?=some (V5 xs i x):=by simp [jp,h]
theorem qgu {xs:List qO} {i:Nat} {x:qO} (h:xs[i]?=some x):qfb xs i=x.Kind:=by simp [qfb,h]
theorem qth {xs:List qO} {i:Int} (h0:0<=i) (h1:i<xs.length):qfb xs i=(xs[i.toNat]'(by omega)).Kind:=by
 have:i.toNat<xs.length:=by omega
 simp [qfb,h0,this]
theorem qxk {w:World} {a:Addr} {c:qO} (h:qy w a (zr.cells c)):w.cell? (a.add 1)=some (Ua c.Kind):=h 1 _ rfl
theorem zcg {w:World} {a:Addr} {c:qO} (h:qy w a (zr.cells c)):qy w (a.add 2) (qt.rep.cells c.A) :=
 h.sub 2 λj v hj=>by
  match j,hj with
  | 0,hj=>exact hj
  | 1,hj=>exact hj
  | 2,hj=>exact hj
  | j+3,hj=>cases hj
theorem q9k {w:World} {s:Slc} {xs:List qO} (h:Rd zr w s xs):xs.length<=9223372036854775807:=by
 have h1:=h.n;have h2:=h.nc;have h3:=h.cm;unfold maxLen at h3;rw [h1] at h2;omega
theorem qx3 {l:Slc} {xs:List qO} {col kind:Int} {w:World} {K:Bool->Ub} (h:Rd zr w l xs) (hK:K (isB xs col kind) w):ZX l col kind w K:=by
 refine qpg _ _ _ ?_;refine cO (λh1=>?_) (λh1=>?_)
 ·have h1:=oTq h1;refine cO (λh2=>?_) (λh2=>?_)
  ·have h2:=oTq h2;rw [h.n] at h2;refine h.ix rfl h1 h2 λhc=>lI (qxk hc) ?_;have e:isB xs col kind=(xs[col.toNat].Kind==kind):=by
    unfold isB;rw [dTq (show 0<=col from h1),dTq h2,qth h1 h2];rfl
   rw [<-e];exact hK
  ·have h2:=oFq h2;rw [h.n] at h2;have e:isB xs col kind=false:=by
    unfold isB;rw [dFq h2];simp
   rw [<-e];exact hK
 ·have h1:=oFq h1;have e:isB xs col kind=false:=by simp only [isB,dFq (show ¬0<=col from h1),Bool.false_and]
  rw [<-e];exact hK
theorem qyc {l:Slc} {xs:List qO} {col:Int} {w:World} {K:Bool->Ub} (h:Rd zr w l xs) (h0:0<=col) (h1:col<xs.length) (hK:K (Xz xs col) w):vo l col w K:=by
 have hm:=q9k h;refine qk0 _ _ ?_;refine h.ix rfl h0 h1 λhc=>lI (qxk hc) ?_;rw [<-qth h0 h1];rw [qP (show -9223372036854775808<=col+1/\col+1<=9223372036854775807 by omega),qP (show -9223372036854775808<=col-1/\col-1<=9223372036854775807 by omega)];unfold Xz at hK;refine cO (λe=>?_) (λe=>?_)
 ·rw [if_pos (eq_of_beq e)] at hK;exact hK
 ·have e:=beq_eq_false_iff_ne.1 e;rw [if_neg e] at hK;refine cO (λe=>?_) (λe=>?_)
  ·rw [if_pos (eq_of_beq e)] at hK;exact qx3 h hK
  ·have e:=beq_eq_false_iff_ne.1 e;rw [if_neg e] at hK;refine cO (λe=>?_) (λe=>?_)
   ·rw [if_pos (eq_of_beq e)] at hK;exact qx3 h hK
   ·have e:=beq_eq_false_iff_ne.1 e;rw [if_neg e] at hK;exact hK
theorem qjg {n:Int} {a:vQ} {w:World} {K:Slc->Ub} (hn:n<=1000000)
  (hK:∀r w',Go.Vc.Own zr w' w.heap.size r (List.replicate n.toNat (kr a))->Uc w w'->K r w'):QN n a w K:=by
 refine qqa _ _ ?_;refine nwb λw1 hb1 hB1 hs1=>?_;refine lpR (λ(s:Slc×Int×Unit) w2=>∃k:Nat,s.2.1=k/\(k:Int)<=max n 0/\Go.Vc.Own zr w2 w.heap.size s.1 (List.replicate k (kr a))/\Blk w2 w.heap.size jF (qt.rep.cells a)/\Uc w w2/\w.heap.size<w2.heap.size/\(∀g,s.1.blk=some g->w.heap.size<g))
  (λs=>(n-s.2.1).toNat) ⟨0,rfl,by omega,Go.Vc.Own.nil _ _ _,hb1,hB1,by omega,λg hg=>by cases hg⟩ ?_
 rintro ⟨s,i,_⟩ w2 ⟨k,rfl,hk,ho,hb,hB,hlt,hne⟩ I hI;dsimp only at *;refine cO (λh=>?_) (λh=>?_)
 ·have h:=oTq h;refine qx hb.cells ?_;refine nwb λw3 hb3 hB3 hs3=>?_;have hd:Rd zr w3 ⟨some ⟨w2.heap.size,0,none⟩,1,1⟩ [kr a]:=yg (E:=zr) hb3 rfl;refine jx q21 (ho.ext hB3) hd (by omega) (by rw [ze1];simp;omega) (by simp [maxLen];omega) λr w4 ho4 hg4 hr4=>?_;rw [qP (by omega)];have hB4:Uc w w4:=(hB.trans (hB3.mono (by omega))).grown hg4 (by omega) λg hg=>by
   exact ((ho.lt g hg).1)
  refine hI (r,(k:Int)+1,()) w4 ⟨k+1,by simp,by omega,?_,?_,hB4,?_,?_⟩ (by simp;omega)
  ·rw [List.replicate_succ'];exact ho4
  ·refine (hb.ext hB3).grown hg4 λe=>?_;have:=hne _ e.symm;omega
  ·have:=hg4.size;omega
  ·intro g hg;rcases hr4 with e | e
   ·rw [e] at hg;exact hne g hg
   ·rw [e] at hg;cases hg;omega
 ·have h:=oFq h;refine hK s w2 ?_ hB;have:n.toNat=k:=by omega
  rw [this];exact ho
def XE (cols:Int) (a:vQ):List qO:=if cols<0\/cols>1000 then [] else List.replicate cols.toNat (kr a)
theorem q54 {n:Int} {a:vQ} {w:World} {K:Slc->Ub}
  (hK:∀r w',Go.Vc.Own zr w' w.heap.size r (XE n a)->Uc w w'->K r w'):qmi n a w K:=by
 refine qwc _ _ ?_;refine nwb λw1 hb1 hB1 hs1=>?_;refine jpO λJ hJ=>?_;have nilc:(n<0\/n>1000)->K ⟨none,0,0⟩ w1:=λh=>hK _ _ (by rw [XE,if_pos h];exact Go.Vc.Own.nil _ _ _) hB1;refine cO (λh=>nilc (.inl (oTq h))) (λh=>?_);refine cO (λh=>nilc (.inr (oTq h))) (λh'=>?_);have h:=oFq h;have h':=oFq h';refine hJ _ _ (qx hb1.cells (qjg (by omega) λr w' ho hB=>hK r w' ?_ (hB1.trans (hB.mono (by omega)))));rw [XE,if_neg (by omega)];exact ho.base (by omega)
theorem qo9 {s:Slc} {xs:List qO} {w:World} {K:Slc->Ub} (h:Rd zr w s xs) (hl:xs.length<=1000000)
  (hK:∀r w',Go.Vc.Own zr w' w.heap.size r xs->Uc w w'->K r w'):zW s w K:=by
 refine Q2 _ ?_;refine cO (λe=>?_) (λe=>?_)
 ·have:s.a=none:=by cases ha:s.a with
   | none=>rfl
   | some a=>rw [ha] at e;cases e
  rw [h.none_nil this] at hK;exact hK _ _ (Go.Vc.Own.nil _ _ _) (Below.refl _ _)
 ·refine nwb λw1 hb1 hB1 hs1=>?_;refine jx q21 (Yp (E:=zr) hb1 (le_refl _)) (h.ext hB1) (by omega) (by rw [ze1];simp;omega) (by simp [maxLen];omega) λr w2 ho2 hg2 hr2=>?_;exact hK r w2 (by simpa using ho2) (hB1.grown hg2 (by omega) λg hg=>by cases hg;exact le_refl _)
theorem Yo {l:Slc} {xs:List qO} {w:World} {K:Slc->Ub} (h:Rd zr w l xs) (hl:xs.length<=1000000)
  (hK:∀r w',Go.Vc.Own zr w' w.heap.size r (jp xs)->Uc w w'->K r w'):jA l w K:=by
 refine qlh _ ?_;refine qo9 h hl λr w1 ho1 hB1=>?_;refine lpR (λ(s:Int×Unit) w2=>∃k:Nat,s.1=k/\k<=xs.length/\Go.Vc.Own zr w2 w.heap.size r (mix (jp xs) xs k)/\Uc w w2)
  (λs=>xs.length-s.1.toNat) ⟨0,rfl,by omega,by rw [zc9];exact ho1,hB1⟩ ?_
 rintro ⟨i,_⟩ w2 ⟨k,rfl,hk,ho,hB⟩ I hI;dsimp only at *;have hml:=ja xs;refine cO (λhlt=>?_) (λhge=>?_)
 ·have hlt:=oTq hlt;rw [h.n] at hlt;have hkl:k<xs.length:=by omega
  obtain ⟨x,hx⟩:∃x,xs[k]?=some x:=⟨xs[k],List.getElem?_eq_getElem hkl⟩;have hxs:xs[((k:Int)).toNat]'(by omega)=x:=by
   have:=List.getElem?_eq_getElem hkl;rw [hx] at this;exact (Option.some.inj this).symm
  have hm:=Yq xs k x hx;have hcur:(mix (jp xs) xs k)[k]?=some x:=by rw [q8f hml hkl,if_neg (by omega)];exact hx
  rw [qP (by omega)];have hr0:r.n=xs.length:=by have:=ho.rd.n;rwa [qf9 hml] at this
  have fin:∀w',Go.Vc.Own zr w' w.heap.size r (mix (jp xs) xs (k+1))->Uc w w'->I ((k:Int)+1,()) w':=λw' ho' hB'=>
   hI _ _ ⟨k+1,by simp,by omega,ho',hB'⟩ (by simp;omega)
  have hrd:Rd zr w2 l xs:=h.ext hB;refine hrd.ix rfl (by omega) (by omega) λhc=>?_;rw [hxs] at hc;refine qx (x:=x) hc ?_;refine ko rfl λw4 hb4 hB4 hs4=>?_;have ho4:=ho.ext hB4;have hB04:Uc w w4:=hB.trans (hB4.mono hB.size);have hsz:w.heap.size<=w2.heap.size:=hB.size;have wr:∀(w5:World) (y:qO) (j:Nat) (us:List Value),Go.Vc.Own zr w5 w.heap.size r (mix (jp xs) xs k)->Uc w w5->V5 xs k x=y->j+us.length<=5->zr.cells y=putL (zr.cells x) j us ->
    ixK r (k:Int) 5 λt=>stK (t.add j) us w5 λw6=>I ((k:Int)+1,()) w6:=by
   intro w5 y j us ho5 hB5 hy hj hp;refine ho5.rd.ix (xs:=mix (jp xs) xs k) rfl (by omega) (by rw [qf9 hml];omega) λ_=>?_;refine ho5.st (i:=k) (x:=x) (y:=y) (by simpa using hcur) hj hp λw6 ho6 hg6 hs6=>fin _ ?_ ?_
   ·rw [qz7 hml hkl (by rw [hm,hy])] at ho6;exact ho6
   ·exact hB5.grown hg6 hB5.size λg hg=>(ho5.lt g hg).1
  have wr0:∀(w5:World) (y:qO) (us:List Value),Go.Vc.Own zr w5 w.heap.size r (mix (jp xs) xs k)->Uc w w5->V5 xs k x=y->zr.cells y=us ->
    ixK r (k:Int) 5 λt=>stK t us w5 λw6=>I ((k:Int)+1,()) w6:=by
   intro w5 y us ho5 hB5 hy hp;refine ho5.rd.ix (xs:=mix (jp xs) xs k) rfl (by omega) (by rw [qf9 hml];omega) λ_=>?_;refine ho5.st0 (i:=k) (x:=x) (y:=y) (by simpa using hcur) hp λw6 ho6 hg6 hs6=>fin _ ?_ ?_
   ·rw [qz7 hml hkl (by rw [hm,hy])] at ho6;exact ho6
   ·exact hB5.grown hg6 hB5.size λg hg=>(ho5.lt g hg).1
  refine jpO λJ hJ=>?_;have q2q:w4.cell? ((⟨w2.heap.size,0,none⟩:Addr).add 1)=some (Ua x.Kind):=hb4.cells 1 _ rfl;have bad:(x.Kind≠0/\x.Kind≠1/\x.Kind≠2)->J (true,()) w4:=λhb=>hJ _ _ (by
   dsimp only [cond_true];exact wr w4 { x with Kind:=0 } 1 _ ho4 hB04 (by rw [V5,if_pos hb]) (by simp) rfl)
  have good:¬(x.Kind≠0/\x.Kind≠1/\x.Kind≠2)->J (false,()) w4:=λhg=>hJ _ _ (by
   dsimp only [cond_false];refine qyc (h.ext hB04) (by omega) (by omega) ?_;refine cO (λhf=>?_) (λhf=>?_)
   ·have hf:Xz xs k=false:=by simpa using hf
    refine qx (x:=x.A) (zcg hb4.cells) ?_;exact wr0 w4 (kr x.A) _ ho4 hB04 (by rw [V5,if_neg hg,if_pos hf]) rfl
   ·have hf:¬Xz xs k=false:=by simpa using hf
    refine lI q2q ?_;refine cO (λh2=>?_) (λh2=>?_)
    ·have h2:=eq_of_beq h2;exact wr w4 { x with R:=0 } 0 _ ho4 hB04 (by rw [V5,if_neg hg,if_neg hf,if_pos h2]) (by simp) rfl
    ·have h2:=beq_eq_false_iff_ne.1 h2;have hy:V5 xs k x=x:=by rw [V5,if_neg hg,if_neg hf,if_neg h2]
     refine fin _ ?_ hB04;rw [<-zdn hml hkl (by rw [hm,hx,hy])];exact ho4)
  refine lI q2q ?_;refine cO (λh0=>?_) (λh0=>?_)
  ·have h0:x.Kind≠0:=by simpa using h0
   refine lI q2q ?_;refine cO (λh1=>?_) (λh1=>?_)
   ·have h1:x.Kind≠1:=by simpa using h1
    refine lI q2q ?_;by_cases h2:x.Kind=2
    ·rw [show (x.Kind !=2)=false by simp [h2]];exact good λhb=>hb.2.2 h2
    ·rw [show (x.Kind !=2)=true by simpa using h2];exact bad ⟨h0,h1,h2⟩
   ·have h1:x.Kind=1:=by simpa using h1
    exact good λhb=>hb.2.1 h1
  ·have h0:x.Kind=0:=by simpa using h0
   exact good λhb=>hb.1 h0
 ·have hge:=oFq hge;rw [h.n] at hge;have:k=xs.length:=by omega
  subst this;rw [zef hml] at ho;exact hK r w2 ho hB
theorem q85 {xs:List qO} (h:∀i,i<xs.length->okB xs i=true):Zm xs=true:=by
 unfold Zm;rw [List.all_eq_true];exact λi hi=>h i (List.mem_range.1 hi)
theorem q8e {xs:List qO} {k:Nat} {x:qO} (hx:xs[k]?=some x):okB xs k=(Xz xs k && !(x.Kind==2 && x.R !=0)):=by
 unfold okB;rw [qgu hx,hx];rfl
theorem get_of {xs:List qO} {k:Nat} (hk:k<xs.length):∃x,xs[k]?=some x/\∀h,xs[((k:Int)).toNat]'h=x :=
 ⟨xs[k],List.getElem?_eq_getElem hk,λ_=>rfl⟩
def qbl (xs:List qO) (at_:Int):List qO:=if 0<=at_/\at_<xs.length/\Xz xs at_=false then xs.set at_.toNat (kr (xs.getD at_.toNat default).A) else xs
def qkl (xs:List qO) (from_ to:Int):List qO:=qbl (qbl xs (from_-1)) to
def qj6 (n:Nat) (col width:Int):Prop:=width<1\/width>2\/col<0\/col>n-width
instance (n:Nat) (col width:Int):Decidable (qj6 n col width):=by unfold qj6;infer_instance
def qt3 (xs:List qO) (col r width:Int) (a:vQ):List qO :=
 if width=2 then (xs.set col.toNat ⟨r,1,a⟩).set (col+1).toNat ⟨0,2,a⟩ else xs.set col.toNat ⟨r,0,a⟩
def q3r (xs:List qO) (col r width:Int) (a:vQ):List qO:=if qj6 xs.length col width then jp xs else qkl (qt3 (jp xs) col r width a) col (col+width)
def qbo (n:Nat) (col k:Int):Int:=if k<1\/col<0\/col>=n then 0 else min k (n-col)
def qfk (xs:List qO) (col k:Int) (a:vQ):List qO :=
 let m:=jp xs
 let c:=qbo xs.length col k
 if c=0 then m else jp (m.take col.toNat++List.replicate c.toNat (kr a)++(m.take (xs.length-c.toNat)).drop col.toNat)
def delL (xs:List qO) (col k:Int) (a:vQ):List qO :=
 let m:=jp xs
 let c:=qbo xs.length col k
 if c=0 then m else jp (m.take col.toNat++m.drop (col+c).toNat++List.replicate c.toNat (kr a))
def Z3 (xs:List qO) (cols:Int):List qO :=
 let m:=jp xs
 let c:=min 1000 (max 0 cols)
 if c<=xs.length then jp (m.take c.toNat) else m++List.replicate (c-xs.length).toNat (kr ⟨0,0,0⟩)
theorem qfr (xs:List qO) (i:Int):(qbl xs i).length=xs.length:=by
 unfold qbl;split<;>simp
theorem qvo (xs:List qO) (i j:Int):(qkl xs i j).length=xs.length:=by rw [qkl,qfr,qfr]
theorem qzb (xs:List qO) (c r k:Int) (a:vQ):(qt3 xs c r k a).length=xs.length:=by
 unfold qt3;split<;>simp
theorem q2x {l:Slc} {xs:List qO} {from_ to:Int} {w:World} {base:Nat} {K:Slc->Ub} (h:Go.Vc.Own zr w base l xs) (hf:-1000000<=from_/\from_<=1000000)
  (hK:∀w',Go.Vc.Own zr w' base l (qkl xs from_ to)->Chg (λk=>l.blk=some k) w w'->K l w'):Zu l from_ to w K:=by
 refine qh0 _ _ _ ?_;refine nwb λw1 hb1 hB1 hs1=>?_;rw [qP (x:=from_-1) (by omega)] at hb1;have ln:l.n=xs.length:=h.rd.n;have hne:∀k,l.blk=some k->k<w.heap.size:=λk hk=>(h.lt k hk).2;refine lpR (λ(s:Int×Unit) w2=>∃k:Nat,s.1=k/\k<=2/\Go.Vc.Own zr w2 base l (if k=0 then xs else if k=1 then qbl xs (from_-1) else qkl xs from_ to)/\Blk w2 w.heap.size zd [.int .i64 (from_-1),.int .i64 to]/\Chg (λk=>l.blk=some k) w w2)
  (λs=>2-s.1.toNat) ⟨0,rfl,by omega,h.ext hB1,hb1,Chg.of_ext hB1⟩ ?_
 rintro ⟨i,_⟩ w2 ⟨k,rfl,hk,ho,hb,hc⟩ I hI;dsimp only at *;refine cO (λhlt=>?_) (λhge=>?_)
 ·have hlt:=oTq hlt;refine ⟨by omega,?_⟩;rw [qP (x:=(k:Int)+1) (by omega)];have round:∀(ys zs:List qO) (p:Int),ys.length=xs.length->Go.Vc.Own zr w2 base l ys->zs=qbl ys p->(∀w3,Go.Vc.Own zr w3 base l zs->Chg (λk=>l.blk=some k) w2 w3->I ((k:Int)+1,()) w3) ->
    qX (σ:=Bool×Unit) (λs_1 w3=>
     cond s_1.1
      (
       ixK l p 5 λt36=>ldS qt.rep (t36.add 2) w3 λt38=>ixK l p 5 λt40=>
       stK t40 [(.int .i32 0),(Ua 0),(Ua t38.Fg),(Ua t38.Bg),(Ua t38.Flags)] w3 λw4=>I ((k:Int)+1,()) w4)
      (I ((k:Int)+1,()) w3)) λJ2=>
    cond (decide (p>=(0:Int)))
     (cond (decide (p<((l.n:Nat):Int))) (vo l p w2 λt29 w5=>J2 ((!t29),()) w5) (J2 (false,()) w2)) (J2 (false,()) w2):=by
   intro ys zs p hy ho hz hfin;refine jpO λJ hJ=>?_;have stay:zs=ys->J (false,()) w2:=λe=>hJ _ _ (cF rfl (hfin _ (by rw [e];exact ho) (Chg.refl _ _)));refine cO (λh0=>?_) (λh0=>?_)
   ·have h0:0<=p:=oTq h0;refine cO (λh1=>?_) (λh1=>?_)
    ·have h1:=oTq h1;rw [ln] at h1;refine qyc ho.rd h0 (by omega) ?_;cases hfit:Xz ys p with
     | true=>exact stay (by rw [hz,qbl,if_neg (by simp [hfit])])
     | false =>
      refine hJ _ _ (cT rfl ?_);have hpl:p.toNat<ys.length:=by omega
      have hx:ys[p.toNat]?=some (ys[p.toNat]'hpl):=List.getElem?_eq_getElem _;have hze:zs=ys.set p.toNat (kr (ys[p.toNat]'hpl).A):=by
       rw [hz,qbl,if_pos ⟨h0,by omega,hfit⟩];simp [hx]
      refine ho.rd.ix rfl h0 (by omega) λhc=>?_;refine qx (x:=(ys[p.toNat]'hpl).A) (zcg hc) ?_;refine ho.rd.ix rfl h0 (by omega) λhc=>?_;refine ho.st0 hx (y:=kr (ys[p.toNat]'hpl).A) rfl λw3 ho3 hg3 hs3=>?_;exact hfin _ (by rw [hze];exact ho3) (Chg.of_grown hg3 λk hk=>hk)
    ·have h1:=oFq h1;rw [ln] at h1;exact stay (by rw [hz,qbl,if_neg (by omega)])
   ·have h0:=oFq h0;exact stay (by rw [hz,qbl,if_neg (by omega)])
  have next:∀(zs:List qO),zs=(if k+1=0 then xs else if k+1=1 then qbl xs (from_-1) else qkl xs from_ to)->∀w3,Go.Vc.Own zr w3 base l zs->Chg (λk=>l.blk=some k) w2 w3->I ((k:Int)+1,()) w3:=by
   intro zs hz w3 ho3 hc3;refine hI _ _ ⟨k+1,by simp,by omega,by rw [<-hz];exact ho3,hb.chg hc3 (λe=>?_),hc.trans hc3 λi hi e=>e⟩ (by simp;omega);have:=hne _ e;omega
  rcases (show k=0\/k=1 by omega) with rfl | rfl
  ·refine lI (x:=from_-1) (by simpa using hb.cells 0 _ rfl) ?_;exact round xs _ _ rfl ho rfl (next _ rfl)
  ·refine lI (x:=to) (by simpa using hb.cells 1 _ rfl) ?_;exact round (qbl xs (from_-1)) _ _ (qfr _ _) ho rfl (next _ rfl)
 ·have hge:=oFq hge;have:k=2:=by omega
  subst this;exact hK _ ho hc
theorem q4z {l:Slc} {xs:List qO} {col r width:Int} {a:vQ} {w:World} {K:Slc->Bool->Ub} (h:Rd zr w l xs) (hl:xs.length<=10000)
  (hK:∀s w',Go.Vc.Own zr w' w.heap.size s (q3r xs col r width a)->Uc w w'->K s (!decide (qj6 xs.length col width)) w'):Vo l col r width a w K:=by
 refine qnk _ _ _ _ _ ?_;refine nwb λw1 hb1 hB1 hs1=>?_;refine Yo (h.ext hB1) (by omega) λm w2 ho2 hB2=>?_;have hml:=ja xs;have hmn:m.n=xs.length:=by have:=ho2.rd.n;rwa [hml] at this
 have hln:l.n=xs.length:=h.n;have hB02:Uc w w2:=hB1.trans (hB2.mono (by omega));have hb2:=hb1.ext hB2;have hmb:∀g,m.blk=some g->w.heap.size<g:=λg hg=>by have:=(ho2.lt g hg).1;omega
 have ho2:Go.Vc.Own zr w2 w.heap.size m (jp xs):=ho2.base (by omega);refine jpO λJ1 hJ1=>jpO λJ3 hJ3=>?_;have bad:qj6 xs.length col width->J3 (true,()) w2:=λhb=>hJ3 _ _ (cT rfl (by
  have:=hK m w2 (by rw [q3r,if_pos hb];exact ho2) hB02
  rwa [dTq hb] at this))
 have good:¬qj6 xs.length col width->J3 (false,()) w2:=λhg=>hJ3 _ _ (cF rfl (hJ1 _ _ (by
  have hbad:=hg;unfold qj6 at hg;have hx:(jp xs)[col.toNat]?=some ((jp xs)[col.toNat]'(by omega)):=List.getElem?_eq_getElem _;refine qx (x:=a) hb2.cells ?_;refine ho2.rd.ix rfl (by omega) (by omega) λ_=>?_;refine ho2.st0 hx (y:=⟨r,0,a⟩) rfl λw4 ho4 hg4 hs4=>?_;have hB04:Uc w w4:=hB02.grown hg4 hB02.size λg hg=>(ho2.lt g hg).1;have hb4:=hb2.grown hg4 (λe=>by have:=hmb _ e.symm;omega);refine jpO λJ2 hJ2=>?_;have fin:∀{w5:World},Go.Vc.Own zr w5 w.heap.size m (qt3 (jp xs) col r width a)->Uc w w5->J2 () w5:=λ{w5} ho5 hB5=>hJ2 _ _ (by
   rw [qP (x:=col+width) (by omega)];refine q2x ho5 (by omega) λw6 ho6 hc6=>?_;have:=hK m w6 (by rw [q3r,if_neg hbad];exact ho6) (hB5.trans (hc6.below hB5.size λi hi e=>by have:=hmb i e;omega))
   rwa [dFq hbad] at this)
  refine cO (λh2=>?_) (λh2=>?_)
  ·have h2:=eq_of_beq h2;subst h2;refine ho4.rd.ix rfl (by omega) (by rw [List.length_set];omega) λ_=>?_;refine ho4.st (x:=⟨r,0,a⟩) (y:=⟨r,1,a⟩) (by rw [List.getElem?_set_self (by omega)]) (j:=1) (by simp [zr]) rfl λw7 ho7 hg7 hs7=>?_;rw [List.set_set] at ho7;have hB07:=hB04.grown hg7 hB04.size λg hg=>(ho2.lt g hg).1;have hb7:=hb4.grown hg7 (λe=>by have:=hmb _ e.symm;omega);refine qx (x:=a) hb7.cells ?_;rw [qP (x:=col+1) (by omega)];refine ho7.rd.ix rfl (by omega) (by rw [List.length_set];omega) λ_=>?_;refine ho7.st0 (x:=((jp xs).set col.toNat ⟨r,1,a⟩)[(col+1).toNat]'(by rw [List.length_set];omega)) (List.getElem?_eq_getElem _) (y:=⟨0,2,a⟩) rfl λw8 ho8 hg8 hs8=>?_;refine fin ?_ (hB07.grown hg8 hB07.size λg hg=>(ho2.lt g hg).1);rw [qt3,if_pos rfl];exact ho8
  ·have h2:=beq_eq_false_iff_ne.1 h2;refine fin ?_ hB04;rw [qt3,if_neg h2];exact ho4)))
 refine cO (λh1=>bad (.inl (oTq h1))) (λh1=>?_);refine cO (λh2=>bad (.inr (.inl (oTq h2)))) (λh2=>?_);refine cO (λh3=>bad (.inr (.inr (.inl (oTq h3))))) (λh3=>?_);have h1:=oFq h1;have h2:=oFq h2;have h3:=oFq h3;rw [hln,qP (by omega)];by_cases h4:col>(xs.length:Int)-width
 ·rw [dTq h4];exact bad (.inr (.inr (.inr h4)))
 ·rw [dFq h4];exact good (by unfold qj6;omega)
theorem q8k {l:Slc} {n:Nat} {col k:Int} {w:World} {K:Int->Ub} (hn:l.n=n) (hl:n<=1000000) (hK:K (qbo n col k) w):XI l col k w K:=by
 refine qk4 _ _ _ ?_;refine jpO λJ hJ=>?_;rw [hn];have no:(k<1\/col<0\/col>=n)->K 0 w:=λh=>by rwa [qbo,if_pos h] at hK
 refine cO (λh=>no (.inl (oTq h))) (λh1=>?_);refine cO (λh=>no (.inr (.inl (oTq h)))) (λh2=>?_);refine cO (λh=>no (.inr (.inr (oTq h)))) (λh3=>?_);have h1:=oFq h1;have h2:=oFq h2;have h3:=oFq h3;refine hJ _ _ ?_;rw [qbo,if_neg (by omega)] at hK;rw [hn,qP (by omega)];have e:(if (n:Int)-col<k then (n:Int)-col else k)=min k (n-col):=by omega
 rw [e];exact hK
theorem zcd {n:Int} {w:World} {K:Slc->Ub} (h0:0<=n) (hn:n<=1000000) (hK:∀r w',Go.Vc.Own zr w' w.heap.size r []->Uc w w'->K r w'):jL (⟨none,0,0⟩:Slc) n w K:=by
 refine Zc _ _ ?_;refine jpO λJ hJ=>?_;refine cF (by simpa using h0) (hJ _ _ ?_);have hw:i64.wrap (n-(i64.wrap (((0:Nat):Int)-((0:Nat):Int))))=n:=by
  rw [qP (x:=((0:Nat):Int)-((0:Nat):Int)) (by omega),qP (by omega)];omega
 simp only [hw];refine cO (λh=>?_) (λh=>?_)
 ·have h:=oTq h;refine vj (by omega) (by omega) (yT ?_);refine qys q21 (kk:=.i64) (by kernel_rfl) (n:=n.toNat) (by omega) (by omega) (by simp only [maxLen];omega) (by rw [ze1];omega) λcap w' h1 h2 ho hB=>?_;refine vj (by omega) (by simp) (yT ?_);have e:cut (some ⟨w.heap.size,0,none⟩) 0 cap 5=some ⟨w.heap.size,0,none⟩:=by
   unfold cut;split
   ·rfl
   ·simp
  show K ⟨cut (some ⟨w.heap.size,0,none⟩) 0 cap 5,0,cap⟩ w';rw [e];exact hK _ _ ho hB
 ·exact hK _ _ (Go.Vc.Own.nil _ _ _) (Below.refl _ _)
def slE:El Slc where
 cells s:=[.slice s.a s.n s.c]
 t:=zk
 k:=1
 pos:=by decide
 len _:=rfl
 one x v hv:=by
  simp only [mem_cons,List.mem_nil_iff,or_false] at hv;rcases hv with rfl
  rfl
def zbv (w:World) (ss:List Slc) (xss:List (List qO)):Prop:=ss.length=xss.length/\∀(i:Nat) s xs,ss[i]?=some s->xss[i]?=some xs->Rd zr w s xs
theorem q14 (xss:List (List qO)) (k:Nat):(xss.take k).flatten.length<=xss.flatten.length:=by
 conv=>rhs;rw [<-List.take_append_drop k xss]
 rw [List.flatten_append,length_append];omega
theorem qpu {xss:List (List qO)} {k:Nat} {xs:List qO} (h:xss[k]?=some xs):(xss.take (k+1)).flatten=(xss.take k).flatten++xs:=by
 rw [List.take_add_one,h];simp
theorem qrd {p:Slc} {ss:List Slc} {xss:List (List qO)} {w:World} {K:Slc->Ub} (hp:Rd slE w p ss) (hss:zbv w ss xss) (hl:xss.flatten.length<=1000000) (hn:ss.length<=1000000)
  (hK:∀r w',Go.Vc.Own zr w' w.heap.size r xss.flatten->Uc w w'->K r w'):zS p w K:=by
 refine Qi _ ?_;have hpn:=hp.n;obtain ⟨hsl,hss⟩:=hss;refine lpR (λ(s:Int×Int×Unit) w2=>∃k:Nat,s.2.1=k/\k<=ss.length/\s.1=((xss.take k).flatten.length:Nat)/\w2=w) (λs=>ss.length-s.2.1.toNat) ⟨0,rfl,by omega,rfl,rfl⟩ ?_;rintro ⟨t,i,_⟩ w2 ⟨k,rfl,hk,rfl,rfl⟩ I hI;dsimp only at *;have hle:=q14 xss;refine cO (λhlt=>?_) (λhge=>?_)
 ·have hlt:=oTq hlt;rw [hpn] at hlt;have hkl:k<ss.length:=by omega
  have hx:ss[k]?=some ss[k]:=List.getElem?_eq_getElem hkl;have hy:xss[k]?=some (xss[k]'(by omega)):=List.getElem?_eq_getElem _;refine hp.ix rfl (by omega) (by omega) λhc=>?_;refine lSl (x:=ss[k]) (by simpa using hc 0 _ rfl) ?_;have hr:=hss k _ _ hx hy;have hrn:=hr.n;have hf:=qpu hy;have h1:=hle (k+1);rw [hf,length_append] at h1;rw [hrn,qP (by omega)];refine cF (by simp;omega) ?_;rw [qP (by omega)];exact hI _ _ ⟨k+1,by simp,by omega,by rw [hf];simp,rfl⟩ (by simp;omega)
 ·have hge:=oFq hge;rw [hpn] at hge;have:k=ss.length:=by omega
  subst this;have h1:=hle ss.length;refine zcd (by omega) (by omega) λg w3 ho3 hB3=>?_;refine lpR (λ(s:Slc×Int×Unit) w4=>∃k:Nat,s.2.1=k/\k<=ss.length/\Go.Vc.Own zr w4 w2.heap.size s.1 ((xss.take k).flatten)/\Uc w2 w4) (λs=>ss.length-s.2.1.toNat) ⟨0,rfl,by omega,by simpa using ho3,hB3⟩ ?_;rintro ⟨t,i,_⟩ w4 ⟨k,rfl,hk,ho,hB⟩ I2 hI2;dsimp only at *;refine cO (λhlt=>?_) (λhge=>?_)
  ·have hlt:=oTq hlt;rw [hpn] at hlt;have hkl:k<ss.length:=by omega
   have hx:ss[k]?=some ss[k]:=List.getElem?_eq_getElem hkl;have hy:xss[k]?=some (xss[k]'(by omega)):=List.getElem?_eq_getElem _;refine (hp.ext hB).ix rfl (by omega) (by omega) λhc=>?_;refine lSl (x:=ss[k]) (by simpa using hc 0 _ rfl) ?_;have hr:=(hss k _ _ hx hy).ext hB;have hf:=qpu hy;have h1:=hle (k+1);rw [hf,length_append] at h1;refine jx q21 ho hr hB.size (by rw [ze1];omega) (by simp only [maxLen];omega) λr w5 ho5 hg5 hr5=>?_;rw [qP (by omega)];exact hI2 _ _ ⟨k+1,by simp,by omega,by rw [hf];exact ho5,hB.grown hg5 hB.size λg hg=>(ho.lt g hg).1⟩ (by simp;omega)
  ·have hge:=oFq hge;rw [hpn] at hge;have:k=ss.length:=by omega
   subst this;rw [hsl,take_length] at ho;exact hK _ _ ho hB
theorem qon {n:Nat} {col k:Int}:0<=qbo n col k/\(qbo n col k≠0->0<=col/\col+qbo n col k<=n):=by
 unfold qbo;split
 ·exact ⟨Int.le_refl _,λh=>absurd rfl h⟩
 ·exact ⟨by omega,λ_=>⟨by omega,by omega⟩⟩
theorem zgu {w:World} {a b c:Slc} {xs ys zs:List qO} (ha:Rd zr w a xs) (hb:Rd zr w b ys) (hc:Rd zr w c zs):zbv w [a,b,c] [xs,ys,zs]:=by
 refine ⟨rfl,λi s l hs hl=>?_⟩
 match i,hs,hl with
 | 0,hs,hl=>cases hs;cases hl;exact ha
 | 1,hs,hl=>cases hs;cases hl;exact hb
 | 2,hs,hl=>cases hs;cases hl;exact hc
 | i+3,hs,hl=>cases hs
theorem zhi {w:World} {a b:Slc} {xs ys:List qO} (ha:Rd zr w a xs) (hb:Rd zr w b ys):zbv w [a,b] [xs,ys]:=by
 refine ⟨rfl,λi s l hs hl=>?_⟩
 match i,hs,hl with
 | 0,hs,hl=>cases hs;cases hl;exact ha
 | 1,hs,hl=>cases hs;cases hl;exact hb
 | i+2,hs,hl=>cases hs
theorem rd_lits {T:Type} {E:El T} {w:World} {g:Nat} {ys:List T} {vs:List Value} (hb:Blk w g E.t vs) (hm:ys.length<=maxLen) (hy:Zd E ys=vs):Rd E w ⟨some ⟨g,0,none⟩,ys.length,ys.length⟩ ys :=
 (Go.Vc.Own.of_blk (E:=E) (base:=0) (zero_le _) hb (le_refl _) hm (by rw [<-hy,k5]) (by rw [<-hy,List.take_of_length_le (by rw [k5];exact le_refl _)])).rd
theorem q1s {l:Slc} {xs:List qO} {col k:Int} {a:vQ} {w:World} {K:Slc->Ub} (h:Rd zr w l xs) (hl:xs.length<=10000)
  (hK:∀s w',Go.Vc.Own zr w' w.heap.size s (qfk xs col k a)->Uc w w'->K s w'):Zs l col k a w K:=by
 refine qhk _ _ _ _ ?_;refine nwb λw1 hb1 hB1 hs1=>?_;refine Yo (h.ext hB1) (by omega) λm w2 ho2 hB2=>?_;have hml:=ja xs;have hln:l.n=xs.length:=h.n;have hB02:Uc w w2:=hB1.trans (hB2.mono (by omega));have hb2:=hb1.ext hB2;have ho2:Go.Vc.Own zr w2 w.heap.size m (jp xs):=ho2.base (by omega);obtain ⟨hc0,hc1⟩:=qon (n:=xs.length) (col:=col) (k:=k);refine q8k hln (by omega) ?_;unfold qfk at hK;generalize qbo xs.length col k=c at *;refine cO (λe=>?_) (λe=>?_)
 ·have e:=eq_of_beq e;simp only [if_pos e] at hK;exact hK _ _ ho2 hB02
 ·have e:=beq_eq_false_iff_ne.1 e;simp only [if_neg e] at hK;obtain ⟨hc1,hc2⟩:=hc1 e;refine ho2.rd.slK (l:=0) (m:=col.toNat) rfl (.inl ⟨rfl,rfl⟩) (.inr (by simp;omega)) (by omega) (by omega) λhp=>?_;refine qx (x:=a) hb2.drew.cells ?_;rw [hln,qP (by omega)];refine ho2.rd.slK (l:=col.toNat) (m:=xs.length-c.toNat) rfl (.inr (by simp;omega)) (.inr (by simp;omega)) (by omega) (by omega) λhq=>?_;refine qjg (by omega) λb w4 ho4 hB4=>?_;have hB04:Uc w w4:=hB02.drew.trans (hB4.mono hB02.size);refine nwb λw5 hb5 hB5 hs5=>?_;have hB05:Uc w w5:=hB04.trans (hB5.mono hB04.size);have hB45:Below w2.drew.heap.size w2.drew w5:=hB4.trans (hB5.mono hB4.size);have hA:=zgu (hp.drew.ext hB45) (ho4.rd.ext hB5) (hq.drew.ext hB45);refine qrd ?_ hA ?_ (by simp) λr w6 ho6 hB6=>?_
  ·exact rd_lits (E:=slE) (ys:=[_,_,_]) hb5 (by simp [maxLen]) rfl
  ·simp only [List.flatten_cons,List.flatten_nil,length_append,length_nil,length_drop,List.length_take,List.length_replicate];omega
  have hB06:Uc w w6:=hB05.trans (hB6.mono hB05.size);refine Yo ho6.rd ?_ λs w7 ho7 hB7=>?_
  ·simp only [List.flatten_cons,List.flatten_nil,length_append,length_nil,length_drop,List.length_take,List.length_replicate];omega
  refine hK s w7 ?_ (hB06.trans (hB7.mono hB06.size));simp only [List.flatten_cons,List.flatten_nil,append_nil,drop_zero,<-append_assoc] at ho7;exact ho7.base hB06.size
theorem q39 {l:Slc} {xs:List qO} {cols:Int} {w:World} {K:Slc->Ub} (h:Rd zr w l xs) (hl:xs.length<=10000)
  (hK:∀s w',Go.Vc.Own zr w' w.heap.size s (Z3 xs cols)->Uc w w'->K s w'):Zr l cols w K:=by
 refine qh7 _ _ ?_;refine Yo h (by omega) λm w2 ho2 hB2=>?_;have hml:=ja xs;have hmn:m.n=xs.length:=by have:=ho2.rd.n;rwa [hml] at this
 have e1:(if (0:Int)>cols then (0:Int) else cols)=max 0 cols:=by omega
 have e2:(if (1000:Int)<max 0 cols then (1000:Int) else max 0 cols)=min 1000 (max 0 cols):=by omega
 rw [e1,e2,hmn];unfold Z3 at hK;have hc:0<=min 1000 (max 0 cols):=by omega
 have hc':min 1000 (max 0 cols)<=1000:=by omega
 generalize min 1000 (max 0 cols)=c at *;refine cO (λe=>?_) (λe=>?_)
 ·have e:=oTq e;simp only [if_pos e] at hK;refine ho2.rd.slK (l:=0) (m:=c.toNat) rfl (.inl ⟨rfl,rfl⟩) (.inr (by simp;omega)) (by omega) (by omega) λhp=>?_;refine Yo hp ?_ λs w3 ho3 hB3=>hK s w3 ?_ (hB2.trans (hB3.mono hB2.size))
  ·simp;omega
  ·rw [drop_zero] at ho3;exact ho3.base hB2.size
 ·have e:=oFq e;simp only [if_neg e] at hK;rw [qP (by omega)];refine qjg (by omega) λb w3 ho3 hB3=>?_;have hB03:Uc w w3:=hB2.trans (hB3.mono hB2.size);refine nwb λw5 hb5 hB5 hs5=>?_;have hB05:Uc w w5:=hB03.trans (hB5.mono hB03.size);have hA:=zhi ((ho2.rd.ext hB3).ext hB5) (ho3.rd.ext hB5);refine qrd ?_ hA ?_ (by simp) λr w6 ho6 hB6=>?_
  ·exact rd_lits (E:=slE) (ys:=[_,_]) hb5 (by simp [maxLen]) (by rw [<-hmn];rfl)
  ·simp only [List.flatten_cons,List.flatten_nil,length_append,length_nil,List.length_replicate];omega
  refine hK r w6 ?_ (hB05.trans (hB6.mono hB05.size));simp only [List.flatten_cons,List.flatten_nil,append_nil] at ho6;exact ho6.base hB05.size
def Xx:El UInt8 where
 cells b:=[.int .u8 b.toNat]
 t:=qN
 k:=1
 pos:=by decide
 len _:=rfl
 one x v hv:=by
  simp only [mem_cons,List.mem_nil_iff,or_false] at hv;rcases hv with rfl
  rfl
def zdg:El Int where
 cells r:=[.int .i32 r]
 t:=vS
 k:=1
 pos:=by decide
 len _:=rfl
 one x v hv:=by
  simp only [mem_cons,List.mem_nil_iff,or_false] at hv;rcases hv with rfl
  rfl
noncomputable def q3e:SlT PG Xx qg where
 ht:=by kernel_rfl
 i:=(PG.info? qN).getD default
 hi:=by kernel_rfl
 z:=.int .u8 0
 hz:=by kernel_rfl
 hs:=by kernel_rfl
 hzs:=rfl
theorem zej:q3e.i.bytes=1:=by kernel_rfl
def qi4 (r:Int):Bool:=decide (0<=r) && decide (r<=1114111) && (decide (r<55296) || decide (r>57343))
def JY:Nat->Int->List UInt8
 | 0,_=>[]
 | m+1,v=>u8 (128+v/64^m%64)::JY m v
def qzl (v:Int):List UInt8 :=
 if v<128 then [u8 v] else if v<2048 then u8 (192+v/64)::JY 1 v else if v<65536 then u8 (224+v/4096)::JY 2 v else u8 (240+v/262144)::JY 3 v
def qwk (r:Int):Int:=if qi4 r=true then r else 65533
def qtu (r:Int):List UInt8:=qzl (qwk r)
theorem q51 (r:Int):qi4 (qwk r)=true:=by
 unfold qwk;split
 ·assumption
 ·decide
theorem XP {r:Int}:qi4 r=true↔0<=r/\r<=1114111/\(r<55296\/r>57343):=by
 unfold qi4;rw [Bool.and_eq_true,Bool.and_eq_true,Bool.or_eq_true,decide_eq_true_iff,decide_eq_true_iff,decide_eq_true_iff,decide_eq_true_iff,and_assoc]
theorem zep {r:Int} {w:World} {K:Bool->Ub} (hK:K (qi4 r) w):qj5 r w K:=by
 refine qr7 _ ?_;have no:qi4 r≠true->K false w:=λh=>by
  rwa [Bool.eq_false_iff.2 h] at hK
 refine cO (λh1=>cO (λh2=>cO (λh3=>?_) (λh3=>?_)) (λh2=>?_)) (λh1=>?_)
 ·have h1:=oTq h1;have h2:=oTq h2;have h3:=oTq h3
  rwa [XP.2 ⟨h1,h2,.inl h3⟩] at hK
 ·have h1:=oTq h1;have h2:=oTq h2;have h3:=oFq h3;by_cases h4:r>57343
  ·rw [XP.2 ⟨h1,h2,.inr h4⟩] at hK
   rwa [dTq h4]
  ·rw [dFq h4];exact no λh=>by have:=XP.1 h;omega
 ·have h2:=oFq h2;exact no λh=>by have:=XP.1 h;omega
 ·have h1:=oFq h1;exact no λh=>by have:=XP.1 h;omega
theorem qyj {x:Int} (h:-2147483648<=x/\x<=2147483647):IntKind.i32.wrap x=x:=by
 rw [IntKind.wrap_i32];omega
theorem qs6 (a:Nat) (ha:a<2147483648):(BitVec.ofInt 32 (a:Int)).toNat=a:=by
 rw [BitVec.toNat_ofInt];omega
theorem zir (a b:Nat) (ha:a<2147483648) (hb:b<2147483648):jX .or .i32 (a:Int) (b:Int)=((a ||| b:Nat):Int):=by
 show IntKind.i32.wrap ((BitVec.ofInt 32 (a:Int) ||| BitVec.ofInt 32 (b:Int)).toNat:Int)=_;rw [BitVec.toNat_or,qs6 a ha,qs6 b hb];have:=Nat.or_lt_two_pow (n:=31) (x:=a) (y:=b) (by omega) (by omega);exact qyj (by omega)
theorem zhx (a b:Nat) (ha:a<2147483648) (hb:b<2147483648):jX .and .i32 (a:Int) (b:Int)=((a &&& b:Nat):Int):=by
 show IntKind.i32.wrap ((BitVec.ofInt 32 (a:Int) &&& BitVec.ofInt 32 (b:Int)).toNat:Int)=_;rw [BitVec.toNat_and,qs6 a ha,qs6 b hb];have:=Nat.and_lt_two_pow (n:=31) a (y:=b) (by omega);exact qyj (by omega)
theorem qiq (i:Nat) (x y:Int) (hx0:0<=x) (hy0:0<=y) (hx:x.toNat%2^i=0) (hy:y.toNat<2^i) (hx1:x<2147483648) (hy1:y<2147483648):jX .or .i32 x y=x+y:=by
 obtain ⟨a,rfl⟩:=Int.eq_ofNat_of_zero_le hx0;obtain ⟨b,rfl⟩:=Int.eq_ofNat_of_zero_le hy0;rw [zir a b (by omega) (by omega),nat_join i a b (by simpa using hx) (by simpa using hy)];simp
theorem zdq (x:Int) (hx0:0<=x) (hx1:x<2147483648):jX .and .i32 x 63=x%64:=by
 obtain ⟨a,rfl⟩:=Int.eq_ofNat_of_zero_le hx0;have:=zhx a 63 (by omega) (by omega);rw [show ((63:Nat):Int)=63 from rfl] at this;rw [this,nat_mask6];omega
theorem zif {m:Nat} (hm:m<=3) {v:Int} (_hv:0<=v):v.fdiv (2^(min (i64.wrap (6*(m:Int))).toNat IntKind.i32.bits))=v/64^m:=by
 rw [qP (by omega)];have e1:(6*(m:Int)).toNat=6*m:=by omega
 have e2:min (6*m) IntKind.i32.bits=6*m:=by
  show min (6*m) 32=_;omega
 have e3:(2:Int)^(6*m)=64^m:=by rw [Int.pow_mul];rfl
 rw [e1,e2,e3];exact Int.fdiv_eq_ediv_of_nonneg _ (Int.le_of_lt (Int.pow_pos (by decide)))
theorem zf0 {m:Nat} (hm:m<=3) {v:Int} (hv:0<=v) (hb:v<[128,2048,65536,2097152].getD m 0) :
  jX .or .i32 ([0,192,224,240].getD m 0) (v/64^m)=([0,192,224,240].getD m 0)+v/64^m:=by
 match m,hm with
 | 0,_ =>
  simp only [getD_cons_zero] at hb ⊢;simp only [Int.pow_zero,Int.ediv_one];exact qiq 7 0 v (by omega) hv (by decide) (by omega) (by omega) (by omega)
 | 1,_ =>
  simp only [List.getD_cons_succ,getD_cons_zero] at hb ⊢;exact qiq 5 192 _ (by omega) (by omega) (by decide) (by omega) (by omega) (by omega)
 | 2,_ =>
  simp only [List.getD_cons_succ,getD_cons_zero] at hb ⊢;exact qiq 4 224 _ (by omega) (by omega) (by decide) (by omega) (by omega) (by omega)
 | 3,_ =>
  simp only [List.getD_cons_succ,getD_cons_zero] at hb ⊢;exact qiq 3 240 _ (by omega) (by omega) (by decide) (by omega) (by omega) (by omega)
theorem zd1 (m:Nat) {v:Int} (hv:0<=v) (hb:v<=1114111):0<=v/64^m/\v/64^m<=1114111:=by
 have hp:(0:Int)<64^m:=Int.pow_pos (by decide);exact ⟨Int.ediv_nonneg hv (Int.le_of_lt hp),Int.le_trans (Int.ediv_le_self _ hv) hb⟩
theorem q0t {w:World} {g:Nat} {x:Int} (h:0<=x/\x<256) (hb:Blk w g qN [.int .u8 (IntKind.u8.wrap x)]):Rd Xx w ⟨some ⟨g,0,none⟩,1,1⟩ [u8 x]:=by
 refine yg (E:=Xx) hb ?_;show [Value.int .u8 ((u8 x).toNat:Int)]=_;rw [qtx h.1 h.2,IntWalk.u8_in _ (by omega)]
theorem q3q (v:Int):(qzl v).length<=4:=by
 unfold qzl;split
 ·simp
 ·split
  ·simp [JY]
  ·split<;>simp [JY]
theorem q22 {l:Slc} {xs:List Int} {w:World} {K:Slc->Ub} (h:Rd zdg w l xs) (hl:xs.length<=100000)
  (hK:∀r w',Go.Vc.Own Xx w' w.heap.size r (xs.flatMap qtu)->Uc w w'->K r w'):qff l w K:=by
 refine qsx _ ?_;refine lpR (λ(s:Slc×Int×Unit) w2=>∃k:Nat,s.2.1=k/\k<=xs.length/\Go.Vc.Own Xx w2 w.heap.size s.1 ((xs.take k).flatMap qtu)/\((xs.take k).flatMap qtu).length<=4*k/\Uc w w2)
  (λs=>xs.length-s.2.1.toNat) ⟨0,rfl,by omega,by simpa using Go.Vc.Own.nil _ _ _,by simp,Below.refl _ _⟩ ?_
 rintro ⟨s,i,_⟩ w2 ⟨k,rfl,hk,ho,hlen,hB⟩ I hI;dsimp only at *;refine cO (λhlt=>?_) (λhge=>?_)
 ·have hlt:=oTq hlt;rw [h.n] at hlt;have hkl:k<xs.length:=by omega
  obtain ⟨x,hx⟩:∃x,xs[k]?=some x:=⟨xs[k],List.getElem?_eq_getElem hkl⟩;have htake:xs.take (k+1)=xs.take k++[x]:=by
   rw [List.take_add_one,hx];rfl
  refine (h.ext hB).ix rfl (by omega) (by omega) λhc=>?_;have hxs:xs[((k:Int)).toNat]'(by omega)=x:=by
   have:=List.getElem?_eq_getElem hkl;rw [hx] at this;exact (Option.some.inj this).symm
  rw [hxs] at hc;refine lI (x:=x) (by have:=hc 0 _ rfl;rwa [add_zero] at this) ?_;refine jpO λJ2 hJ2=>?_;have main:J2 (qwk x,()) w2:=hJ2 _ _ (by
   dsimp only;obtain ⟨hv0,hv1,_⟩:=XP.1 (q51 x);have henc:qtu x=qzl (qwk x):=rfl;generalize qwk x=v at *;refine jpO λJ3 hJ3=>?_;have go:∀m:Nat,m<=3->v<[128,2048,65536,2097152].getD m 0->qzl v=u8 (([0,192,224,240].getD m 0)+v/64^m)::JY m v->J3 ((m:Int),[0,192,224,240].getD m 0,()) w2:=λm hm hb he=>hJ3 _ _ (by
    dsimp only;rw [zif hm hv0,zf0 hm hv0 hb];refine ⟨by rw [qP (by omega)];omega,?_⟩;have hlead:0<=([0,192,224,240].getD m 0)+v/64^m/\([0,192,224,240].getD m 0)+v/64^m<256:=by
     match m,hm with
     | 0,_=>simp only [getD_cons_zero] at hb ⊢;simp only [Int.pow_zero,Int.ediv_one];omega
     | 1,_=>simp only [List.getD_cons_succ,getD_cons_zero] at hb ⊢;omega
     | 2,_=>simp only [List.getD_cons_succ,getD_cons_zero] at hb ⊢;omega
     | 3,_=>simp only [List.getD_cons_succ,getD_cons_zero] at hb ⊢;omega
    generalize ([0,192,224,240].getD m 0)+v/64^m=hd at *;refine nwb λw3 hb3 hB3 hs3=>?_;refine jx q3e (ho.ext hB3) (q0t hlead hb3) (by have:=hB.size;omega) (by rw [zej];simp only [length_cons,length_nil];omega) (by simp only [maxLen,length_cons,length_nil];omega) λr w4 ho4 hg4 hr4=>?_;have hB4:Uc w w4:=(hB.trans (hB3.mono hB.size)).grown hg4 (by have:=hB.size;omega) λg hg=>((ho.ext hB3).lt g hg).1;refine lpR (λ(s3:Slc×Int×Unit) w6=>∃j:Nat,j<=m/\s3.2.1=(j:Int)-1/\∃done:List UInt8,done++JY j v=u8 hd::JY m v/\done.length<=4/\Go.Vc.Own Xx w6 w.heap.size s3.1 ((xs.take k).flatMap qtu++done)/\Uc w w6)
     (λs3=>(s3.2.1+1).toNat) ⟨m,le_refl _,by rw [qP (by omega)],[u8 hd],rfl,by simp,ho4,hB4⟩ ?_
    rintro ⟨s3,i3,_⟩ w6 ⟨j,hj,rfl,done,hdone,hdl,ho6,hB6⟩ I4 hI4;dsimp only at *;refine cO (λh0=>?_) (λh0=>?_)
    ·have h0:=oTq h0;obtain ⟨j,rfl⟩:∃j',j=j'+1:=⟨j-1,by omega⟩;have ej:((j+1:Nat):Int)-1=(j:Int):=by omega
     rw [ej] at h0 ⊢;rw [zif (by omega) hv0];obtain ⟨hq0,hq1⟩:=zd1 j hv0 hv1;rw [zdq _ hq0 (by omega),qiq 6 128 _ (by omega) (by omega) (by decide) (by omega) (by omega) (by omega)];refine ⟨by rw [qP (by omega)];omega,?_⟩;refine nwb λw7 hb7 hB7 hs7=>?_;have hdl':done.length+(JY (j+1) v).length<=4:=by
      have:=congrArg List.length hdone;rw [length_append] at this;rw [this]
      match m,hm with
      | 0,_=>simp [JY]
      | 1,_=>simp [JY]
      | 2,_=>simp [JY]
      | 3,_=>simp [JY]
     simp only [JY,length_cons] at hdl';refine jx q3e (ho6.ext hB7) (q0t (by omega) hb7) (by have:=hB6.size;omega) (by rw [zej];simp only [length_append,length_cons,length_nil];omega) (by simp only [maxLen,length_append,length_cons,length_nil];omega) λr' w8 ho8 hg8 hr8=>?_;rw [qP (by omega)];refine hI4 (r',(j:Int)-1,()) w8 ⟨j,by omega,rfl,done++[u8 (128+v/64^j%64)],by rw [<-hdone];simp [JY],by simp;omega,?_,?_⟩ (by simp)
     ·rw [<-append_assoc];exact ho8
     ·exact (hB6.trans (hB7.mono hB6.size)).grown hg8 (by have:=hB6.size;omega) λg hg=>((ho6.ext hB7).lt g hg).1
    ·have h0:=oFq h0;have hj0:j=0:=by omega
     subst hj0;rw [JY,append_nil] at hdone;rw [qP (by omega)];have hfl:(xs.take (k+1)).flatMap qtu=(xs.take k).flatMap qtu++done:=by
      rw [htake,List.flatMap_append,hdone,<-he,<-henc];simp
     refine hI (s3,(k:Int)+1,()) w6 ⟨k+1,by simp,by omega,?_,?_,hB6⟩ (by simp;omega)
     ·rw [hfl];exact ho6
     ·rw [hfl,length_append];omega)
   refine jpO λJ5 hJ5=>?_;have j5:∀m:Nat,m<=2->J3 (((m+1:Nat):Int),[0,192,224,240].getD (m+1) 0,()) w2->J5 ((m:Int),[0,0,32,48].getD (m+1) 0,()) w2:=λm hm h3=>hJ5 _ _ (by
    dsimp only;rw [qP (by omega)]
    match m,hm with
    | 0,_=>exact h3
    | 1,_=>exact h3
    | 2,_=>exact h3)
   refine jpO λJ6 hJ6=>?_;refine cO (λh4=>?_) (λh4=>cO (λh3=>?_) (λh3=>cO (λh2=>?_) (λh2=>?_)))
   ·have h4:=oTq h4;refine hJ6 _ _ (j5 2 (by omega) (go 3 (by omega) (by simp only [List.getD_cons_succ,getD_cons_zero];omega) ?_));unfold qzl;rw [if_neg (by omega),if_neg (by omega),if_neg (by omega)];rfl
   ·have h4:=oFq h4;have h3:=oTq h3;refine hJ6 _ _ (j5 1 (by omega) (go 2 (by omega) (by simp only [List.getD_cons_succ,getD_cons_zero];omega) ?_));unfold qzl;rw [if_neg (by omega),if_neg (by omega),if_pos (by omega)];rfl
   ·have h3:=oFq h3;have h2:=oTq h2;refine j5 0 (by omega) (go 1 (by omega) (by simp only [List.getD_cons_succ,getD_cons_zero];omega) ?_);unfold qzl;rw [if_neg (by omega),if_pos (by omega)];rfl
   ·have h2:=oFq h2;refine go 0 (by omega) (by simp only [getD_cons_zero];omega) ?_;unfold qzl;rw [if_pos (by omega)];simp [JY])
  refine zep ?_;refine cO (λhn=>?_) (λhn=>?_)
  ·have hn:qi4 x=false:=by simpa using hn
   have:qwk x=65533:=by rw [qwk,if_neg (by rw [hn];decide)]
   rw [this] at main;exact main
  ·have hn:qi4 x=true:=by simpa using hn
   have:qwk x=x:=by rw [qwk,if_pos hn]
   rw [this] at main;exact main
 ·have hge:=oFq hge;rw [h.n] at hge;have:k=xs.length:=by omega
  subst this;rw [take_length] at ho;exact hK s w2 ho hB
end Go.Proofs.YtokfefnmpjohpaaGreatDoor
