import Derived.Test.YtedcpbkcamckoaaGreatDoorVc
import Derived.Below
import Derived.Maps.AppendAt
import Derived.Laws.OwnMore
import Derived.IntWalk
import Derived.ProofKit
import Derived.OpenShut
import Derived.ChangeOld
import Derived.ChangeSame
import Derived.Carry
import Derived.Deep.Slices
import Derived.Laws.MakeOwn
import Derived.Test.YtedcpbkcamckoaaGreatDoorDefs
import Derived.Test.YtedcpbkcamckoaaGreatDoorShA
import Derived.Shelf.Strings.OnBuilder
import Derived.Shelf.Small.Strs
import Derived.Shelf.Strconv.Itoa3
import Derived.Shelf.Strings.Search3
import Derived.Shelf.Strings.Count
import Derived.Shelf.Bytes.IndexByte
import Derived.Shelf.LaysM
import Derived.Shelf.Strings.Search1
import Derived.Test.YtedcpbkcamckoaaGreatDoorProg
import Derived.Lib.ConvBytes
import Derived.Laws.BytesString
import Derived.Laws.Runes
import Derived.WalkSmall
import Derived.Test.YtedcpbkcamckoaaGreatDoorRows
import Derived.DataShut
import Derived.Lay
import Derived.MakeChecks
import Derived.LaidMore
import Derived.Stop.Joined
import Derived.Lib.LaidTab
import Derived.ChangeMaps5
import Derived.MapKept
import Derived.Maps.Own
import Derived.Shelf.SlIterI.Nil
import Derived.Shelf.SortM.Plain
import Derived.Shelf.SortM.SortNone
import Derived.Maps.RangeRun
set_option linter.unusedVariables false
namespace Go.Vc
open Go.RowKit
open Builtin (append_)
open IntKind (i64)
open _root_.Nat (add_mul le_refl)
open _root_.Option (getD_some isSome_iff_exists)
theorem lpR {σ:Type} {body:(σ->World->Prop)->σ->World->Prop} {s0:σ} {w0:World} (Inv:σ->World->Prop) (μ:σ->Nat) (h0:Inv s0 w0)
  (step:∀s w,Inv s w->∀I:σ->World->Prop,(∀s' w',Inv s' w'->μ s'<μ s->I s' w')->body I s w):loopP body s0 w0:=by
 intro I hI;have key:∀n s w,μ s=n->Inv s w->I s w:=by
  intro n
  induction n using Nat.strongRecOn with
  | _ n ih =>
   intro s w hn hs;exact hI s w (step s w hs I fun s' w' h' hlt=>ih (μ s') (hn ▸ hlt) s' w' rfl h')
 exact key _ _ _ rfl h0
theorem qg4 {σ:Type} {body:(σ->World->Prop)->σ->World->Prop} {s0:σ} {w0:World} (Inv:Nat->σ->World->Prop) (n0:Nat) (h0:Inv n0 s0 w0)
  (step:∀n s w,Inv n s w->∀I:σ->World->Prop,(∀n' s' w',Inv n' s' w'->n'<n->I s' w')->body I s w):loopP body s0 w0:=by
 intro I hI;have key:∀n s w,Inv n s w->I s w:=by
  intro n
  induction n using Nat.strongRecOn with
  | _ n ih=>intro s w hs;exact hI s w (step n s w hs I fun n' s' w' h' hlt=>ih n' hlt s' w' h')
 exact key _ _ _ h0
theorem jpO {σ:Type} {K:σ->World->Prop} {body:(σ->World->Prop)->Prop} (h:∀J:σ->World->Prop,(∀s w,K s w->J s w)->body J):joinP K body:=h
theorem cO {b:Bool} {X Y:Prop} (h1:b=true->X) (h2:b=false->Y):cond b X Y:=by
 cases b
 ·exact h2 rfl
 ·exact h1 rfl
theorem cT {b:Bool} {X Y:Prop} (h:b=true) (h1:X):cond b X Y:=by subst h;exact h1
theorem cF {b:Bool} {X Y:Prop} (h:b=false) (h1:Y):cond b X Y:=by subst h;exact h1
theorem qsk (a:Addr) (i j:Nat):(a.add i).add j=a.add (i+j):=by
 unfold Addr.add;by_cases hi:i=0<;>by_cases hj:j=0<;>simp [hi,hj,Nat.add_assoc]
@[simp] theorem add_zero (a:Addr):a.add 0=a:=by simp [Addr.add]
@[simp] theorem block_add (a:Addr) (n:Nat):(a.add n).block=a.block:=by unfold Addr.add;split<;>rfl
theorem qas (b o n:Nat):(⟨b,o,none⟩:Addr).add n=⟨b,o+n,none⟩:=by unfold Addr.add;split<;>simp_all
theorem qaw.sub {w:World} {a:Addr} {vs us:List Value} (h:qaw w a vs) (i:Nat) (hu:∀(j:Nat) (v:Value),us[j]?=some v->vs[i+j]?=some v):qaw w (a.add i) us:=by
 intro j v hj;rw [qsk];exact h _ _ (hu j v hj)
theorem qaw.lt {w:World} {a:Addr} {vs:List Value} (h:qaw w a vs) (hn:0<vs.length):a.block<w.heap.size:=by
 have:=World.block_lt_of_cell? w (a.add 0) (h 0 vs[0] (by simp [hn]));simpa using this
def Blk (w:World) (g:Nat) (t:TypeId) (vs:List Value):Prop:=w.heap[g]?=some (.cells vs.toArray t (0,0))
section
variable {w w':World} {g:Nat} {t:TypeId} {vs:List Value}
theorem Blk.lt (h:Blk w g t vs):g<w.heap.size:=by
 rcases Nat.lt_or_ge g w.heap.size with hlt | hge
 ·exact hlt
 ·unfold Blk at h;rw [Array.getElem?_eq_none hge] at h;cases h
theorem Blk.new (w:World) (t:TypeId) (vs:List Value):Blk (w.alloc (.cells vs.toArray t)) w.heap.size t vs:=by
 show (w.heap.push _)[w.heap.size]?=_;simp
theorem Blk.cells (h:Blk w g t vs):qaw w ⟨g,0,none⟩ vs:=by
 intro i v hv;unfold Blk at h;rw [qas];simp [World.cell?,h,hv]
theorem Blk.cell (h:Blk w g t vs) (i:Nat) {v:Value} (hv:vs[i]?=some v):w.cell? ⟨g,i,none⟩=some v:=by
 have:=h.cells i v hv
 rwa [qas,Nat.zero_add] at this
theorem Blk.sub (h:Blk w g t vs) (i:Nat) (us:List Value) (hu:(vs.drop i).take us.length=us):qaw w ((⟨g,0,none⟩:Addr).add i) us:=by
 refine h.cells.sub i fun j v hj=>?_;rw [<-hu] at hj;have hjl:j<us.length:=by
  rcases Nat.lt_or_ge j us.length with h' | h'
  ·exact h'
  ·rw [List.getElem?_eq_none (by simp;omega)] at hj;cases hj
 rw [List.getElem?_take_of_lt hjl,List.getElem?_drop] at hj;exact hj
theorem Blk.frozen (h:Blk w g t vs) (i:Nat):w.frozen? ⟨g,i,none⟩=false:=by
 unfold Blk at h;simp [World.frozen?,h]
theorem Blk.drew (h:Blk w g t vs):Blk w.drew g t vs:=h
theorem Blk.below {B:Nat} (h:Blk w g t vs) (hb:Below B w w') (hg:g<B):Blk w' g t vs:=(hb.block g hg).trans h
theorem Blk.ext (h:Blk w g t vs) (hb:Below w.heap.size w w'):Blk w' g t vs:=h.below hb h.lt
theorem Blk.grown {row:Option Nat} (h:Blk w g t vs) (hb:w.grownBy w' row) (hg:some g≠row):Blk w' g t vs:=(hb.block g h.lt hg).trans h
theorem Blk.set_ (h:Blk w g t vs) (i:Nat) (u:Value):Blk (w.setCell ⟨g,i,none⟩ u) g t (vs.set i u):=by
 unfold Blk at h ⊢;simp [World.setCell,Array.getElem?_modify,h]
end
def putL (vs:List Value) (i:Nat) (us:List Value):List Value:=match us with
 | []=>vs
 | u::r=>putL (vs.set i u) (i+1) r
theorem zds {g o:Nat} {t:TypeId}:∀(us:List Value) (i:Nat) (w:World) (vs:List Value),Blk w g t vs->Blk (qdb w ⟨g,o,none⟩ i us) g t (putL vs (o+i) us):=by
 intro us
 induction us with
 | nil=>intro i w vs h;exact h
 | cons u r ih =>
  intro i w vs h;simp only [qdb,putL];rw [qas];have:=ih (i+1) _ _ (h.set_ (o+i) u)
  rwa [<-Nat.add_assoc] at this
theorem ze7 {w:World} {g o:Nat} {t:TypeId} {vs us:List Value} (h:Blk w g t vs):Blk (wr w ⟨g,o,none⟩ us) g t (putL vs o us):=by
 have:=zds (o:=o) us 0 w vs h;simpa [wr] using this
theorem q19 {a:Addr}:∀(us:List Value) (i:Nat) (w:World),(qdb w a i us).heap.size=w.heap.size/\(∀k,k≠a.block->(qdb w a i us).heap[k]?=w.heap[k]?)/\(qdb w a i us).tape=w.tape/\(qdb w a i us).os=w.os/\(qdb w a i us).output=w.output/\(qdb w a i us).drawn=w.drawn:=by
 intro us
 induction us with
 | nil=>intro i w;exact ⟨rfl,fun _ _=>rfl,rfl,rfl,rfl,rfl⟩
 | cons u r ih =>
  intro i w;obtain ⟨h1,h2,h3,h4,h5,h6⟩:=ih (i+1) (w.setCell (a.add i) u);refine ⟨by rw [qdb,h1];simp,fun k hk=>?_,by rw [qdb,h3];simp,by rw [qdb,h4];rfl,by rw [qdb,h5];rfl,by rw [qdb,h6];simp⟩;rw [qdb,h2 k hk];exact Below.heap_setCell _ _ _ _ (by simpa using hk)
@[simp] theorem size_wr (w:World) (a:Addr) (us:List Value):(wr w a us).heap.size=w.heap.size:=(q19 us 0 w).1
theorem q28 (w:World) (a:Addr) (us:List Value):w.grownBy (wr w a us) (some a.block):=by
 obtain ⟨h1,h2,h3,h4,h5,_⟩:=q19 (a:=a) us 0 w;exact ⟨h4,h3,h5,by show _<=(qdb w a 0 us).heap.size;omega,fun k _ hne=>h2 k fun e=>hne (by rw [e])⟩
theorem zhu {w:World} {g o:Nat} {t:TypeId} {vs us:List Value} (h:Blk w g t vs) (hl:o+us.length<=vs.length):stOk w ⟨g,o,none⟩ us:=by
 intro i hi;rw [qas];refine ⟨⟨vs[o+i],?_⟩,h.frozen _⟩;exact h.cell (o+i) (List.getElem?_eq_getElem (by omega))
theorem qaj {w:World} {g o:Nat} {t:TypeId} {vs us:List Value} {K:World->Prop} (h:Blk w g t vs) (hl:o+us.length<=vs.length)
  (hK:∀w',Blk w' g t (putL vs o us)->w.grownBy w' (some g)->w'.heap.size=w.heap.size->K w'):stK ⟨g,o,none⟩ us w K :=
 ⟨zhu h hl,hK _ (ze7 h) (q28 w ⟨g,o,none⟩ us) (size_wr _ _ _)⟩
theorem nwb {t:TypeId} {vs:List Value} {w:World} {K:Addr->World->Prop} (hK:∀w',Blk w' w.heap.size t vs->Below w.heap.size w w'->w'.heap.size=w.heap.size+1->K ⟨w.heap.size,0,none⟩ w'):nw t vs w K :=
 hK _ (Blk.new w t vs) ((Below.refl _ w).alloc (le_refl _) _) (by simp)
structure El (T:Type) where
 cells:T->List Value
 t:TypeId
 k:Nat
 pos:0<k
 len:∀x,(cells x).length=k
 one:∀x,∀v∈cells x,v.oneCell'=true
def Slc.at_ (s:Slc) (k i:Nat):Addr:=(s.a.getD ⟨0,0,none⟩).add (i*k)
structure Rd {T:Type} (E:El T) (w:World) (s:Slc) (xs:List T):Prop where
 n:s.n=xs.length
 nc:s.n<=s.c
 cm:s.c<=maxLen
 some_:0<xs.length->s.a.isSome=true
 at_:∀(i:Nat) x,xs[i]?=some x->qaw w (s.at_ E.k i) (E.cells x)
theorem Rd.nil {T:Type} (E:El T) (w:World):Rd E w ⟨none,0,0⟩ []:=⟨rfl,le_refl _,by simp [maxLen],fun h=>by simp at h,fun i x h=>by simp at h⟩
theorem Rd.lt {T:Type} {E:El T} {w:World} {s:Slc} {xs:List T} (h:Rd E w s xs) {i:Nat} (hi:i<xs.length):(s.at_ E.k i).block<w.heap.size :=
 (h.at_ i xs[i] (by simp [hi])).lt (by rw [E.len];exact E.pos)
theorem Rd.keep {T:Type} {E:El T} {w w':World} {s:Slc} {xs:List T} (h:Rd E w s xs) (hk:∀(b:Nat),b<w.heap.size->(∀a,s.a=some a->b=a.block)->w'.heap[b]?=w.heap[b]?):Rd E w' s xs:=by
 refine ⟨h.n,h.nc,h.cm,h.some_,fun i x hx=>?_⟩;have hc:=h.at_ i x hx;intro j v hv;have hcell:=hc j v hv;have hlt:=World.block_lt_of_cell? w _ hcell;rw [World.cell?_of_block (w:=w) (hk _ hlt (fun a ha=>by simp [Slc.at_,ha]))];exact hcell
theorem Rd.ext {T:Type} {E:El T} {w w':World} {s:Slc} {xs:List T} (h:Rd E w s xs) (hb:Below w.heap.size w w'):Rd E w' s xs:=h.keep fun b hlt _=>hb.block b hlt
theorem Rd.none_nil {T:Type} {E:El T} {w:World} {s:Slc} {xs:List T} (h:Rd E w s xs) (ha:s.a=none):xs=[]:=by
 cases xs with
 | nil=>rfl
 | cons x r=>have:=h.some_ (by simp);rw [ha] at this;cases this
theorem Rd.drew {T:Type} {E:El T} {w:World} {s:Slc} {xs:List T} (h:Rd E w s xs):Rd E w.drew s xs:=h.keep fun _ _ _=>rfl
theorem q3x {s:Slc} {i:Int} {k:Nat} {K:Addr->Prop} (ha:s.a.isSome=true) (h0:0<=i) (h1:i<s.n) (h:K (s.at_ k i.toNat)):ixK s i k K:=by
 obtain ⟨a,e⟩:=isSome_iff_exists.1 ha;unfold ixK;rw [e,onPtr_some];refine ⟨⟨h0,h1⟩,?_⟩;simpa [Slc.at_,e] using h
theorem Rd.ix {T:Type} {E:El T} {w:World} {s:Slc} {xs:List T} (h:Rd E w s xs) {i:Int} {k:Nat} (hk:k=E.k) {K:Addr->Prop} (h0:0<=i) (h1:i<xs.length)
  (hK:qaw w (s.at_ E.k i.toNat) (E.cells (xs[i.toNat]'(by omega)))->K (s.at_ E.k i.toNat)):ixK s i k K:=by
 subst hk;refine q3x (h.some_ (by omega)) h0 (by rw [h.n];exact h1) (hK (h.at_ _ _ ?_));simp
def flat {T:Type} (E:El T) (xs:List T):List Value:=xs.flatMap E.cells
theorem qeo {T:Type} (E:El T) (xs:List T):(flat E xs).length=xs.length*E.k:=by
 unfold flat
 induction xs with
 | nil=>simp
 | cons x r ih=>simp [E.len,ih,add_mul,Nat.add_comm]
theorem q2w {T:Type} (E:El T) (xs ys:List T):flat E (xs++ys)=flat E xs++flat E ys:=by simp [flat]
theorem qxj {T:Type} (E:El T):∀(xs:List T) (i:Nat) (x:T) (j:Nat) (v:Value),xs[i]?=some x->(E.cells x)[j]?=some v->(flat E xs)[i*E.k+j]?=some v:=by
 intro xs
 induction xs with
 | nil=>intro i x j v h;simp at h
 | cons y r ih =>
  intro i x j v h hv;have hj:j<E.k:=by rw [<-E.len x];exact (List.getElem?_eq_some_iff.1 hv).1
  have e:flat E (y::r)=E.cells y++flat E r:=by simp [flat]
  rw [e];cases i with
  | zero =>
   simp only [List.getElem?_cons_zero,Option.some.injEq] at h;subst h;rw [Nat.zero_mul,Nat.zero_add,List.getElem?_append_left (by rw [E.len];exact hj)];exact hv
  | succ i =>
   simp only [List.getElem?_cons_succ] at h;rw [List.getElem?_append_right (by rw [E.len,add_mul];omega),E.len];have:(i+1)*E.k+j-E.k=i*E.k+j:=by rw [add_mul];omega
   rw [this];exact ih i x j v h hv
theorem zin {T:Type} (E:El T) (xs:List T):∀u∈flat E xs,u.oneCell'=true:=by
 intro u hu;obtain ⟨x,_,hx⟩:=List.mem_flatMap.1 hu;exact E.one x u hx
def Slc.v (s:Slc):Value:=.slice s.a s.n s.c
def Slc.blk (s:Slc):Option Nat:=s.a.map (·.block)
def Own {T:Type} (E:El T) (w:World) (base:Nat) (s:Slc) (xs:List T):Prop:=w.ownsRow base E.t E.k s.v xs.length (flat E xs)
theorem qn3 (s:Slc):s.v.ownBlock=s.blk:=by
 unfold Slc.v Slc.blk;cases s.a<;>rfl
theorem Own.form {T:Type} {E:El T} {w:World} {base:Nat} {s:Slc} {xs:List T} (h:Own E w base s xs) :
  (s=⟨none,0,0⟩/\xs=[])\/∃g cur,s=⟨some ⟨g,0,none⟩,xs.length,s.c⟩/\base<=g/\Blk w g E.t cur/\xs.length<=s.c/\s.c<=maxLen/\cur.length=s.c*E.k/\cur.take (xs.length*E.k)=flat E xs:=by
 obtain ⟨_,h⟩:=h;obtain ⟨a,n,c⟩:=s;rcases h with ⟨e,hn⟩ | ⟨g,cap,cur,e,hg,hh,h1,h2,h3,h4⟩
 ·injection e with e1 e2 e3
  subst e1;subst e2;subst e3;exact .inl ⟨rfl,List.eq_nil_of_length_eq_zero hn⟩
 ·injection e with e1 e2 e3
  subst e1;subst e2;subst e3;exact .inr ⟨g,cur.toList,rfl,hg,by unfold Blk;simpa using hh,h1,h2,by simpa using h3,h4⟩
theorem Own.of_blk {T:Type} {E:El T} {w:World} {base g c:Nat} {xs:List T} {cur:List Value} (hg:base<=g) (hb:Blk w g E.t cur) (h1:xs.length<=c) (h2:c<=maxLen) (h3:cur.length=c*E.k) (h4:cur.take (xs.length*E.k)=flat E xs) :
  Own E w base ⟨some ⟨g,0,none⟩,xs.length,c⟩ xs :=
 ⟨qeo E xs,.inr ⟨g,c,cur.toArray,rfl,hg,hb,h1,h2,by simpa using h3,by simpa using h4⟩⟩
theorem Own.nil {T:Type} (E:El T) (w:World) (base:Nat):Own E w base ⟨none,0,0⟩ []:=World.ownsRow_nil w base E.t E.k
theorem Own.rd {T:Type} {E:El T} {w:World} {base:Nat} {s:Slc} {xs:List T} (h:Own E w base s xs):Rd E w s xs:=by
 rcases h.form with ⟨rfl,rfl⟩ | ⟨g,cur,hs,hg,hb,h1,h2,h3,h4⟩
 ·exact Rd.nil E w
 ·rw [hs];refine ⟨rfl,h1,h2,fun _=>rfl,fun i x hx=>?_⟩;show qaw w ((⟨g,0,none⟩:Addr).add (i*E.k)) _;refine hb.cells.sub _ fun j v hv=>?_;have:=qxj E xs i x j v hx hv;rw [<-h4] at this;rw [List.getElem?_take] at this;split at this
  ·exact this
  ·cases this
theorem Own.base {T:Type} {E:El T} {w:World} {base base':Nat} {s:Slc} {xs:List T} (h:Own E w base s xs) (hb:base'<=base):Own E w base' s xs:=by
 obtain ⟨h0,h⟩:=h;refine ⟨h0,?_⟩;rcases h with h | ⟨g,cap,cur,e,hg,r⟩
 ·exact .inl h
 ·exact .inr ⟨g,cap,cur,e,by omega,r⟩
theorem Own.lt {T:Type} {E:El T} {w:World} {base:Nat} {s:Slc} {xs:List T} (h:Own E w base s xs):∀k,s.blk=some k->base<=k/\k<w.heap.size:=by
 rw [<-qn3];exact World.ownsRow.lt h
theorem Own.ext {T:Type} {E:El T} {w w':World} {base:Nat} {s:Slc} {xs:List T} (h:Own E w base s xs) (hb:Below w.heap.size w w'):Own E w' base s xs:=by
 obtain ⟨h0,h1⟩:=h;refine ⟨h0,?_⟩;rcases h1 with h1 | ⟨g,cap,cur,e,hg,hh,r⟩
 ·exact .inl h1
 ·refine .inr ⟨g,cap,cur,e,hg,?_,r⟩;have:g<w.heap.size:=by
   rcases Nat.lt_or_ge g w.heap.size with h' | h'
   ·exact h'
   ·rw [Array.getElem?_eq_none h'] at hh;cases hh
  rw [hb.block g this];exact hh
theorem Own.drew {T:Type} {E:El T} {w:World} {base:Nat} {s:Slc} {xs:List T} (h:Own E w base s xs):Own E w.drew base s xs:=h
structure SlT (P:Program) {T:Type} (E:El T) (st:TypeId) where
 ht:P.underlying st=some (.slice E.t)
 i:TypeInfo
 hi:P.info? E.t=some i
 z:Value
 hz:i.zero=some z
 hs:i.size=E.k
 hzs:z.cells.size=E.k
theorem q08 {P:Program} {T:Type} {E:El T} {st:TypeId} (TT:SlT P E st) (ty:TypeId) {w:World} {base:Nat} {s:Slc} {xs:List T} (hown:Own E w base s xs) (c:Nat) :
  (append_ #[st,st] ty #[s.v,.slice none 0 c]).run P w=.ok s.v w:=by
 rcases hown.form with ⟨rfl,rfl⟩ | ⟨g,cur,hs,hg,hb,h1,h2,h3,h4⟩
 ·simp [Slc.v,append_,run_underlying TT.ht,sizeOf,typeInfo,TT.hi,Builtin.lenOf,Builtin.firstCells]
 ·rw [hs];simp [Slc.v,append_,run_underlying TT.ht,sizeOf,typeInfo,TT.hi,Builtin.lenOf,Builtin.firstCells,h1,storeCells]
theorem qkd {P:Program} {T:Type} {E:El T} {st:TypeId} (TT:SlT P E st) {ty:TypeId} {w:World} {base:Nat} {s x:Slc} {xs ys:List T} {K:Slc->World->Prop} (hown:Own E w base s xs) (hx:Rd E w x ys)
  (hb:base<=w.heap.size) (hl:(xs.length+ys.length)*TT.i.bytes<=140737488355328) (hm:xs.length+ys.length<=maxLen)
  (hK:∀r w',Own E w' base r (xs++ys)->w.grownBy w' s.blk->(r.blk=s.blk\/r.blk=some w.heap.size)->K r w'):apK P #[st,st] ty s x w K:=by
 cases ha:x.a with
 | none =>
  have hy:=hx.none_nil ha;subst hy;have hn:x.n=0:=by simpa using hx.n
  refine ⟨s,w,?_,hK s w (by simpa using hown) (World.grownBy.refl w _) (.inl rfl)⟩;rw [ha,hn];exact q08 TT ty hown x.c
 | some a =>
  have hcells:∀(j:Nat) (u:Value),(flat E ys)[j]?=some u->w.cell? (a.add j)=some u:=by
   intro j u hu;have hj:j<ys.length*E.k:=by rw [<-qeo];exact (List.getElem?_eq_some_iff.1 hu).1
   have hk:=E.pos;have hq:j/E.k<ys.length:=(Nat.div_lt_iff_lt_mul hk).2 hj;have hr:j%E.k<E.k:=Nat.mod_lt _ hk;have hxi:ys[j/E.k]?=some ys[j/E.k]:=by simp [hq]
   have hv:(E.cells ys[j/E.k])[j%E.k]?=some ((E.cells ys[j/E.k])[j%E.k]'(by rw [E.len];exact hr)):=List.getElem?_eq_getElem _;have e:j/E.k*E.k+j%E.k=j:=by rw [Nat.mul_comm];exact Nat.div_add_mod j E.k
   have h1:=qxj E ys _ _ _ _ hxi hv;rw [e,hu] at h1;have h2:=hx.at_ _ _ hxi _ _ hv;rw [<-Option.some.inj h1] at h2;simp only [Slc.at_,ha,getD_some] at h2
   rwa [qsk,e] at h2
  obtain ⟨v',w',hrun,h2,h3,_,h5⟩:=run_append_own_at (P:=P) w base st ty E.t TT.i TT.z E.k TT.i.bytes TT.ht TT.hi TT.hz TT.hs rfl TT.hzs E.pos s.v xs.length (flat E xs) hown a ys.length x.c (flat E ys) (qeo E ys) hcells (zin E ys) hm hl hb;have hv':∃r:Slc,v'=r.v:=by
   rcases h2.2 with ⟨e,_⟩ | ⟨g,cap,cur,e,_⟩
   ·exact ⟨⟨none,0,0⟩,e⟩
   ·exact ⟨⟨_,_,_⟩,e⟩
  obtain ⟨r,rfl⟩:=hv';refine ⟨r,w',?_,hK r w' ?_ (by rw [<-qn3];exact h3) ?_⟩
  ·rw [ha,hx.n];exact hrun
  ·unfold Own;rw [List.length_append,q2w];exact h2
  ·rw [qn3,qn3] at h5;exact h5
theorem qlk:∀(us vs:List Value) (i:Nat),(putL vs i us).length=vs.length:=by
 intro us
 induction us with
 | nil=>intro vs i;rfl
 | cons u r ih=>intro vs i;rw [putL,ih];simp
theorem qmc:∀(us vs:List Value) (i m:Nat),i+us.length<=vs.length->(putL vs i us)[m]?=if i<=m/\m<i+us.length then us[m-i]? else vs[m]?:=by
 intro us
 induction us with
 | nil=>intro vs i m _;simp only [putL,List.length_nil,Nat.add_zero];rw [if_neg (by omega)]
 | cons u r ih =>
  intro vs i m hl;simp only [List.length_cons] at hl;rw [putL,ih (vs.set i u) (i+1) m (by simp;omega)];by_cases h1:i+1<=m/\m<i+1+r.length
  ·rw [if_pos h1,if_pos (by simp;omega)];have:m-i=(m-(i+1))+1:=by omega
   rw [this,List.getElem?_cons_succ]
  ·rw [if_neg h1];by_cases h2:m=i
   ·subst h2;rw [if_pos (by simp),List.getElem?_set_self (by omega),Nat.sub_self,List.getElem?_cons_zero]
   ·rw [List.getElem?_set_ne (Ne.symm h2),if_neg (by simp;omega)]
theorem zia {T:Type} {E:El T} {xs:List T} {i:Nat} {x y:T} (hx:xs[i]?=some x) {j:Nat} {us cur:List Value} (hj:j+us.length<=E.k) (hy:E.cells y=putL (E.cells x) j us)
  (hc:cur.take (xs.length*E.k)=flat E xs) (hl:xs.length*E.k<=cur.length):(putL cur (i*E.k+j) us).take (xs.length*E.k)=flat E (xs.set i y):=by
 have hi:i<xs.length:=(List.getElem?_eq_some_iff.1 hx).1;have hik:i*E.k+E.k<=xs.length*E.k:=by
  have:=Nat.mul_le_mul_right E.k (show i+1<=xs.length from hi);rw [add_mul,Nat.one_mul] at this;exact this
 refine List.ext_getElem? fun m=>?_;by_cases hm:m<xs.length*E.k
 ·rw [List.getElem?_take_of_lt hm,qmc us cur _ _ (by omega)];have hq:m/E.k<xs.length:=(Nat.div_lt_iff_lt_mul E.pos).2 hm;have hr:m%E.k<E.k:=Nat.mod_lt _ E.pos;have e:m/E.k*E.k+m%E.k=m:=by rw [Nat.mul_comm];exact Nat.div_add_mod m E.k
  have hcur:cur[m]?=(flat E xs)[m]?:=by rw [<-hc,List.getElem?_take_of_lt hm]
  have key:∀(zs:List T) (z:T),zs[m/E.k]?=some z->(flat E zs)[m]?=(E.cells z)[m%E.k]?:=by
   intro zs z hz;have hv:(E.cells z)[m%E.k]?=some ((E.cells z)[m%E.k]'(by rw [E.len];exact hr)):=List.getElem?_eq_getElem _;have:=qxj E zs _ _ _ _ hz hv;rw [e] at this;rw [this,hv]
  by_cases hqi:m/E.k=i
  ·have hy':(xs.set i y)[m/E.k]?=some y:=by rw [hqi,List.getElem?_set_self hi]
   rw [key _ _ hy',hy,qmc us (E.cells x) j _ (by rw [E.len];exact hj)];have hx':xs[m/E.k]?=some x:=by rw [hqi];exact hx
   rw [hcur,key _ _ hx'];have e2:m=i*E.k+m%E.k:=by rw [<-hqi];exact e.symm
   generalize m%E.k=r at *;subst e2;by_cases hcase:j<=r/\r<j+us.length
   ·rw [if_pos (by omega),if_pos hcase];congr 1;omega
   ·rw [if_neg (by omega),if_neg hcase]
  ·have hne:(xs.set i y)[m/E.k]?=xs[m/E.k]?:=List.getElem?_set_ne (Ne.symm hqi);have hx':xs[m/E.k]?=some xs[m/E.k]:=by simp [hq]
   rw [key _ _ (hne.trans hx'),hcur,key _ _ hx',if_neg];rintro ⟨h1,h2⟩;refine hqi (Nat.le_antisymm ?_ ?_)
   ·refine Nat.le_of_lt_succ ((Nat.div_lt_iff_lt_mul E.pos).2 ?_);rw [Nat.succ_mul];omega
   ·exact (Nat.le_div_iff_mul_le E.pos).2 (by omega)
 ·rw [List.getElem?_eq_none (by simp;omega),List.getElem?_eq_none (by rw [qeo];simp;omega)]
theorem Own.st {T:Type} {E:El T} {w:World} {base:Nat} {s:Slc} {xs:List T} (h:Own E w base s xs) {i:Nat} {x y:T} (hx:xs[i]?=some x) {j:Nat} {us:List Value} (hj:j+us.length<=E.k)
  (hy:E.cells y=putL (E.cells x) j us) {K:World->Prop} (hK:∀w',Own E w' base s (xs.set i y)->w.grownBy w' s.blk->w'.heap.size=w.heap.size->K w'):stK ((s.at_ E.k i).add j) us w K:=by
 rcases h.form with ⟨rfl,rfl⟩ | ⟨g,cur,hs,hg,hb,h1,h2,h3,h4⟩
 ·simp at hx
 ·have hi:i<xs.length:=(List.getElem?_eq_some_iff.1 hx).1;have hik:i*E.k+E.k<=xs.length*E.k:=by
   have:=Nat.mul_le_mul_right E.k (show i+1<=xs.length from hi);rw [add_mul,Nat.one_mul] at this;exact this
  have hcap:xs.length*E.k<=s.c*E.k:=Nat.mul_le_mul_right _ h1;have ha:(s.at_ E.k i).add j=⟨g,i*E.k+j,none⟩:=by
   rw [hs];show ((⟨g,0,none⟩:Addr).add (i*E.k)).add j=_;rw [qsk,qas,Nat.zero_add]
  rw [ha];refine qaj hb (by omega) fun w' hb' hg' hsz=>hK w' ?_ ?_ hsz
  ·have:=Own.of_blk (E:=E) (xs:=xs.set i y) (c:=s.c) hg hb' (by simpa using h1) h2 (by rw [qlk];exact h3) (by rw [List.length_set];exact zia hx hj hy h4 (by omega));rw [hs];simpa using this
  ·rw [hs];exact hg'
theorem Own.st0 {T:Type} {E:El T} {w:World} {base:Nat} {s:Slc} {xs:List T} (h:Own E w base s xs) {i:Nat} {x y:T} (hx:xs[i]?=some x) {us:List Value} (hy:E.cells y=us)
  {K:World->Prop} (hK:∀w',Own E w' base s (xs.set i y)->w.grownBy w' s.blk->w'.heap.size=w.heap.size->K w'):stK (s.at_ E.k i) us w K:=by
 have hl:us.length=E.k:=by rw [<-hy,E.len]
 have hy':E.cells y=putL (E.cells x) 0 us:=by
  refine List.ext_getElem? fun m=>?_;rw [qmc us _ 0 m (by rw [E.len];omega),hy];by_cases hm:m<us.length
  ·rw [if_pos (by omega)];rfl
  ·rw [if_neg (by omega),List.getElem?_eq_none (by omega),List.getElem?_eq_none (by rw [E.len];omega)]
 have:=h.st hx (j:=0) (by omega) hy' hK
 rwa [add_zero] at this
theorem qwx {T:Type} {E:El T} {w:World} {g:Nat} {y:T} {vs:List Value} (hb:Blk w g E.t vs) (hy:E.cells y=vs):Rd E w ⟨some ⟨g,0,none⟩,1,1⟩ [y]:=by
 refine ⟨rfl,le_refl _,by simp [maxLen],fun _=>rfl,fun i x hx=>?_⟩;cases i with
 | zero =>
  simp only [List.getElem?_cons_zero,Option.some.injEq] at hx;subst hx;show qaw w ((⟨g,0,none⟩:Addr).add (0*E.k)) _;rw [Nat.zero_mul,add_zero,hy];exact hb.cells
 | succ i=>simp at hx
theorem qjx {T:Type} {E:El T} {w:World} {g base:Nat} (hb:Blk w g E.t []) (hg:base<=g):Own E w base ⟨some ⟨g,0,none⟩,0,0⟩ [] :=
 Own.of_blk (E:=E) (xs:=[]) (c:=0) hg hb (le_refl _) (by simp [maxLen]) (by simp) (by simp [flat])
theorem lI {k:IntKind} {a:Addr} {w:World} {K:Int->Prop} {x:Int} (h:w.cell? a=some (.int k x)) (hK:K x):ldI k a w K:=⟨x,h,hK⟩
theorem qc5 {a:Addr} {w:World} {K:Bool->Prop} {x:Bool} (h:w.cell? a=some (.bool x)) (hK:K x):ldB a w K:=⟨x,h,hK⟩
theorem ql0 {a:Addr} {w:World} {K:ByteArray->Prop} {x:ByteArray} (h:w.cell? a=some (.string x)) (hK:K x):ldStr a w K:=⟨x,h,hK⟩
theorem qa8 {a:Addr} {w:World} {K:Option Addr->Prop} {x:Option Addr} (h:w.cell? a=some (.pointer x)) (hK:K x):ldP a w K:=⟨x,h,hK⟩
theorem lSl {a:Addr} {w:World} {K:Slc->Prop} {x:Slc} (h:w.cell? a=some (.slice x.a x.n x.c)) (hK:K x):ldSl a w K:=⟨x,h,hK⟩
theorem qgf {a:Addr} {w:World} {K:Option Nat->Prop} {x:Option Nat} (h:w.cell? a=some (.map x)) (hK:K x):ldM a w K:=⟨x,h,hK⟩
theorem qal {r:Rep} {a:Addr} {w:World} {K:r.T->Prop} {x:r.T} (h:qaw w a (r.cells x)) (hK:K x):ldS r a w K:=⟨x,h,hK⟩
theorem qcu {t:TypeId} {zs vs:List Value} {w:World} {K:Addr->World->Prop} (hl:zs.length=vs.length)
  (hK:∀w',Blk w' w.heap.size t vs->Below w.heap.size w w'->w'.heap.size=w.heap.size+1->K ⟨w.heap.size,0,none⟩ w'):nw t zs w fun c w3=>stK c vs w3 fun w4=>K c w4:=by
 refine nwb fun w1 hb1 hB1 hs1=>?_;refine qaj hb1 (by omega) fun w2 hb2 hg2 hs2=>hK w2 ?_ ?_ (by omega)
 ·have e:putL zs 0 vs=vs:=by
   refine List.ext_getElem? fun m=>?_;rw [qmc vs zs 0 m (by omega)];by_cases hm:m<vs.length
   ·rw [if_pos (by omega)];rfl
   ·rw [if_neg (by omega),List.getElem?_eq_none (by omega),List.getElem?_eq_none (by omega)]
  rw [e] at hb2;exact hb2
 ·exact hB1.grown hg2 (by omega) fun k hk=>by cases hk;exact le_refl _
def mix {α:Type} (ys xs:List α) (k:Nat):List α:=ys.take k++xs.drop k
theorem qxh {α:Type} (ys xs:List α):mix ys xs 0=xs:=by simp [mix]
theorem q1n {α:Type} {ys xs:List α} (h:ys.length=xs.length):mix ys xs xs.length=ys:=by simp [mix,<-h]
theorem qm5 {α:Type} {ys xs:List α} (h:ys.length=xs.length) (k:Nat):(mix ys xs k).length=xs.length:=by simp [mix];omega
theorem qwi {α:Type} {ys xs:List α} (h:ys.length=xs.length) {k:Nat} (hk:k<xs.length) (i:Nat):(mix ys xs k)[i]?=if i<k then ys[i]? else xs[i]?:=by
 unfold mix;have hl:(ys.take k).length=k:=by simp;omega
 by_cases hi:i<k
 ·rw [List.getElem?_append_left (by omega),List.getElem?_take_of_lt hi,if_pos hi]
 ·rw [List.getElem?_append_right (by omega),hl,List.getElem?_drop,if_neg hi];congr 1;omega
theorem q1r {α:Type} {ys xs:List α} (h:ys.length=xs.length) {k:Nat} (hk:k<xs.length) {y:α} (hy:ys[k]?=some y):(mix ys xs k).set k y=mix ys xs (k+1):=by
 unfold mix;have hl:(ys.take k).length=k:=by simp;omega
 have hy':ys[k]'(by omega)=y:=by
  rw [List.getElem?_eq_getElem (by omega)] at hy;exact Option.some.inj hy
 rw [List.set_append_right _ _ (by omega),hl,Nat.sub_self,List.drop_eq_getElem_cons hk,List.set_cons_zero,List.take_succ_eq_append_getElem (by omega),hy'];simp
structure Chg (S:Nat->Prop) (w w':World):Prop where
 os:w'.os=w.os
 tape:w'.tape=w.tape
 output:w'.output=w.output
 size:w.heap.size<=w'.heap.size
 block:∀k,k<w.heap.size->¬S k->w'.heap[k]?=w.heap[k]?
theorem Chg.refl (S:Nat->Prop) (w:World):Chg S w w:=⟨rfl,rfl,rfl,le_refl _,fun _ _ _=>rfl⟩
theorem Chg.trans {S S':Nat->Prop} {a b c:World} (h:Chg S a b) (k:Chg S' b c) (hs:∀i,i<a.heap.size->S' i->S i):Chg S a c :=
 ⟨k.os.trans h.os,k.tape.trans h.tape,k.output.trans h.output,Nat.le_trans h.size k.size,fun i hi hn=>(k.block i (Nat.lt_of_lt_of_le hi h.size) (fun e=>hn (hs i hi e))).trans (h.block i hi hn)⟩
theorem Chg.mono {S S':Nat->Prop} {a b:World} (h:Chg S a b) (hs:∀i,i<a.heap.size->S i->S' i):Chg S' a b :=
 ⟨h.os,h.tape,h.output,h.size,fun i hi hn=>h.block i hi fun e=>hn (hs i hi e)⟩
theorem Chg.below {S:Nat->Prop} {B:Nat} {a b:World} (h:Chg S a b) (hB:B<=a.heap.size) (hs:∀i,i<B->¬S i):Below B a b :=
 ⟨h.os,h.tape,h.output,h.size,fun k hk=>h.block k (by omega) (hs k hk)⟩
theorem Chg.of_below {B:Nat} {a b:World} (h:Below B a b):Chg (fun k=>B<=k) a b:=⟨h.os,h.tape,h.output,h.size,fun k _ hn=>h.block k (by omega)⟩
theorem Chg.of_ext {S:Nat->Prop} {a b:World} (h:Below a.heap.size a b):Chg S a b:=⟨h.os,h.tape,h.output,h.size,fun k hk _=>h.block k hk⟩
theorem Chg.of_grown {S:Nat->Prop} {a b:World} {row:Option Nat} (h:a.grownBy b row) (hs:∀k,row=some k->S k):Chg S a b :=
 ⟨h.os,h.tape,h.output,h.size,fun k hk hn=>h.block k hk fun e=>hn (hs k e.symm)⟩
theorem Chg.ext {a b:World} {S:Nat->Prop} (h:Chg S a b) (hs:∀i,i<a.heap.size->¬S i):Below a.heap.size a b:=⟨h.os,h.tape,h.output,h.size,fun k hk=>h.block k hk (hs k hk)⟩
theorem Blk.chg {S:Nat->Prop} {w w':World} {g:Nat} {t:TypeId} {vs:List Value} (h:Blk w g t vs) (hc:Chg S w w') (hg:¬S g):Blk w' g t vs:=(hc.block g h.lt hg).trans h
theorem Own.chg {T:Type} {E:El T} {S:Nat->Prop} {w w':World} {base:Nat} {s:Slc} {xs:List T} (h:Own E w base s xs) (hc:Chg S w w') (hg:∀g,s.blk=some g->¬S g):Own E w' base s xs:=by
 rcases h.form with ⟨rfl,rfl⟩ | ⟨g,cur,hs,hb,hblk,h1,h2,h3,h4⟩
 ·exact Own.nil _ _ _
 ·rw [hs];exact Own.of_blk hb (hblk.chg hc (hg g (by rw [hs];rfl))) h1 h2 h3 h4
theorem Rd.chg {T:Type} {E:El T} {S:Nat->Prop} {w w':World} {s:Slc} {xs:List T} (h:Rd E w s xs) (hc:Chg S w w') (hg:∀a,s.a=some a->¬S a.block):Rd E w' s xs:=by
 refine ⟨h.n,h.nc,h.cm,h.some_,fun i x hx=>?_⟩;have hi:i<xs.length:=(List.getElem?_eq_some_iff.1 hx).1;obtain ⟨a,ha⟩:=isSome_iff_exists.1 (h.some_ (by omega));have hcell:=h.at_ i x hx;intro j v hv;have hc1:=hcell j v hv;have hlt:=World.block_lt_of_cell? w _ hc1;rw [World.cell?_of_block (w:=w) (hc.block _ hlt (by simpa [Slc.at_,ha] using hg a ha))];exact hc1
theorem Own.blk_t {T:Type} {E:El T} {w:World} {base:Nat} {s:Slc} {xs:List T} (h:Own E w base s xs) {g:Nat} (hg:s.blk=some g):∃cs,Blk w g E.t cs:=by
 rcases h.form with ⟨rfl,rfl⟩ | ⟨g',cur,hs,hb,hblk,h1,h2,h3,h4⟩
 ·cases hg
 ·rw [hs] at hg;cases hg;exact ⟨_,hblk⟩
theorem Blk.ne_t {w:World} {g g':Nat} {t t':TypeId} {cs cs':List Value} (h:Blk w g t cs) (h':Blk w g' t' cs') (hne:t≠t'):g≠g':=by
 rintro rfl;unfold Blk at h h';rw [h] at h';injection h' with h'
 injection h' with _ ht
 exact hne ht
def u8 (x:Int):UInt8:=UInt8.ofNat x.toNat
theorem q8n {x:Int} (h0:0<=x) (h1:x<256):((u8 x).toNat:Int)=x:=by
 unfold u8;rw [UInt8.toNat_ofNat'];omega
theorem zh5 (x:Int):IntKind.u8.wrap x=((u8 (x%256)).toNat:Int):=by
 rw [q8n (by omega) (by omega),IntKind.wrap_u8]
theorem w64i {x:Int} (h:-9223372036854775808<=x/\x<=9223372036854775807):i64.wrap x=x:=by
 have:=IntWalk.i64_in x h;exact this
theorem ql5 {y d:Nat} {K:Nat->Prop} (h:K d):bnd none y d K:=h
theorem qhp {i:Int} {y d:Nat} {K:Nat->Prop} (h0:0<=i) (h1:i<=y) (h:K i.toNat):bnd (some i) y d K:=⟨⟨h0,h1⟩,h⟩
theorem Rd.part {T:Type} {E:El T} {w:World} {s:Slc} {xs:List T} (h:Rd E w s xs) {l m:Nat} (hl:l<=m) (hm:m<=xs.length) :
  Rd E w ⟨cut s.a l s.c E.k,m-l,s.c-l⟩ ((xs.take m).drop l):=by
 have hn:=h.n;have hnc:=h.nc;have hcm:=h.cm;have hlen:((xs.take m).drop l).length=m-l:=by simp;omega
 refine ⟨hlen.symm,by show m-l<=s.c-l;omega,by show s.c-l<=maxLen;omega,fun hp=>?_,fun i x hx=>?_⟩
 ·rw [hlen] at hp;obtain ⟨a,ha⟩:=isSome_iff_exists.1 (h.some_ (by omega));show (cut s.a l s.c E.k).isSome=true;unfold cut;rw [ha];split<;>rfl
 ·have hi:i<m-l:=by rw [<-hlen];exact (List.getElem?_eq_some_iff.1 hx).1
  rw [List.getElem?_drop,List.getElem?_take_of_lt (by omega)] at hx;have hc:=h.at_ _ _ hx;obtain ⟨a,ha⟩:=isSome_iff_exists.1 (h.some_ (by omega));have e:(⟨cut s.a l s.c E.k,m-l,s.c-l⟩:Slc).at_ E.k i=s.at_ E.k (l+i):=by
   unfold Slc.at_ cut;rw [ha,if_neg (by omega)];simp only [Option.map_some,getD_some];rw [qsk,add_mul]
  rw [e];exact hc
theorem Rd.slK {T:Type} {E:El T} {w:World} {s:Slc} {xs:List T} (h:Rd E w s xs) {lo hi:Option Int} {k:Nat} (hk:k=E.k) {l m:Nat} {K:Slc->Prop} (hlo:lo=none/\l=0\/lo=some (l:Int)) (hhi:hi=none/\m=xs.length\/hi=some (m:Int))
  (hl:l<=m) (hm:m<=xs.length) (hK:Rd E w ⟨cut s.a l s.c E.k,m-l,s.c-l⟩ ((xs.take m).drop l)->K ⟨cut s.a l s.c E.k,m-l,s.c-l⟩):slK s lo hi k K:=by
 subst hk;have hn:=h.n;have hnc:=h.nc;have key:K ⟨cut s.a l s.c E.k,m-l,s.c-l⟩:=hK (h.part hl hm);unfold Vc.slK;have inner:bnd lo m 0 fun l'=>K ⟨cut s.a l' s.c E.k,m-l',s.c-l'⟩:=by
  rcases hlo with ⟨rfl,rfl⟩ | rfl
  ·exact ql5 key
  ·exact qhp (by omega) (by omega) (by simpa using key)
 rcases hhi with ⟨rfl,rfl⟩ | rfl
 ·refine ql5 ?_;rw [hn];exact inner
 ·exact qhp (by omega) (by omega) (by simpa using inner)
theorem q36 {P:Program} {T:Type} {E:El T} {st it:TypeId} {kk:IntKind} (TT:SlT P E st) (ty:TypeId) (hit:P.underlying it=some (.int kk)) (w:World) (n:Nat) (h0:0<n) (h63:n<=maxLen) (h48:n*TT.i.bytes<=140737488355328) :
  (append_ #[st,it] ty #[.slice none 0 0,.int .i64 n]).run P w =
   .ok (.slice (some ⟨w.heap.size,0,none⟩) n (grownCap w n 0 E.t)) (w.drew.alloc (.cells (Builtin.zeroCells TT.z.cells n++Builtin.zeroCells TT.z.cells (grownCap w n 0 E.t-n)) E.t)):=by
 have hn:n≠0:=by omega
 have hw:i64.wrap (n:Int)=n:=w64i (by simp only [maxLen] at h63;omega);have hb:¬(281474976710656<(n:Int)*(TT.i.bytes:Int)):=by
  rw [show (n:Int)*(TT.i.bytes:Int)=((n*TT.i.bytes:Nat):Int) by simp];omega
 have h63':¬(9223372036854775807<(n:Int)):=by simp only [maxLen] at h63;omega
 have h48':¬(281474976710656<Builtin.nextslicecap n 0*TT.i.bytes):=by rw [nextslicecap_zero h0];omega
 have hk:=E.pos;have hs:¬(TT.i.size=0):=by rw [TT.hs];omega
 have hneg:¬((n:Int)<0):=by omega
 have hai:(asIntOf (.int .i64 (n:Int))).run P w=.ok (.i64,(n:Int)) w:=rfl;simp [append_,run_underlying TT.ht,run_underlying hit,sizeOf,typeInfo,zeroValue,TT.hi,TT.hz,asInt,hai,hw,hb,hn,h63',h48',hneg,Question.forced,run_firstCells_none,newRow,grownCap];intro e;have:0<n*TT.i.size:=Nat.mul_pos h0 (by omega);omega
theorem zjf {P:Program} {T:Type} {E:El T} {st it:TypeId} {kk:IntKind} (TT:SlT P E st) {ty:TypeId} (hit:P.underlying it=some (.int kk)) {w:World} {n:Nat} {m:Int} {K:Slc->World->Prop} (hm:m=n) (h0:0<n) (h63:n<=maxLen) (h48:n*TT.i.bytes<=140737488355328)
  (hK:∀cap w',n<=cap->cap<=maxLen->Own E w' w.heap.size ⟨some ⟨w.heap.size,0,none⟩,0,cap⟩ []->Below w.heap.size w w'->K ⟨some ⟨w.heap.size,0,none⟩,n,cap⟩ w'):apM P #[st,it] ty ⟨none,0,0⟩ m .i64 w K:=by
 subst hm;refine ⟨⟨some ⟨w.heap.size,0,none⟩,n,grownCap w n 0 E.t⟩,_,q36 TT ty hit w n h0 h63 h48,hK _ _ (grownCap_ge w n 0 E.t) (grownCap_le_maxLen w n 0 E.t h63) ?_ ?_⟩
 ·have hge:=grownCap_ge w n 0 E.t;generalize hA:Builtin.zeroCells TT.z.cells n++Builtin.zeroCells TT.z.cells (grownCap w n 0 E.t-n)=A;have hsz:A.size=grownCap w n 0 E.t*E.k:=by
   rw [<-hA];simp only [Array.size_append,size_zeroCells,TT.hzs,<-add_mul];congr 1;omega
  refine Own.of_blk (E:=E) (xs:=[]) (cur:=A.toList) (le_refl _) ?_ (Nat.zero_le _) (grownCap_le_maxLen w n 0 E.t h63) ?_ (by simp [flat])
  ·have:=Blk.new w.drew E.t A.toList
   rwa [Array.toArray_toList] at this
  ·rw [Array.length_toList];exact hsz
 ·exact (Below.refl _ w).drew.alloc (le_refl _) _
end Go.Vc
namespace Go.Vc
open Go.ChangeShapes Go.WideShapes Go.ChangeAt Go.RowKit Go.Deep
inductive Leaf where
 | int (k:IntKind)
 | bool
 | str
def Leaf.ok:Leaf->Value->Prop
 | .int k,v=>∃z,v=.int k z/\(Lit.int k z).wf=true
 | .bool,v=>∃b,v=.bool b
 | .str,v=>∃s,v=.string s
def goF (P:Program) (g:TypeId->Option (List Leaf)):List Field->Nat->Option (List Leaf)
 | [],_=>some []
 | f::r,off =>
  match g f.type with
  | some ls=>if f.offset=off/\P.cellsOf f.type=ls.length then (goF P g r (off+ls.length)).map (ls++·) else none
  | none=>none
def qmg (P:Program):Nat->TypeId->Option (List Leaf)
 | 0,_=>none
 | n+1,t =>
  match P.underlying t with
  | some (.int k)=>some [.int k]
  | some .bool=>some [.bool]
  | some .string=>some [.str]
  | some (.struct fs)=>goF P (qmg P n) fs.toList 0
  | _=>none
def qkg (ls:List Leaf) (cs:List Value):Prop:=∀(j:Nat) l,ls[j]?=some l->∃v,cs[j]?=some v/\l.ok v
theorem q8d {P:Program} {g:TypeId->Option (List Leaf)} {cs:List Value}:∀(fs:List Field) (off:Nat) (ls:List Leaf),goF P g fs off=some ls ->
  (∀f∈fs,∀lf,g f.type=some lf->P.cellsOf f.type=lf.length->qkg lf ((cs.drop f.offset).take (P.cellsOf f.type)))->∀(j:Nat) l,ls[j]?=some l->∃v,cs[off+j]?=some v/\l.ok v
 | [],_,ls,h,_,j,l,hl=>by
  simp only [goF,Option.some.injEq] at h;subst h;simp at hl
 | f::r,off,ls,h,hf,j,l,hl=>by
  unfold goF at h;split at h
  ·rename_i lf hg;split at h
   ·rename_i hc;obtain ⟨rest,hr,e⟩:=Option.map_eq_some_iff.1 h;subst e;rcases Nat.lt_or_ge j lf.length with hj | hj
    ·rw [List.getElem?_append_left hj] at hl;obtain ⟨v,hv,ok⟩:=hf f (by simp) lf hg hc.2 j l hl;rw [hc.2,List.getElem?_take_of_lt hj,List.getElem?_drop,hc.1] at hv;exact ⟨v,hv,ok⟩
    ·rw [List.getElem?_append_right hj] at hl;obtain ⟨v,hv,ok⟩:=q8d r (off+lf.length) rest hr (fun f' hf'=>hf f' (by simp [hf'])) _ l hl;exact ⟨v,by rw [<-hv];congr 1;omega,ok⟩
   ·cases h
  ·cases h
section
variable {H:Type} {enc:TypeId×Value->H} {P:Program} {w:World} {base:Nat} {spare:Nat->Bool} {held:Bool}
theorem q0o:∀(n:Nat) {t:TypeId} {ls:List Leaf} {fuel:Nat} {cs:List Value} {x:DataW H×List MemPlace},qmg P n t=some ls->DataW.trod enc P w base spare held fuel t cs=some x->qkg ls cs
 | 0,_,_,_,_,_,h,_=>by cases h
 | n+1,t,ls,fuel,cs,x,h,ht=>by
  unfold qmg at h;split at h
  ·next k hu =>
   cases h;obtain ⟨z,rfl,_,hw⟩:=DataW.trod_int hu ht;intro j l hl
   match j,hl with
   | 0,hl=>cases hl;exact ⟨_,rfl,z,rfl,hw⟩
   | j+1,hl=>cases hl
  ·next hu =>
   cases h;obtain ⟨z,rfl,_⟩:=DataW.trod_bool hu ht;intro j l hl
   match j,hl with
   | 0,hl=>cases hl;exact ⟨_,rfl,z,rfl⟩
   | j+1,hl=>cases hl
  ·next hu =>
   cases h;obtain ⟨z,rfl,_⟩:=DataW.trod_string hu ht;intro j l hl
   match j,hl with
   | 0,hl=>cases hl;exact ⟨_,rfl,z,rfl⟩
   | j+1,hl=>cases hl
  ·next fs hu =>
   obtain ⟨xs,m,_,_,_,hxl,hf⟩:=DataW.trod_struct hu ht;intro j l hl;have:=q8d (cs:=cs) fs.toList 0 ls h (fun f hfm lf hg _=>by
    obtain ⟨i,hi⟩:=List.getElem?_of_mem hfm;rw [Array.getElem?_toList] at hi;have h1:=hf i f hi;have hil:i<xs.length:=by rw [hxl];exact (Array.getElem?_eq_some_iff.1 hi).1
    rw [List.getElem?_eq_getElem hil] at h1;exact q0o n hg h1) j l hl
   simpa using this
  ·cases h
theorem q17 {T:Type} {Q:Nat->T->Prop}:∀n:Nat,(∀i,i<n->∃x,Q i x)->∃xs:List T,xs.length=n/\∀(i:Nat) x,xs[i]?=some x->Q i x
 | 0,_=>⟨[],rfl,fun i x h=>by simp at h⟩
 | n+1,h=>by
  obtain ⟨xs,hl,hx⟩:=q17 n fun i hi=>h i (by omega);obtain ⟨y,hy⟩:=h n (by omega);refine ⟨xs++[y],by simp [hl],fun i x hi=>?_⟩;rcases Nat.lt_or_ge i n with h' | h'
  ·rw [List.getElem?_append_left (by omega)] at hi;exact hx i x hi
  ·rw [List.getElem?_append_right (by omega),hl] at hi;have:i-n=0:=by
    rcases Nat.eq_zero_or_pos (i-n) with e | e
    ·exact e
    ·rw [List.getElem?_eq_none (by simp;omega)] at hi;cases hi
   rw [this] at hi;cases hi;have:i=n:=by omega
   subst this;exact hy
theorem q4f {T:Type} (E:El T) (Q:T->Prop) {r:Reach} {b0 n:Nat} {t e:TypeId} {ls:List Leaf} {v:Value} {d:DataW H} {p:List MemPlace} (ht:P.underlying t=some (.slice e)) (hC:P.cellsOf e=E.k) (hls:qmg P n e=some ls)
  (mk:∀vs:List Value,vs.length=E.k->qkg ls vs->∃x:T,E.cells x=vs/\Q x) (hv:Value.okWide P w r b0 t v) (h:DataW.Trod enc P w base (fun _=>true) held t v d p):∃(s:Slc) (xs:List T),v=.slice s.a s.n s.c/\Rd E w s xs/\∀x∈xs,Q x:=by
 obtain ⟨a0,n0,c0,rfl⟩:=okWide_slice ht hv;obtain ⟨fuel,hf⟩:=h;rcases open_slice ht hf with ⟨hcs,_⟩ | ⟨a,len,cap,m,n',D,Pl,hcs,hb,hl,hm,hmm,hx,hi⟩
 ·simp [Value.cells] at hcs;obtain ⟨rfl,rfl,rfl⟩:=hcs;exact ⟨⟨none,0,0⟩,[],rfl,Rd.nil E w,fun x hx=>by cases hx⟩
 ·simp [Value.cells] at hcs;obtain ⟨rfl,rfl,rfl⟩:=hcs;rw [if_pos rfl] at hmm;have:∀i,i<n0->∃x:T,qaw w (a.add (i*E.k)) (E.cells x)/\Q x:=by
   intro i hil;obtain ⟨cs',hc,ht'⟩:=hi i (by omega);rw [hC] at hc;obtain ⟨_,hcl,hat⟩:=World.cells?_some hc;obtain ⟨x,hx,hq⟩:=mk cs' hcl (q0o n hls ht');refine ⟨x,fun j u hu=>?_,hq⟩;rw [hx] at hu;have hj:j<E.k:=by rw [<-hcl];exact (List.getElem?_eq_some_iff.1 hu).1
   rw [hat j hj,hu]
  obtain ⟨xs,hxl,hxs⟩:=q17 n0 this;refine ⟨⟨some a,n0,c0⟩,xs,rfl,⟨hxl.symm,hl,hm,fun _=>rfl,fun i x hx=>(hxs i x hx).1⟩,fun x hx=>?_⟩;obtain ⟨i,hi⟩:=List.getElem?_of_mem hx;exact (hxs i x hi).2
theorem zbc {T:Type} (E:El T) (Q:T->Prop) {r:Reach} {b0 n:Nat} {t:TypeId} {fs:Array Field} {ls:List Leaf} {v:Value} {d:DataW H} {p:List MemPlace} (ht:P.underlying t=some (.struct fs)) (hC:P.cellsOf t=E.k) (hls:qmg P n t=some ls)
  (mk:∀vs:List Value,vs.length=E.k->qkg ls vs->∃x:T,E.cells x=vs/\Q x) (hv:Value.okWide P w r b0 t v) (h:DataW.Trod enc P w base spare held t v d p):∃x:T,v=.agg (E.cells x).toArray/\Q x:=by
 obtain ⟨cs,rfl,hsz⟩:=okWide_struct ht hv;obtain ⟨fuel,hf⟩:=h;obtain ⟨x,hx,hq⟩:=mk cs.toList (by simpa [hC] using hsz) (q0o n hls (by simpa [Value.cells] using hf));exact ⟨x,by rw [hx],hq⟩
end
theorem qyt {H:Type} {enc:TypeId×Value->H} {P:Program} (hl:laidOutB P=true) {W W':World} (hb:Below W.heap.size W W'):∀(ts:List TypeId) {vs:List Value} {ds:List (DataW H)} {ps:List MemPlace},
  ts.all (fun t=>P.readableRec t && decide (t<P.types.size))=true->DataW.TrodAll enc P W 0 (fun _=>true) true ts vs ds ps->(∀x∈ps,x.block<W.heap.size)->DataW.TrodAll enc P W' 0 (fun b=>decide (b<W.heap.size)) true ts vs ds ps
 | [],vs,ds,ps,_,h,_=>by
  obtain ⟨rfl,rfl,rfl⟩:=trodAll_nil h;exact trodAll_mk0
 | t::ts,vs,ds,ps,hr,h,hlt=>by
  obtain ⟨v,vs',d,ds',p,q,rfl,rfl,rfl,h0,h1⟩:=trodAll_cons h;simp only [List.all_cons,Bool.and_eq_true,decide_eq_true_eq] at hr;exact trodAll_cons_mk (Below.trod hl hr.1.1 hr.1.2 h0 hb fun x hx=>hlt x (List.mem_append.2 (.inl hx))) (qyt hl hb ts (by simpa using hr.2) h1 fun x hx=>hlt x (List.mem_append.2 (.inr hx)))
theorem zhn {H:Type} {enc:TypeId×Value->H} {P:Program} {f:Func} {s:ChangeSpec} {W W':World} {args:Array Value} {ds gs:List (DataW H)} {before:List MemPlace} {tb:TypeId} (hl:laidOutB P=true) (hrt:f.resultTypes=#[tb]) (htb:P.underlying tb=some .bool)
  (hr:f.params.toList.all (fun t=>P.readableRec t && decide (t<P.types.size))=true) (hv:s.vars=[]) (hfn:s.fn H (ds++[])={ results:=[.lit (.bool true)],args:=ds }) (hW:DataW.Whole enc P f.params.toList s.vars false W args.toList ds gs before)
  (hb:Below W.heap.size W W'):s.post enc P f false true false false W args (.bool true) W':=by
 have hW':=hW;have hlt:=hW.lt;obtain ⟨p,q,hA0,hV,rfl,hfz,hnd⟩:=hW;rw [hv] at hV;obtain ⟨rfl,rfl⟩:=trodVars_none hV;refine ⟨ds,[],p++[],[],p,[],hW',?_,?_,?_,hb.frame _,fun h=>by cases h⟩
 ·rw [hrt,hfn];exact trodAll_mk1 (shut_bool htb _)
 ·rw [hfn];exact qyt hl hb _ hr hA0 fun x hx=>hlt x (by simpa using hx)
 ·rw [hfn,hv];exact rfl
end Go.Vc
namespace Go.Vc
open Go.RowKit
open _root_.Nat (le_refl mod_lt)
theorem qcw {α:Type} {xs:List α} {k:Nat} (hk:k<xs.length):∃x,xs[k]?=some x/\∀h,xs[((k:Int)).toNat]'h=x:=⟨xs[k],List.getElem?_eq_getElem hk,fun _=>rfl⟩
theorem qgd {x:Option Addr} {l m k:Nat} {a:Addr} (h:cut x l m k=some a):∃b,x=some b/\a.block=b.block:=by
 unfold cut at h;split at h
 ·exact ⟨a,h,rfl⟩
 ·obtain ⟨b,hb,rfl⟩:=Option.map_eq_some_iff.1 h;exact ⟨b,hb,by simp⟩
theorem slk {s:Slc} {k:Nat}:s.blk=some k↔∃a,s.a=some a/\a.block=k:=by
 unfold Slc.blk;rw [Option.map_eq_some_iff]
theorem qgq {C:Cx} {g:Nat} {first cap:Array Value} {args:List Value} {ks:List Kind} {w:World} {K:Cur ks} (hp:C.plain g=true) (h:callP C.P g (first.toList++args++cap.toList) ks w K) :
  callR C (.func (.func g) first cap) args ks w K:=by
 unfold callR qwe;simp only [hp];exact h
theorem qsi {T:Type} {E:El T} {w:World} {g:Nat} {ys:List T} {vs:List Value} (hb:Blk w g E.t vs) (hm:ys.length<=maxLen) (hy:flat E ys=vs):Rd E w ⟨some ⟨g,0,none⟩,ys.length,ys.length⟩ ys :=
 (Own.of_blk (E:=E) (xs:=ys) (c:=ys.length) (base:=g) (le_refl _) hb (le_refl _) hm (by rw [<-hy,qeo]) (by rw [<-hy,List.take_of_length_le (by rw [qeo];exact le_refl _)])).rd
theorem zic {T:Type} {E:El T} {w:World} {g base:Nat} {ys:List T} {vs:List Value} (hg:base<=g) (hb:Blk w g E.t vs) (hm:ys.length<=maxLen) (hy:flat E ys=vs):Own E w base ⟨some ⟨g,0,none⟩,ys.length,ys.length⟩ ys :=
 Own.of_blk (E:=E) (xs:=ys) (c:=ys.length) (base:=base) hg hb (le_refl _) hm (by rw [<-hy,qeo]) (by rw [<-hy,List.take_of_length_le (by rw [qeo];exact le_refl _)])
theorem Chg.gg {w1 w2:World} {k:Nat} (h:w1.grownBy w2 (some k)):Chg (fun i=>i=k) w1 w2:=Chg.of_grown h fun i hi=>by cases hi;rfl
theorem Rd.slK3 {T:Type} {E:El T} {w:World} {s:Slc} {xs:List T} (h:Rd E w s xs) {lo:Option Int} {hi mx:Int} {k:Nat} (hk:k=E.k) {l m:Nat} {K:Slc->Prop} (hlo:lo=none/\l=0\/lo=some (l:Int)) (hhi:hi=(m:Int)) (hmx:mx=(m:Int))
  (hl:l<=m) (hm:m<=xs.length) (hK:Rd E w ⟨cut s.a l m E.k,m-l,m-l⟩ ((xs.take m).drop l)->K ⟨cut s.a l m E.k,m-l,m-l⟩):slK3 s lo hi mx k K:=by
 subst hk hhi hmx;have hn:=h.n;have hnc:=h.nc;have hcm:=h.cm;have hlen:((xs.take m).drop l).length=m-l:=by simp;omega
 have key:Rd E w ⟨cut s.a l m E.k,m-l,m-l⟩ ((xs.take m).drop l):=by
  refine ⟨hlen.symm,le_refl _,by show m-l<=maxLen;omega,fun hp=>?_,fun i x hx=>?_⟩
  ·rw [hlen] at hp;obtain ⟨a,ha⟩:=Option.isSome_iff_exists.1 (h.some_ (by omega));show (cut s.a l m E.k).isSome=true;unfold cut;rw [ha];split<;>rfl
  ·have hi:i<m-l:=by rw [<-hlen];exact (List.getElem?_eq_some_iff.1 hx).1
   rw [List.getElem?_drop,List.getElem?_take_of_lt (by omega)] at hx;have hc:=h.at_ _ _ hx;obtain ⟨a,ha⟩:=Option.isSome_iff_exists.1 (h.some_ (by omega));have e:(⟨cut s.a l m E.k,m-l,m-l⟩:Slc).at_ E.k i=s.at_ E.k (l+i):=by
    unfold Slc.at_ cut;rw [ha,if_neg (by omega)];simp only [Option.map_some,Option.getD_some];rw [qsk,Nat.add_mul]
   rw [e];exact hc
 unfold Vc.slK3;refine qhp (by omega) (by omega) ?_;refine qhp (by omega) (by simp) ?_;have hk':=hK key;rcases hlo with ⟨rfl,rfl⟩ | rfl
 ·exact ql5 (by simpa using hk')
 ·exact qhp (by omega) (by simp;omega) (by simpa using hk')
theorem qzr {T:Type} (E:El T) (x:T) (n m:Nat) (hm:m<n*E.k):(flat E (List.replicate n x))[m]?=(E.cells x)[m%E.k]?:=by
 have hq:m/E.k<n:=(Nat.div_lt_iff_lt_mul E.pos).2 hm;have hr:m%E.k<E.k:=mod_lt _ E.pos;have e:m/E.k*E.k+m%E.k=m:=by rw [Nat.mul_comm];exact Nat.div_add_mod m E.k
 have hv:(E.cells x)[m%E.k]?=some ((E.cells x)[m%E.k]'(by rw [E.len];exact hr)):=List.getElem?_eq_getElem _;have:=qxj E (List.replicate n x) (m/E.k) x (m%E.k) _ (by rw [List.getElem?_replicate,if_pos hq]) hv;rw [e] at this;rw [this,hv]
theorem qpl {P:Program} {T:Type} {E:El T} {st:TypeId} (TT:SlT P E st) {x0:T} (hz:(E.cells x0).toArray=TT.z.cells) {kl kc:IntKind} {l c:Int} {n:Nat} (hl:l=n) (hc:c=n) (hb:TT.i.bytes*n<=281474976710656) (hm:n<=maxLen) {w:World} {K:Slc->World->Prop}
  (hK:∀w',Own E w' w.heap.size ⟨some ⟨w.heap.size,0,none⟩,n,n⟩ (List.replicate n x0)->Below w.heap.size w w'->K ⟨some ⟨w.heap.size,0,none⟩,n,n⟩ w'):mkSl P st (.int kl l) (.int kc c) w K:=by
 subst hl hc;obtain ⟨w',h1,h2,h3⟩:=run_make_full (P:=P) w w.heap.size st E.t TT.i TT.z E.k TT.ht TT.hi TT.hz TT.hs kl kc n hb hm (le_refl _);refine ⟨_,w',h1,hK w' ?_ ⟨h3.os,h3.tape,h3.output,h3.size,fun k hk=>h3.block k hk (by simp)⟩⟩;unfold Own;rw [List.length_replicate];have e:flat E (List.replicate n x0)=(madeCells TT.z.cells (n*E.k)).toList:=by
  refine List.ext_getElem? fun m=>?_;by_cases hmm:m<n*E.k
  ·rw [qzr E x0 n m hmm];have hsz:TT.z.cells.size=E.k:=TT.hzs;have hr:m%E.k<E.k:=mod_lt _ E.pos;have h2:(E.cells x0)[m%E.k]?=TT.z.cells[m%E.k]?:=by rw [<-hz];simp
   rw [h2,Array.getElem?_toList];simp [madeCells,hmm,hsz,hr]
  ·rw [List.getElem?_eq_none (by rw [qeo,List.length_replicate];omega),List.getElem?_eq_none (by simp [size_madeCells];omega)]
 rw [e];exact h2
theorem qmt (n x:Nat):BitVec.ofInt n (x:Int)=BitVec.ofNat n x:=by
 apply BitVec.eq_of_toNat_eq;simp
def kmax:IntKind->Nat
 | .i8=>7 | .i16=>15 | .i32=>31 | .i64=>63 | .u8=>8 | .u16=>16 | .u32=>32 | .u64=>64
theorem qax (k:IntKind) {x:Nat} (h:x<2^kmax k):k.wrap (x:Int)=x:=by
 cases k<;>simp only [kmax] at h
 ·exact IntWalk.i8_in _ (by omega)
 ·exact IntWalk.i16_in _ (by omega)
 ·exact IntWalk.i32_in _ (by omega)
 ·exact IntWalk.i64_in _ (by omega)
 ·exact IntWalk.u8_in _ (by omega)
 ·exact IntWalk.u16_in _ (by omega)
 ·exact IntWalk.u32_in _ (by omega)
 ·exact IntWalk.u64_in _ (by omega)
theorem zjv (k:IntKind):kmax k<=k.bits:=by cases k<;>decide
theorem qo0 (k:IntKind) {x:Nat} (h:x<2^kmax k):x%2^k.bits=x:=Nat.mod_eq_of_lt (Nat.lt_of_lt_of_le h (Nat.pow_le_pow_right (by decide) (zjv k)))
theorem qd3 (k:IntKind) {a b:Nat} (ha:a<2^kmax k) (hb:b<2^kmax k):bitsR .or k (a:Int) (b:Int)=((a ||| b:Nat):Int):=by
 show k.wrap ((BitVec.ofInt k.bits (a:Int) ||| BitVec.ofInt k.bits (b:Int)).toNat:Int)=_;rw [qmt,qmt,BitVec.toNat_or,BitVec.toNat_ofNat,BitVec.toNat_ofNat,qo0 k ha,qo0 k hb];exact qax k (Nat.or_lt_two_pow ha hb)
theorem qgr (k:IntKind) {a b:Nat} (ha:a<2^kmax k) (hb:b<2^kmax k):bitsR .and k (a:Int) (b:Int)=((a &&& b:Nat):Int):=by
 show k.wrap ((BitVec.ofInt k.bits (a:Int) &&& BitVec.ofInt k.bits (b:Int)).toNat:Int)=_;rw [qmt,qmt,BitVec.toNat_and,BitVec.toNat_ofNat,BitVec.toNat_ofNat,qo0 k ha,qo0 k hb];exact qax k (Nat.and_lt_two_pow _ hb)
theorem qxn (k:IntKind) {a b:Nat} (ha:a<2^kmax k) (hb:b<2^kmax k):bitsR .xor k (a:Int) (b:Int)=((a ^^^ b:Nat):Int):=by
 show k.wrap ((BitVec.ofInt k.bits (a:Int) ^^^ BitVec.ofInt k.bits (b:Int)).toNat:Int)=_;rw [qmt,qmt,BitVec.toNat_xor,BitVec.toNat_ofNat,BitVec.toNat_ofNat,qo0 k ha,qo0 k hb];exact qax k (Nat.xor_lt_two_pow ha hb)
theorem qft (a k:Nat):(a:Int).fdiv (2^k)=((a/2^k:Nat):Int):=by
 have e:((2:Int)^k)=((2^k:Nat):Int):=by simp
 rw [e,Int.fdiv_eq_ediv_of_nonneg _ (Int.natCast_nonneg _)];rfl
theorem qbk (a k:Nat):(a:Int)*2^k=((a*2^k:Nat):Int):=by simp
theorem qg8 {a b i:Nat} (h:b<2^i):b ||| 2^i*a=b+2^i*a:=by
 rw [Nat.or_comm,<-Nat.two_pow_add_eq_or_of_lt h,Nat.add_comm]
def le:List UInt8->Nat
 | []=>0
 | b::r=>b.toNat+256*le r
theorem q67 (a b:List UInt8):le (a++b)=le a+256^a.length*le b:=by
 induction a with
 | nil=>simp [le]
 | cons x r ih =>
  have e:256*(256^r.length*le b)=256^r.length*256*le b:=by rw [<-Nat.mul_assoc,Nat.mul_comm 256]
  rw [List.cons_append,le,le,ih,List.length_cons,Nat.pow_succ,Nat.mul_add,e];omega
theorem le_lt (a:List UInt8):le a<256^a.length:=by
 induction a with
 | nil=>simp [le]
 | cons x r ih =>
  rw [le,List.length_cons,Nat.pow_succ];have:=x.toNat_lt;omega
theorem q82 (bs:List UInt8) (k:Nat) (hk:k<=bs.length):le bs=le (bs.take k)+256^k*le (bs.drop k):=by
 conv=>lhs;rw [<-List.take_append_drop k bs]
 rw [q67,List.length_take,Nat.min_eq_left hk]
theorem zbr (bs:List UInt8) (k:Nat) (hk:k<=bs.length):le bs/256^k=le (bs.drop k):=by
 rw [q82 bs k hk,Nat.add_mul_div_left _ _ (Nat.pow_pos (by decide)),Nat.div_eq_of_lt,Nat.zero_add];have:=le_lt (bs.take k)
 rwa [List.length_take,Nat.min_eq_left hk] at this
def peekN (bs:List UInt8) (at_ n:Nat):Nat:=le bs/2^at_%2^n
theorem qcx (bs:List UInt8) (at_ n:Nat):peekN bs at_ n<2^n:=mod_lt _ (Nat.pow_pos (by decide))
theorem ziy (x y f m n:Nat) (h:f+n<=m):(x+2^m*y)/2^f%2^n=x/2^f%2^n:=by
 have e:2^m*y=2^f*(2^n*(2^(m-f-n)*y)):=by
  rw [<-Nat.mul_assoc,<-Nat.mul_assoc,<-Nat.pow_add,<-Nat.pow_add];congr 2;omega
 rw [e,Nat.add_mul_div_left _ _ (Nat.pow_pos (by decide)),Nat.add_mul_mod_self_left]
theorem qwh (k:Nat):256^k=2^(8*k):=by rw [Nat.pow_mul]
theorem q95 (bs:List UInt8) (at_ n cnt:Nat) (h1:at_%8+n<=8*cnt) (h2:at_/8+cnt<=bs.length):peekN bs at_ n=le ((bs.drop (at_/8)).take cnt)/2^(at_%8)%2^n:=by
 unfold peekN;have e:2^at_=256^(at_/8)*2^(at_%8):=by
  rw [qwh,<-Nat.pow_add];congr 1;omega
 rw [e,<-Nat.div_div_eq_div_mul,zbr bs _ (by omega),q82 (bs.drop (at_/8)) cnt (by simp;omega),qwh];exact ziy _ _ _ _ _ h1
theorem qdf (bs:List UInt8) (k at_ n:Nat) (hk:k<=bs.length):peekN (bs.drop k) at_ n=peekN bs (8*k+at_) n:=by
 unfold peekN;rw [<-zbr bs k hk,qwh,Nat.div_div_eq_div_mul,<-Nat.pow_add]
theorem q7g (bs:List UInt8) (at_ m n:Nat):peekN bs at_ (m+n)=peekN bs at_ m+2^m*peekN bs (at_+m) n:=by
 unfold peekN;rw [Nat.pow_add,Nat.mod_mul,Nat.div_div_eq_div_mul,<-Nat.pow_add]
theorem zfx (bs:List UInt8) (at_ m n:Nat) (h:m<=n):peekN bs at_ n%2^m=peekN bs at_ m:=by
 obtain ⟨d,rfl⟩:∃d,n=m+d:=⟨n-m,by omega⟩;rw [q7g,Nat.add_mul_mod_self_left,Nat.mod_eq_of_lt (qcx _ _ _)]
theorem zfz (bs:List UInt8) (at_ m n:Nat) (h:m<=n):peekN bs at_ n/2^m=peekN bs (at_+m) (n-m):=by
 obtain ⟨d,rfl⟩:∃d,n=m+d:=⟨n-m,by omega⟩;rw [q7g,Nat.add_mul_div_left _ _ (Nat.pow_pos (by decide)),Nat.div_eq_of_lt (qcx _ _ _),Nat.zero_add,Nat.add_sub_cancel_left]
theorem ldB8 {w:World} {a:Addr} {b:UInt8} {K:Int->Prop} (h:qaw w a [.int .u8 (b.toNat:Int)]) (hK:K (b.toNat:Int)):ldI .u8 a w K:=lI (x:=(b.toNat:Int)) (by simpa using h 0 _ rfl) hK
end Go.Vc
set_option maxRecDepth 100000
namespace Go.Proofs.YtedcpbkcamckoaaGreatDoor
open Go.Vc Go.RowKit
open IntKind (i64)
open _root_.List (mem_cons mem_nil_iff)
def qae:El UInt8 where
 cells b:=[.int .u8 b.toNat]
 t:=qan
 k:=1
 pos:=by decide
 len _:=rfl
 one x v hv:=by
  simp only [mem_cons,mem_nil_iff,or_false] at hv;rcases hv with rfl<;>rfl
noncomputable def qau:SlT PG qae qab where
 ht:=by kernel_rfl
 i:=(PG.info? 5).getD default
 hi:=by kernel_rfl
 z:=(.int .u8 0)
 hz:=by kernel_rfl
 hs:=by kernel_rfl
 hzs:=rfl
theorem qc0:qau.i.bytes=1:=by kernel_rfl
def qbd:El qah where
 cells:=qah.rep.cells
 t:=qat
 k:=14
 pos:=by decide
 len _:=rfl
 one x v hv:=by
  simp only [qah.rep,mem_cons,mem_nil_iff,or_false] at hv;rcases hv with rfl | rfl | rfl | rfl | rfl | rfl | rfl | rfl | rfl | rfl | rfl | rfl | rfl | rfl<;>rfl
noncomputable def qc8:SlT PG qbd qbn where
 ht:=by kernel_rfl
 i:=(PG.info? 61).getD default
 hi:=by kernel_rfl
 z:=(.agg #[(.int .i64 0),(.int .i64 0),(.bool false),(.int .i64 0),(.int .i64 0),(.int .i64 0),(.int .i64 0),(.int .i64 0),(.int .i64 0),(.int .i64 0),(.int .i64 0),(.int .i64 0),(.int .i64 0),(.int .i64 0)])
 hz:=by kernel_rfl
 hs:=by kernel_rfl
 hzs:=rfl
theorem qk0:qc8.i.bytes=112:=by kernel_rfl
def E_int:El Int where
 cells x:=[(.int .i64 x)]
 t:=qa9
 k:=1
 pos:=by decide
 len _:=rfl
 one x v hv:=by
  simp only [mem_cons,mem_nil_iff,or_false] at hv;rcases hv with rfl<;>rfl
noncomputable def qhd:SlT PG E_int qbg where
 ht:=by kernel_rfl
 i:=(PG.info? 3).getD default
 hi:=by kernel_rfl
 z:=(.int .i64 0)
 hz:=by kernel_rfl
 hs:=by kernel_rfl
 hzs:=rfl
theorem qjn:qhd.i.bytes=8:=by kernel_rfl
def qdi:El ByteArray where
 cells x:=[(.string x)]
 t:=qa1
 k:=1
 pos:=by decide
 len _:=rfl
 one x v hv:=by
  simp only [mem_cons,mem_nil_iff,or_false] at hv;rcases hv with rfl<;>rfl
noncomputable def qth:SlT PG qdi qes where
 ht:=by kernel_rfl
 i:=(PG.info? 9).getD default
 hi:=by kernel_rfl
 z:=(.string (⟨#[]⟩:ByteArray))
 hz:=by kernel_rfl
 hs:=by kernel_rfl
 hzs:=rfl
theorem q0g:qth.i.bytes=16:=by kernel_rfl
def qfe:El Slc where
 cells x:=[(.slice x.a x.n x.c)]
 t:=qab
 k:=1
 pos:=by decide
 len _:=rfl
 one x v hv:=by
  simp only [mem_cons,mem_nil_iff,or_false] at hv;rcases hv with rfl<;>rfl
noncomputable def qv5:SlT PG qfe qj7 where
 ht:=by kernel_rfl
 i:=(PG.info? 37).getD default
 hi:=by kernel_rfl
 z:=(.slice none 0 0)
 hz:=by kernel_rfl
 hs:=by kernel_rfl
 hzs:=rfl
theorem q5n:qv5.i.bytes=24:=by kernel_rfl
def qpq:El qam where
 cells:=qam.rep.cells
 t:=qct
 k:=2
 pos:=by decide
 len _:=rfl
 one x v hv:=by
  simp only [qam.rep,mem_cons,mem_nil_iff,or_false] at hv;rcases hv with rfl | rfl<;>rfl
noncomputable def quc:SlT PG qpq qdv where
 ht:=by kernel_rfl
 i:=(PG.info? 283).getD default
 hi:=by kernel_rfl
 z:=(.agg #[(.string (⟨#[]⟩:ByteArray)),(.slice none 0 0)])
 hz:=by kernel_rfl
 hs:=by kernel_rfl
 hzs:=rfl
theorem q43:quc.i.bytes=40:=by kernel_rfl
def ql8:El Int where
 cells x:=[(.int .u32 x)]
 t:=zgr
 k:=1
 pos:=by decide
 len _:=rfl
 one x v hv:=by
  simp only [mem_cons,mem_nil_iff,or_false] at hv;rcases hv with rfl<;>rfl
noncomputable def qz7:SlT PG ql8 qjk where
 ht:=by kernel_rfl
 i:=(PG.info? 189).getD default
 hi:=by kernel_rfl
 z:=(.int .u32 0)
 hz:=by kernel_rfl
 hs:=by kernel_rfl
 hzs:=rfl
theorem q9f:qz7.i.bytes=4:=by kernel_rfl
theorem apB {w:World} {b:Nat} {s x:Slc} {xs ys:List UInt8} {K:Slc->World->Prop} (hown:Go.Vc.Own qae w b s xs) (hx:Rd qae w x ys) (hb:b<=w.heap.size) (hl:xs.length+ys.length<=1000000000000)
  (hK:∀r w',Go.Vc.Own qae w' b r (xs++ys)->Chg (fun k=>s.blk=some k) w w'->(r.blk=s.blk\/r.blk=some w.heap.size)->K r w'):apK PG #[qab,qab] qab s x w K :=
 qkd qau hown hx hb (by rw [qc0];omega) (by simp only [maxLen];omega) fun r w' h1 h2 h3=>hK r w' h1 (Chg.of_grown h2 fun k hk=>hk) h3
theorem apB1 {w:World} {b:Nat} {s:Slc} {xs:List UInt8} {c:UInt8} {v:Int} {K:Slc->World->Prop} (hv:v=(c.toNat:Int)) (hown:Go.Vc.Own qae w b s xs) (hb:b<=w.heap.size) (hl:xs.length<=900000000000)
  (hK:∀r w',Go.Vc.Own qae w' b r (xs++[c])->Chg (fun k=>s.blk=some k) w w'->(r.blk=s.blk\/∃k,r.blk=some k/\w.heap.size<=k)->K r w') :
  nw qan [(.int .u8 v)] w fun t w1=>apK PG #[qab,qab] qab s (⟨(some t),1,1⟩:Slc) w1 K:=by
 subst hv;refine nwb fun w1 hb1 hB1 hs1=>?_;have hr:Rd qae w1 ⟨some ⟨w.heap.size,0,none⟩,1,1⟩ [c]:=qwx (E:=qae) hb1 rfl;refine apB (hown.ext hB1) hr (by omega) (by simp;omega) fun r w2 ho hc hq=>hK r w2 ho ((Chg.of_ext (S:=fun k=>s.blk=some k) hB1).trans hc fun i _ hi=>hi) ?_;rcases hq with e | e
 ·exact .inl e
 ·exact .inr ⟨_,e,by omega⟩
theorem zjo {w:World} {s:Slc} {xs:List UInt8} (h:Rd qae w s xs):xs.length<=maxLen:=by
 have h1:=h.n;have h2:=h.nc;have h3:=h.cm;omega
theorem qgp {s:Slc} {xs:List UInt8} {w:World} {K:Slc->World->Prop} (h:Rd qae w s xs) (hl:xs.length<=900000000000)
  (hK:∀r w',Go.Vc.Own qae w' w.heap.size r xs->Below w.heap.size w w'->K r w'):qaz s w K:=by
 refine qqn _ ?_;unfold qi2;cases ha:s.a with
 | none =>
  have:=h.none_nil ha;subst this;exact cT rfl (hK _ _ (Go.Vc.Own.nil _ _ _) (Below.refl _ _))
 | some a =>
  refine cF rfl ?_;refine nwb fun w1 hb1 hB1 hs1=>?_;refine apB (qjx (E:=qae) hb1 (Nat.le_refl _)) (h.ext hB1) (by omega) (by simp;omega) fun r w2 ho hc hq=>?_;rw [List.nil_append] at ho;exact hK r w2 ho (hB1.trans (hc.below (by omega) fun i hi hs=>by have e:w.heap.size=i:=Option.some.inj hs;omega))
theorem ze1 {n:Int} {w:World} {K:Slc->World->Prop} (h0:0<=n) (hn:n<=900000000000) (hK:∀r w',Go.Vc.Own qae w' w.heap.size r []->Below w.heap.size w w'->K r w'):qf3 (⟨none,0,0⟩:Slc) n w K:=by
 refine qq1 _ _ ?_;unfold qi8;refine jpO fun J hJ=>?_;refine cF (by simpa using h0) (hJ _ _ ?_);have hw:i64.wrap (n-(i64.wrap (((0:Nat):Int)-((0:Nat):Int))))=n:=by
  rw [w64i (x:=((0:Nat):Int)-((0:Nat):Int)) (by omega),w64i (by omega)];omega
 simp only [hw];refine cO (fun h=>?_) (fun h=>?_)
 ·have h:=oTq h;refine qhp (by omega) (by omega) (ql5 ?_);refine zjf qau (kk:=.i64) (by kernel_rfl) (n:=n.toNat) (by omega) (by omega) (by simp only [maxLen];omega) (by rw [qc0];omega) fun cap w' h1 h2 ho hB=>?_;refine qhp (by omega) (by simp) (ql5 ?_);have e:cut (some ⟨w.heap.size,0,none⟩) 0 cap 1=some ⟨w.heap.size,0,none⟩:=by
   unfold cut;split
   ·rfl
   ·simp
  show K ⟨cut (some ⟨w.heap.size,0,none⟩) 0 cap 1,0,cap⟩ w';rw [e];exact hK _ _ ho hB
 ·exact hK _ _ (Go.Vc.Own.nil _ _ _) (Below.refl _ _)
def slsE:El Slc where
 cells s:=[.slice s.a s.n s.c]
 t:=qab
 k:=1
 pos:=by decide
 len _:=rfl
 one x v hv:=by
  simp only [mem_cons,mem_nil_iff,or_false] at hv;rcases hv with rfl
  rfl
def zfl (w:World) (ss:List Slc) (xss:List (List UInt8)):Prop:=ss.length=xss.length/\∀(i:Nat) s xs,ss[i]?=some s->xss[i]?=some xs->Rd qae w s xs
theorem zi8 {w:World} {a b:Slc} {xs ys:List UInt8} (ha:Rd qae w a xs) (hb:Rd qae w b ys):zfl w [a,b] [xs,ys]:=by
 refine ⟨rfl,fun i s l hs hl=>?_⟩
 match i,hs,hl with
 | 0,hs,hl=>cases hs;cases hl;exact ha
 | 1,hs,hl=>cases hs;cases hl;exact hb
 | i+2,hs,hl=>cases hs
theorem q8u (xss:List (List UInt8)) (k:Nat):(xss.take k).flatten.length<=xss.flatten.length:=by
 conv=>rhs;rw [<-List.take_append_drop k xss]
 rw [List.flatten_append,List.length_append];omega
theorem qy5 {xss:List (List UInt8)} {k:Nat} {xs:List UInt8} (h:xss[k]?=some xs):(xss.take (k+1)).flatten=(xss.take k).flatten++xs:=by
 rw [List.take_add_one,h];simp
theorem qtf {p:Slc} {ss:List Slc} {xss:List (List UInt8)} {w:World} {K:Slc->World->Prop} (hp:Rd slsE w p ss) (hss:zfl w ss xss) (hl:xss.flatten.length<=900000000000) (hn:ss.length<=1000000)
  (hK:∀r w',Go.Vc.Own qae w' w.heap.size r xss.flatten->Below w.heap.size w w'->K r w'):qbi p w K:=by
 refine qoz _ ?_;unfold qh5;have hpn:=hp.n;obtain ⟨hsl,hss⟩:=hss;refine lpR (fun (s:Int×Int×Unit) w2=>∃k:Nat,s.2.1=k/\k<=ss.length/\s.1=((xss.take k).flatten.length:Nat)/\w2=w) (fun s=>ss.length-s.2.1.toNat) ⟨0,rfl,by omega,rfl,rfl⟩ ?_;rintro ⟨t,i,_⟩ w2 ⟨k,rfl,hk,rfl,rfl⟩ I hI;dsimp only at *;have hle:=q8u xss;refine cO (fun hlt=>?_) (fun hge=>?_)
 ·have hlt:=oTq hlt;rw [hpn] at hlt;have hkl:k<ss.length:=by omega
  have hx:ss[k]?=some ss[k]:=List.getElem?_eq_getElem hkl;have hy:xss[k]?=some (xss[k]'(by omega)):=List.getElem?_eq_getElem _;refine hp.ix rfl (by omega) (by omega) fun hc=>?_;refine lSl (x:=ss[k]) (by simpa using hc 0 _ rfl) ?_;have hr:=hss k _ _ hx hy;have hrn:=hr.n;have hf:=qy5 hy;have h1:=hle (k+1);rw [hf,List.length_append] at h1;rw [hrn,w64i (by omega)];refine cF (by simp;omega) ?_;rw [w64i (by omega)];exact hI _ _ ⟨k+1,by simp,by omega,by rw [hf];simp,rfl⟩ (by simp;omega)
 ·have hge:=oFq hge;rw [hpn] at hge;have:k=ss.length:=by omega
  subst this;have h1:=hle ss.length;refine ze1 (by omega) (by omega) fun g w3 ho3 hB3=>?_;refine lpR (fun (s:Slc×Int×Unit) w4=>∃k:Nat,s.2.1=k/\k<=ss.length/\Go.Vc.Own qae w4 w2.heap.size s.1 ((xss.take k).flatten)/\Below w2.heap.size w2 w4) (fun s=>ss.length-s.2.1.toNat) ⟨0,rfl,by omega,by simpa using ho3,hB3⟩ ?_;rintro ⟨t,i,_⟩ w4 ⟨k,rfl,hk,ho,hB⟩ I2 hI2;dsimp only at *;refine cO (fun hlt=>?_) (fun hge=>?_)
  ·have hlt:=oTq hlt;rw [hpn] at hlt;have hkl:k<ss.length:=by omega
   have hx:ss[k]?=some ss[k]:=List.getElem?_eq_getElem hkl;have hy:xss[k]?=some (xss[k]'(by omega)):=List.getElem?_eq_getElem _;refine (hp.ext hB).ix rfl (by omega) (by omega) fun hc=>?_;refine lSl (x:=ss[k]) (by simpa using hc 0 _ rfl) ?_;have hr:=(hss k _ _ hx hy).ext hB;have hf:=qy5 hy;have h1:=hle (k+1);rw [hf,List.length_append] at h1;refine apB ho hr hB.size (by omega) fun r w5 ho5 hc5 hr5=>?_;rw [w64i (by omega)];exact hI2 _ _ ⟨k+1,by simp,by omega,by rw [hf];exact ho5,hB.trans (hc5.below hB.size fun i hi hs=>by have:=(ho.lt i hs).1;omega)⟩ (by simp;omega)
  ·have hge:=oFq hge;rw [hpn] at hge;have:k=ss.length:=by omega
   subst this;rw [hsl,List.take_length] at ho;exact hK _ _ ho hB
theorem q8k {a b:Slc} {xs ys:List UInt8} {w:World} {K:Slc->World->Prop} (ha:Rd qae w a xs) (hb:Rd qae w b ys) (hl:xs.length+ys.length<=900000000000)
  (hK:∀r w',Go.Vc.Own qae w' w.heap.size r (xs++ys)->Below w.heap.size w w'->K r w'):nw qab [(.slice a.a a.n a.c),(.slice b.a b.n b.c)] w fun t w1=>qbi (⟨(some t),2,2⟩:Slc) w1 K:=by
 refine nwb fun w1 hb1 hB1 hs1=>?_;refine qtf (qsi (E:=slsE) (ys:=[a,b]) hb1 (by simp [maxLen]) rfl) (zi8 (ha.ext hB1) (hb.ext hB1)) (by simpa using hl) (by simp) fun r w2 ho hB=>?_;have e:[xs,ys].flatten=xs++ys:=by simp
 rw [e] at ho;exact hK r w2 (ho.base (by omega)) (hB1.trans (hB.mono hB1.size))
set_option maxRecDepth 400000
def strB (bs:List UInt8):ByteArray:=⟨bs.toArray⟩
theorem qdr (l:List UInt8):(strB l).toList=l:=by rw [ByteArray.toList_eq];rfl
theorem qkc {w:World} {s:Slc} {bs:List UInt8} (h:Rd qae w s bs):(convert qab qa1 (.slice s.a s.n s.c)).run PG w=.ok (.string (strB bs)) w:=by
 cases ha:s.a with
 | none =>
  have:bs=[]:=by
   cases bs with
   | nil=>rfl
   | cons x r=>have:=h.some_ (by simp);rw [ha] at this;cases this
  subst this;exact run_convert_bytes_nil (P:=PG) w qab qan (by kernel_rfl) (by kernel_rfl) _ _ qa1 (by kernel_rfl)
 | some a =>
  have hn:=h.n;have hl:(loadCells a bs.length).run PG w=.ok ((bs.map fun b=>Value.int .u8 b.toNat)).toArray w:=by
   have:=run_loadCells_list (P:=PG) w a (bs.map fun b=>Value.int .u8 b.toNat) (fun j v hj=>by
    rw [List.getElem?_map] at hj;cases hb:bs[j]? with
    | none=>rw [hb] at hj;cases hj
    | some b =>
     rw [hb] at hj;cases hj;have:=h.at_ j b hb 0 (.int .u8 b.toNat) rfl;simp only [Slc.at_,ha,Option.getD_some,add_zero] at this
     rwa [show j*qae.k=j from Nat.mul_one j] at this)
   simpa using this
  have hb:=run_bytesToString w a s.n s.c (bs.map fun b=>(b.toNat:Int)) (by rw [hn,hl];simp);rw [run_convert_bytes_string w qab qa1 qan _ s.n s.c (by kernel_rfl) (by kernel_rfl) (by kernel_rfl),hb,foldl_push_bytes];have e:(bs.map fun b=>(b.toNat:Int)).map (fun n=>UInt8.ofNat n.toNat)=bs:=by
   rw [List.map_map]
   conv=>rhs;rw [<-List.map_id bs]
   refine List.map_congr_left fun b _=>?_;simp
  rw [e];simp [strB,ByteArray.empty,ByteArray.emptyWithCapacity];rfl
end Go.Proofs.YtedcpbkcamckoaaGreatDoor
namespace Go.Vc
open Go.RowKit
open IntKind (i64)
theorem qht {P:Program} {T:Type} {E:El T} {st ty:TypeId} (TT:SlT P E st) {w:World} {base:Nat} {s:Slc} {xs:List T} {y:T} {vs:List Value} {K:Slc->World->Prop} (hown:Own E w base s xs) (hy:E.cells y=vs)
  (hb:base<=w.heap.size) (hl:(xs.length+1)*TT.i.bytes<=140737488355328) (hm:xs.length+1<=maxLen)
  (hK:∀r w',Own E w' base r (xs++[y])->Chg (fun k=>s.blk=some k) w w'->(∀k,r.blk=some k->s.blk=some k\/w.heap.size<=k)->K r w') :
  nw E.t vs w fun a w1=>apK P #[st,st] ty s ⟨some a,1,1⟩ w1 fun r w2=>K r w2:=by
 refine nwb fun w1 hb1 hB1 hs1=>?_;refine qkd TT (hown.ext hB1) (qwx hb1 hy) (by omega) (by simpa using hl) (by simpa using hm) fun r w2 ho hg hr=>hK r w2 ho ?_ ?_
 ·exact (Chg.of_ext hB1).trans (Chg.of_grown (S:=fun k=>s.blk=some k) hg fun k hk=>hk) fun i _ hi=>hi
 ·intro k hk;rcases hr with hr | hr
  ·exact .inl (hr ▸ hk)
  ·right;rw [hr] at hk;cases hk;omega
theorem qb0 {a:Addr} {K:Addr->Prop} (h:K a):onPtr (some a) K:=h
theorem i64_in {x:Int} (h:-9223372036854775808<=x/\x<=9223372036854775807):i64.wrap x=x:=w64i h
theorem qa0 {w:World} {T:Type} {E:El T} {b g:Nat} {s:Slc} {xs:List T} {t:TypeId} {vs:List Value} (h:Own E w b s xs) (h':Blk w g t vs) (hne:E.t≠t):∀k,s.blk=some k->k≠g:=fun k hk=>by
 obtain ⟨cs,hcs⟩:=h.blk_t hk;exact hcs.ne_t h' hne
theorem qx4 {w:World} {T T':Type} {E:El T} {E':El T'} {b b':Nat} {s s':Slc} {xs:List T} {ys:List T'} (h:Own E w b s xs) (h':Own E' w b' s' ys) (hne:E.t≠E'.t):∀k,s.blk=some k->s'.blk≠some k:=fun k hk e=>by
 obtain ⟨cs,hcs⟩:=h.blk_t hk;obtain ⟨cs',hcs'⟩:=h'.blk_t e;exact hcs.ne_t hcs' hne rfl
end Go.Vc
namespace Go.Proofs
open Go.Shelf
def Tryz.lays156_ren:Go.Shelf.Ren:=⟨fun | 156=>110 | 165=>142 | 166=>143 | 169=>144 | 240=>175 | 241=>176 | 276=>200 | 277=>201 | n=>n,fun | 31=>119 | 9=>9 | 3=>3 | 4=>4 | 0=>0 | 20=>20 | 72=>202 | 76=>206 | 70=>200 | 37=>37 | 75=>205 | 127=>153 | 164=>253 | 5=>5 | 80=>208 | n=>n,fun | n=>n⟩
theorem Tryz.lays156:Go.Proofs.Lays.n156 Tryz.prog Tryz.lays156_ren:={
 mixed:=by kernel_rfl
 f156:=Tryz.func110.trans (congrArg some (by kernel_rfl))
 f165:=Tryz.func142.trans (congrArg some (by kernel_rfl))
 f166:=Tryz.func143.trans (congrArg some (by kernel_rfl))
 f169:=Tryz.func144.trans (congrArg some (by kernel_rfl))
 f240:=Tryz.func175.trans (congrArg some (by kernel_rfl))
 f241:=Tryz.func176.trans (congrArg some (by kernel_rfl))
 f276:=Tryz.func200.trans (congrArg some (by kernel_rfl))
 f277:=Tryz.func201.trans (congrArg some (by kernel_rfl))
 t0:=Tryz.underlying0
 a0:=Tryz.isAgg0
 z0:=Tryz.sizeOf0
 v0:=Tryz.zeroValue0
 t3:=Tryz.underlying3
 a3:=Tryz.isAgg3
 z3:=Tryz.sizeOf3
 v3:=Tryz.zeroValue3
 t4:=Tryz.underlying4
 a4:=Tryz.isAgg4
 z4:=Tryz.sizeOf4
 v4:=Tryz.zeroValue4
 t9:=Tryz.underlying9
 a9:=Tryz.isAgg9
 z9:=Tryz.sizeOf9
 v9:=Tryz.zeroValue9
 t20:=Tryz.underlying20
 a20:=Tryz.isAgg20
 z20:=Tryz.sizeOf20
 v20:=Tryz.zeroValue20
 t31:=Tryz.underlying119
 a31:=Tryz.isAgg119
 z31:=Tryz.sizeOf119
 v31:=Tryz.zeroValue119
 t37:=Tryz.underlying37
 a37:=Tryz.isAgg37
 z37:=Tryz.sizeOf37
 v37:=Tryz.zeroValue37
 t70:=Tryz.underlying200
 a70:=Tryz.isAgg200
 z70:=Tryz.sizeOf200
 v70:=Tryz.zeroValue200
 t72:=Tryz.underlying202
 a72:=Tryz.isAgg202
 z72:=Tryz.sizeOf202
 v72:=Tryz.zeroValue202
 t75:=Tryz.underlying205
 a75:=Tryz.isAgg205
 z75:=Tryz.sizeOf205
 v75:=Tryz.zeroValue205
 t76:=Tryz.underlying206
 a76:=Tryz.isAgg206
 z76:=Tryz.sizeOf206
 v76:=Tryz.zeroValue206
 t127:=Tryz.underlying153
 a127:=Tryz.isAgg153
 z127:=Tryz.sizeOf153
 v127:=Tryz.zeroValue153
 t164:=Tryz.underlying253
 a164:=Tryz.isAgg253
 z164:=Tryz.sizeOf253
 v164:=Tryz.zeroValue253 }
theorem Tryz.Builder_Extra_156:Builder.Extra Tryz.prog Tryz.lays156_ren:={
 sizeBuilder:=by kernel_rfl
 liesBuilder:=by kernel_rfl
 t5:=Tryz.underlying5
 a5:=Tryz.isAgg5
 z5:=Tryz.sizeOf5
 v5:=Tryz.zeroValue5
 infoByte:=by kernel_rfl
 cellsByte:=by kernel_rfl
 sizeByte:=by kernel_rfl
 neB5:=by decide }
open Go.RowKit in
theorem Tryz.strings_Join_none (a:Option Addr) (c:Nat) (sep:ByteArray) (w:World) :
  Calls Tryz.prog 110 #[.slice a 0 c,.string sep] w fun e w'=>e=.returned (.string ⟨#[]⟩)/\w'=w:=Any.strings_Join_none Tryz.lays156 Tryz.Builder_Extra_156 a c sep w
open Go.RowKit in
theorem Tryz.strings_Join (bk o c:Nat) (xs:List ByteArray) (sep:ByteArray) (w:World) (hcells:∀(j:Nat) x,xs[j]?=some x->w.cell? ⟨bk,o+j,none⟩=some (.string x)) (hbk:bk<w.heap.size) (hN:xs.length<=140737488355328) (hcap:xs.length<=c) (hlen:(Lib.join (xs.map (·.data.toList)) sep.data.toList).length<=140737488355328) :
  Calls Tryz.prog 110 #[.slice (some ⟨bk,o,none⟩) xs.length c,.string sep] w fun e w'=>e=.returned (.string ⟨(Lib.join (xs.map (·.data.toList)) sep.data.toList).toArray⟩)/\Below w.heap.size w w':=Any.strings_Join Tryz.lays156 Tryz.Builder_Extra_156 bk o c xs sep w hcells hbk hN hcap hlen
def Tryz.lays137_ren:Go.Shelf.Ren:=⟨fun | 137=>132 | 217=>165 | 266=>187 | n=>n,fun | 9=>9 | 5=>5 | 3=>3 | n=>n,fun | n=>n⟩
theorem Tryz.lays137:Go.Proofs.Lays.n137 Tryz.prog Tryz.lays137_ren:={
 mixed:=by kernel_rfl
 f137:=Tryz.func132.trans (congrArg some (by kernel_rfl))
 f217:=Tryz.func165.trans (congrArg some (by kernel_rfl))
 f266:=Tryz.func187.trans (congrArg some (by kernel_rfl))
 t3:=Tryz.underlying3
 a3:=Tryz.isAgg3
 z3:=Tryz.sizeOf3
 v3:=Tryz.zeroValue3
 t5:=Tryz.underlying5
 a5:=Tryz.isAgg5
 z5:=Tryz.sizeOf5
 v5:=Tryz.zeroValue5
 t9:=Tryz.underlying9
 a9:=Tryz.isAgg9
 z9:=Tryz.sizeOf9
 v9:=Tryz.zeroValue9 }
open Go.RowKit in
theorem Tryz.strings_IndexByte (s:ByteArray) (c:Int) (w:World) :
  Calls Tryz.prog 132 #[.string s,.int .u8 c] w fun e w'=>e=.returned (.int .i64 (Lib.indexByte s.data.toList c.toNat.toUInt8))/\w'=w:=Any.strings_IndexByte Tryz.lays137 s c w
def Tryz.laysM171_ren:Go.Shelf.Ren:=⟨fun | 171=>109 | 243=>141 | 246=>174 | 283=>196 | 284=>197 | 285=>198 | 286=>199 | 129=>155 | 317=>225 | 318=>226 | 319=>227 | 320=>228 | 337=>245 | 338=>246 | n=>n,fun | 3=>3 | 9=>9 | 2=>2 | 4=>4 | 171=>249 | 0=>0 | 53=>218 | 37=>37 | 5=>5 | 173=>251 | 212=>296 | 51=>189 | 20=>20 | 213=>297 | 46=>175 | 232=>324 | 233=>325 | n=>n,fun | 17=>3 | 18=>4 | 19=>5 | n=>n⟩
theorem Tryz.laysM171:Go.Proofs.LaysM.n171 Tryz.prog Tryz.laysM171_ren:={
 mixed:=by kernel_rfl
 f129:=Tryz.func155.trans (congrArg some (by kernel_rfl))
 f171:=Tryz.func109.trans (congrArg some (by kernel_rfl))
 f243:=Tryz.func141.trans (congrArg some (by kernel_rfl))
 f246:=Tryz.func174.trans (congrArg some (by kernel_rfl))
 f283:=Tryz.func196.trans (congrArg some (by kernel_rfl))
 f284:=Tryz.func197.trans (congrArg some (by kernel_rfl))
 f285:=Tryz.func198.trans (congrArg some (by kernel_rfl))
 f286:=Tryz.func199.trans (congrArg some (by kernel_rfl))
 f317:=Tryz.func225.trans (congrArg some (by kernel_rfl))
 f318:=Tryz.func226.trans (congrArg some (by kernel_rfl))
 f319:=Tryz.func227.trans (congrArg some (by kernel_rfl))
 f320:=Tryz.func228.trans (congrArg some (by kernel_rfl))
 f337:=Tryz.func245.trans (congrArg some (by kernel_rfl))
 f338:=Tryz.func246.trans (congrArg some (by kernel_rfl))
 t0:=Tryz.underlying0
 a0:=Tryz.isAgg0
 z0:=Tryz.sizeOf0
 v0:=Tryz.zeroValue0
 t2:=Tryz.underlying2
 a2:=Tryz.isAgg2
 z2:=Tryz.sizeOf2
 v2:=Tryz.zeroValue2
 t3:=Tryz.underlying3
 a3:=Tryz.isAgg3
 z3:=Tryz.sizeOf3
 v3:=Tryz.zeroValue3
 t4:=Tryz.underlying4
 a4:=Tryz.isAgg4
 z4:=Tryz.sizeOf4
 v4:=Tryz.zeroValue4
 t5:=Tryz.underlying5
 a5:=Tryz.isAgg5
 z5:=Tryz.sizeOf5
 v5:=Tryz.zeroValue5
 t9:=Tryz.underlying9
 a9:=Tryz.isAgg9
 z9:=Tryz.sizeOf9
 v9:=Tryz.zeroValue9
 t20:=Tryz.underlying20
 a20:=Tryz.isAgg20
 z20:=Tryz.sizeOf20
 v20:=Tryz.zeroValue20
 t37:=Tryz.underlying37
 a37:=Tryz.isAgg37
 z37:=Tryz.sizeOf37
 v37:=Tryz.zeroValue37
 t46:=Tryz.underlying175
 a46:=Tryz.isAgg175
 z46:=Tryz.sizeOf175
 v46:=Tryz.zeroValue175
 t51:=Tryz.underlying189
 a51:=Tryz.isAgg189
 z51:=Tryz.sizeOf189
 v51:=Tryz.zeroValue189
 t53:=Tryz.underlying218
 a53:=Tryz.isAgg218
 z53:=Tryz.sizeOf218
 v53:=Tryz.zeroValue218
 t171:=Tryz.underlying249
 a171:=Tryz.isAgg249
 z171:=Tryz.sizeOf249
 v171:=Tryz.zeroValue249
 t173:=Tryz.underlying251
 a173:=Tryz.isAgg251
 z173:=Tryz.sizeOf251
 v173:=Tryz.zeroValue251
 t212:=Tryz.underlying296
 a212:=Tryz.isAgg296
 z212:=Tryz.sizeOf296
 v212:=Tryz.zeroValue296
 t213:=Tryz.underlying297
 a213:=Tryz.isAgg297
 z213:=Tryz.sizeOf297
 t232:=Tryz.underlying324
 a232:=Tryz.isAgg324
 z232:=Tryz.sizeOf324
 v232:=Tryz.zeroValue324
 t233:=Tryz.underlying325
 a233:=Tryz.isAgg325
 z233:=Tryz.sizeOf325
 v233:=Tryz.zeroValue325
 g17:=by kernel_rfl
 g18:=by kernel_rfl
 g19:=by kernel_rfl
 i0:=by kernel_rfl
 i2:=by kernel_rfl
 i3:=by kernel_rfl
 i4:=by kernel_rfl
 i5:=by kernel_rfl
 i9:=by kernel_rfl
 i20:=by kernel_rfl
 i37:=by kernel_rfl
 i46:=by kernel_rfl
 i51:=by kernel_rfl
 i53:=by kernel_rfl
 i171:=by kernel_rfl
 i173:=by kernel_rfl
 i212:=by kernel_rfl
 i232:=by kernel_rfl
 i233:=by kernel_rfl
 m17:=by kernel_rfl
 m18:=by kernel_rfl
 m19:=by kernel_rfl }
open Go.RowKit Go.Sort Go.Lib in
theorem Tryz.strconv_Itoa (n : Int) (h0 : -9223372036854775808 <= n) (h1 : n <= 9223372036854775807) (w : World) (htab : Lib.TabIs Tryz.prog w "internal/strconv.uint64pow10" .u64 Lib.pow10Tab) :
  Calls Tryz.prog 109 #[.int .i64 n] w fun e w'=>e=.returned (.string ⟨(Lib.itoa n).toArray⟩)/\∃k os,w'=grow (w.drewN k) os:=Any.strconv_Itoa Tryz.laysM171 n h0 h1 w htab
def Tryz.lays143_ren:Go.Shelf.Ren:=⟨fun | 143=>130 | 219=>163 | 217=>165 | 225=>184 | 224=>126 | 267=>185 | 266=>187 | 314=>203 | n=>n,fun | 9=>9 | 3=>3 | 4=>4 | 5=>5 | 46=>175 | 146=>220 | 51=>189 | n=>n,fun | 1=>0 | n=>n⟩
theorem Tryz.lays143:Go.Proofs.Lays.n143 Tryz.prog Tryz.lays143_ren:={
 mixed:=by kernel_rfl
 f143:=Tryz.func130.trans (congrArg some (by kernel_rfl))
 f217:=Tryz.func165.trans (congrArg some (by kernel_rfl))
 f219:=Tryz.func163.trans (congrArg some (by kernel_rfl))
 f224:=Tryz.func126.trans (congrArg some (by kernel_rfl))
 f225:=Tryz.func184.trans (congrArg some (by kernel_rfl))
 f266:=Tryz.func187.trans (congrArg some (by kernel_rfl))
 f267:=Tryz.func185.trans (congrArg some (by kernel_rfl))
 f314:=Tryz.func203.trans (congrArg some (by kernel_rfl))
 t3:=Tryz.underlying3
 a3:=Tryz.isAgg3
 z3:=Tryz.sizeOf3
 v3:=Tryz.zeroValue3
 t4:=Tryz.underlying4
 a4:=Tryz.isAgg4
 z4:=Tryz.sizeOf4
 v4:=Tryz.zeroValue4
 t5:=Tryz.underlying5
 a5:=Tryz.isAgg5
 z5:=Tryz.sizeOf5
 v5:=Tryz.zeroValue5
 t9:=Tryz.underlying9
 a9:=Tryz.isAgg9
 z9:=Tryz.sizeOf9
 v9:=Tryz.zeroValue9
 t46:=Tryz.underlying175
 a46:=Tryz.isAgg175
 z46:=Tryz.sizeOf175
 v46:=Tryz.zeroValue175
 t51:=Tryz.underlying189
 a51:=Tryz.isAgg189
 z51:=Tryz.sizeOf189
 v51:=Tryz.zeroValue189
 t146:=Tryz.underlying220
 a146:=Tryz.isAgg220
 z146:=Tryz.sizeOf220
 v146:=Tryz.zeroValue220
 g1:=by kernel_rfl }
open Go.RowKit Go.Lib in
theorem Tryz.strings_Index_one (s:ByteArray) (c:UInt8) (w:World) :
  Calls Tryz.prog 130 #[.string s,.string ⟨#[c]⟩] w fun e w'=>e=.returned (.int .i64 (Lib.indexByte s.data.toList c))/\w'=w:=Any.strings_Index_one Tryz.lays143 s c w
def Tryz.lays138_ren:Go.Shelf.Ren:=⟨fun | 138=>129 | 195=>160 | 218=>162 | 143=>130 | 219=>163 | 217=>165 | 225=>184 | 224=>126 | 267=>185 | 266=>187 | 314=>203 | n=>n,fun | 9=>9 | 3=>3 | 4=>4 | 5=>5 | 0=>0 | 46=>175 | 146=>220 | 51=>189 | n=>n,fun | 1=>0 | n=>n⟩
theorem Tryz.lays138:Go.Proofs.Lays.n138 Tryz.prog Tryz.lays138_ren:={
 mixed:=by kernel_rfl
 f138:=Tryz.func129.trans (congrArg some (by kernel_rfl))
 f143:=Tryz.func130.trans (congrArg some (by kernel_rfl))
 f195:=Tryz.func160.trans (congrArg some (by kernel_rfl))
 f217:=Tryz.func165.trans (congrArg some (by kernel_rfl))
 f218:=Tryz.func162.trans (congrArg some (by kernel_rfl))
 f219:=Tryz.func163.trans (congrArg some (by kernel_rfl))
 f224:=Tryz.func126.trans (congrArg some (by kernel_rfl))
 f225:=Tryz.func184.trans (congrArg some (by kernel_rfl))
 f266:=Tryz.func187.trans (congrArg some (by kernel_rfl))
 f267:=Tryz.func185.trans (congrArg some (by kernel_rfl))
 f314:=Tryz.func203.trans (congrArg some (by kernel_rfl))
 t0:=Tryz.underlying0
 a0:=Tryz.isAgg0
 z0:=Tryz.sizeOf0
 v0:=Tryz.zeroValue0
 t3:=Tryz.underlying3
 a3:=Tryz.isAgg3
 z3:=Tryz.sizeOf3
 v3:=Tryz.zeroValue3
 t4:=Tryz.underlying4
 a4:=Tryz.isAgg4
 z4:=Tryz.sizeOf4
 v4:=Tryz.zeroValue4
 t5:=Tryz.underlying5
 a5:=Tryz.isAgg5
 z5:=Tryz.sizeOf5
 v5:=Tryz.zeroValue5
 t9:=Tryz.underlying9
 a9:=Tryz.isAgg9
 z9:=Tryz.sizeOf9
 v9:=Tryz.zeroValue9
 t46:=Tryz.underlying175
 a46:=Tryz.isAgg175
 z46:=Tryz.sizeOf175
 v46:=Tryz.zeroValue175
 t51:=Tryz.underlying189
 a51:=Tryz.isAgg189
 z51:=Tryz.sizeOf189
 v51:=Tryz.zeroValue189
 t146:=Tryz.underlying220
 a146:=Tryz.isAgg220
 z146:=Tryz.sizeOf220
 v146:=Tryz.zeroValue220
 g1:=by kernel_rfl }
open Go.RowKit Go.Lib in
theorem Tryz.strings_Count_one (s:ByteArray) (c:UInt8) (w:World) :
  Calls Tryz.prog 129 #[.string s,.string ⟨#[c]⟩] w fun e w'=>e=.returned (.int .i64 (Lib.countByte s.data.toList c))/\w'=w:=Any.strings_Count_one Tryz.lays138 s c w
def Tryz.lays187_ren:Go.Shelf.Ren:=⟨fun | 187=>123 | 255=>158 | n=>n,fun | 37=>37 | 5=>5 | 3=>3 | n=>n,fun | n=>n⟩
theorem Tryz.lays187:Go.Proofs.Lays.n187 Tryz.prog Tryz.lays187_ren:={
 mixed:=by kernel_rfl
 f187:=Tryz.func123.trans (congrArg some (by kernel_rfl))
 f255:=Tryz.func158.trans (congrArg some (by kernel_rfl))
 t3:=Tryz.underlying3
 a3:=Tryz.isAgg3
 z3:=Tryz.sizeOf3
 v3:=Tryz.zeroValue3
 t5:=Tryz.underlying5
 a5:=Tryz.isAgg5
 z5:=Tryz.sizeOf5
 v5:=Tryz.zeroValue5
 t37:=Tryz.underlying37
 a37:=Tryz.isAgg37
 z37:=Tryz.sizeOf37
 v37:=Tryz.zeroValue37 }
theorem Tryz.bytes_IndexByte (b o n c:Nat) (xs:List Int) (cv:Int) (w:World) (hx:xs.length=n) (hc:∀i,i<n->w.cell? ⟨b,o+i,none⟩=some (.int .u8 (xs.getD i 0))) :
  Calls Tryz.prog 123 #[.slice (some ⟨b,o,none⟩) n c,.int .u8 cv] w fun e w'=>e=.returned (.int .i64 (Lib.indexByte (Lib.bytesOf xs) cv.toNat.toUInt8))/\w'=w:=Any.bytes_IndexByte Tryz.lays187 b o n c xs cv w hx hc
end Go.Proofs
namespace Go.Proofs.YtedcpbkcamckoaaGreatDoor
open Go.Vc Go.RowKit
set_option maxRecDepth 400000
open Lib (itoa)
theorem qfr (l:List UInt8):(strB l).toList=l:=by rw [ByteArray.toList_eq];rfl
theorem q4l (l:List UInt8):(strB l).data.toList=l:=rfl
theorem qbs (l:List UInt8):(strB l).size=l.length:=by show l.toArray.size=_;simp
theorem q9n (a b:List UInt8):strB a++strB b=strB (a++b):=by
 have:(strB a++strB b).data=(strB (a++b)).data:=by rw [ByteArray.data_append];simp [strB]
 calc strB a++strB b=⟨(strB a++strB b).data⟩:=rfl
  _=strB (a++b):=by rw [this]
theorem q3p {w:World} {s:Slc} {bs:List UInt8} (h:Rd qae w s bs):(convert qab qa1 (.slice s.a s.n s.c)).run PG w=.ok (.string (strB bs)) w:=by
 cases ha:s.a with
 | none =>
  have:bs=[]:=by
   cases bs with
   | nil=>rfl
   | cons x r=>have:=h.some_ (by simp);rw [ha] at this;cases this
  subst this;exact run_convert_bytes_nil (P:=PG) w qab qan (by kernel_rfl) (by kernel_rfl) _ _ qa1 (by kernel_rfl)
 | some a =>
  have hn:=h.n;have hl:(loadCells a bs.length).run PG w=.ok ((bs.map fun b=>Value.int .u8 b.toNat)).toArray w:=by
   have:=run_loadCells_list (P:=PG) w a (bs.map fun b=>Value.int .u8 b.toNat) (fun j v hj=>by
    rw [List.getElem?_map] at hj;cases hb:bs[j]? with
    | none=>rw [hb] at hj;cases hj
    | some b =>
     rw [hb] at hj;cases hj;have:=h.at_ j b hb 0 (.int .u8 b.toNat) rfl;simp only [Slc.at_,ha,Option.getD_some,add_zero] at this
     rwa [show j*qae.k=j from Nat.mul_one j] at this)
   simpa using this
  have hb:=run_bytesToString w a s.n s.c (bs.map fun b=>(b.toNat:Int)) (by rw [hn,hl];simp);rw [run_convert_bytes_string w qab qa1 qan _ s.n s.c (by kernel_rfl) (by kernel_rfl) (by kernel_rfl),hb,foldl_push_bytes];have e:(bs.map fun b=>(b.toNat:Int)).map (fun n=>UInt8.ofNat n.toNat)=bs:=by
   rw [List.map_map]
   conv=>rhs;rw [<-List.map_id bs]
   refine List.map_congr_left fun b _=>?_;simp
  rw [e];simp [strB,ByteArray.empty,ByteArray.emptyWithCapacity];rfl
section
variable {w:World}
theorem qhe {s:Slc} {bs:List UInt8} (h:Rd qae w s bs) {K:ByteArray->World->Prop} (hK:K (strB bs) w):runK1 PG (convert qab qa1 (.slice s.a s.n s.c)) Kind.string w K:=⟨_,w,q3p h,hK⟩
theorem q9w {bs:List UInt8} (hl:bs.length<=1000000000) {K:Slc->World->Prop} (hK:∀q w',Rd qae w' q bs->(∀k,q.blk=some k->w.heap.size<=k)->Below w.heap.size w w'->q.a.isSome=true->K q w') :
  runK1 PG (convert qa1 qab (.string (strB bs))) Kind.slice w K:=by
 have hr:=Lib.run_convert_string_bytes (P:=PG) w qa1 qab qan (strB bs) (u:=.string) (by kernel_rfl) (by kernel_rfl) (by kernel_rfl);have hsz:=qbs bs;refine ⟨⟨some ⟨w.heap.size,0,none⟩,(strB bs).size,grownCap w (strB bs).size 0 qan⟩,_,hr,hK _ _ ⟨hsz,grownCap_ge w _ 0 qan,grownCap_le_maxLen w _ 0 qan (by rw [hsz];unfold maxLen;omega),fun _=>rfl,fun i x hx=>?_⟩ (fun k hk=>by cases hk;exact Nat.le_refl _) ⟨rfl,rfl,rfl,by rw [Lib.bytesWorld_size];omega,fun k hk=>Lib.bytesWorld_at_old w _ _ k hk⟩ rfl⟩;have hi:i<bs.length:=(List.getElem?_eq_some_iff.1 hx).1;intro j v hv
 match j,hv with
 | 0,hv =>
  cases hv;have:=Lib.bytesWorld_cell w qan (strB bs) i (by rw [hsz];exact hi);rw [q4l] at this;have e:bs.getD i 0=x:=by rw [List.getD_eq_getElem?_getD,hx];rfl
  rw [e] at this;show World.cell? _ (((⟨w.heap.size,0,none⟩:Addr).add (i*1)).add 0)=_;rw [add_zero,Nat.mul_one,qas,Nat.zero_add];exact this
theorem qtp {bs:List UInt8} {i:Int} {k:Nat} {b:UInt8} {K:Int->Prop} (hi:i=k) (hb:bs[k]?=some b) (hK:K b.toNat):ixS (strB bs) i K:=by
 subst hi;have hk:k<bs.length:=(List.getElem?_eq_some_iff.1 hb).1;refine ⟨⟨by omega,by rw [qbs];omega⟩,?_⟩;have e:(strB bs).data.getD ((k:Int)).toNat 0=b:=by
  show bs.toArray.getD _ _=_;rw [Int.toNat_natCast,Array.getD_eq_getD_getElem?,List.getElem?_toArray,hb];rfl
 rw [e];exact hK
theorem q9c (bs:List UInt8) (l h:Nat):(strB bs).extract l h=strB ((bs.take h).drop l):=by
 have:((strB bs).extract l h).data=(strB ((bs.take h).drop l)).data:=by
  rw [ByteArray.data_extract];apply Array.ext';simp [strB,List.drop_take]
 calc (strB bs).extract l h=⟨((strB bs).extract l h).data⟩:=rfl
  _=_:=by rw [this]
theorem q01 {bs:List UInt8} {lo hi:Option Int} {l h:Nat} {K:ByteArray->Prop} (hlo:lo=none/\l=0\/lo=some (l:Int)) (hhi:hi=none/\h=bs.length\/hi=some (h:Int)) (h1:l<=h) (h2:h<=bs.length)
  (hK:K (strB ((bs.take h).drop l))):slS (strB bs) lo hi K:=by
 have key:K ((strB bs).extract l h):=by rw [q9c];exact hK
 have inner:bnd lo h 0 fun l'=>K ((strB bs).extract l' h):=by
  rcases hlo with ⟨rfl,rfl⟩ | rfl
  ·exact ql5 key
  ·exact qhp (by omega) (by omega) (by simpa using key)
 unfold slS;rcases hhi with ⟨rfl,rfl⟩ | rfl
 ·refine ql5 ?_;rw [qbs];exact inner
 ·exact qhp (by omega) (by rw [qbs];omega) (by simpa using inner)
def Tab (w : World) : Prop := Lib.TabIs PG w "internal/strconv.uint64pow10" .u64 Lib.pow10Tab
theorem zfr {g:Nat} {cs:Array Value} {n:String} (hg:PG.globalNamed n=some g) (h:w.var? PG n=some cs):g<w.heap.size:=by
 unfold World.var? at h;rw [hg] at h;dsimp only [Option.bind_some] at h;rcases Nat.lt_or_ge g w.heap.size with hlt | hge
 ·exact hlt
 ·rw [Array.getElem?_eq_none hge] at h;cases h
theorem Tab.ext {w':World} (h:Tab w) (hb:Below w.heap.size w w'):Tab w' :=
 var?_below (g:=3) hb (by kernel_rfl) (zfr (by kernel_rfl) h) h
theorem q9r {n:Int} (h0:-9223372036854775808<=n) (h1:n<=9223372036854775807):(itoa n).length<=20:=by
 have hd:∀(m u:Nat),1<=m->u<10^m->(Lib.decDigits u).length<=m:=by
  intro m
  induction m with
  | zero=>intro u h;omega
  | succ m ih =>
   intro u _ h;rw [Lib.decDigits];split
   ·simp
   ·rename_i h10;have:m≠0:=fun e=>by subst e;simp at h;omega
    have:=ih (u/10) (by omega) (by rw [Nat.pow_succ] at h;omega);rw [List.length_append,List.length_singleton];omega
 unfold itoa;split
 ·rw [List.length_cons];have:=hd 19 n.natAbs (by omega) (by omega);omega
 ·have:=hd 19 n.toNat (by omega) (by omega);omega
theorem ze9 (hT:Tab w) {n:Int} (h0:-9223372036854775808<=n) (h1:n<=9223372036854775807) {K:ByteArray->World->Prop} (hK:∀w',Below w.heap.size w w'->K (strB (itoa n)) w'):qvr n w K:=by
 refine Calls.mono (Tryz.strconv_Itoa n h0 h1 w hT) ?_;rintro e w' ⟨rfl,k,os,rfl⟩;refine ⟨_,rfl,hK _ ⟨rfl,rfl,rfl,by show _<=((w.drewN k).heap++os).size;simp [World.drewN],fun j hj=>?_⟩⟩;show ((w.drewN k).heap++os)[j]?=_;rw [Array.getElem?_append_left (by simpa [World.drewN] using hj)];rfl
theorem qul {bs:List UInt8} {c:UInt8} {i:Int} (hi:i=c.toNat) {K:Int->World->Prop} (hK:K (Lib.indexByte bs c) w):qej (strB bs) i w K:=by
 subst hi;refine Calls.mono (Tryz.strings_IndexByte (strB bs) c.toNat w) ?_;rintro e w' ⟨rfl,rfl⟩;refine ⟨_,rfl,?_⟩;rw [q4l,show ((c.toNat:Int)).toNat.toUInt8=c by simp];exact hK
end
end Go.Proofs.YtedcpbkcamckoaaGreatDoor
namespace Go.Proofs.YtedcpbkcamckoaaGreatDoor
open Go.Vc Go.ChangeShapes Go.WideShapes Go.ChangeAt Go.RowKit
set_option maxRecDepth 100000
theorem own:ownKnob Tryz.prog.godebug=none:=by kernel_rfl
theorem zjh:laidOutB Tryz.prog=true:=by kernel_rfl
theorem qhy {ls:List Leaf} {vs:List Value} {k:IntKind} (h:qkg ls vs) (j:Nat) (hj:ls[j]?=some (.int k)):∃z,vs[j]?=some (.int k z)/\(Lit.int k z).wf=true:=by
 obtain ⟨v,hv,z,rfl,hw⟩:=h j _ hj;exact ⟨z,hv,hw⟩
theorem qvk {vs us:List Value} (hl:vs.length=us.length) (h:∀(j:Nat),j<us.length->us[j]?=vs[j]?):us=vs :=
 List.ext_getElem? fun j=>by
  rcases Nat.lt_or_ge j us.length with hj | hj
  ·exact h j hj
  ·rw [List.getElem?_eq_none hj,List.getElem?_eq_none (by omega)]
def zkg (P:Program) (t:TypeId):TypeId:=match P.underlying t with
 | some (.array _ e)=>e
 | _=>0
def tabs : List (String × DataW Unit) := [("math/bits.deBruijn32tab", Rows.laid_math_bits_deBruijn32tab), ("math/bits.deBruijn64tab", Rows.laid_math_bits_deBruijn64tab), ("internal/strconv.uint64pow10", Rows.laid_internal_strconv_uint64pow10), ("unicode/utf8.acceptRanges", Rows.laid_unicode_utf8_acceptRanges), ("unicode/utf8.first", Rows.laid_unicode_utf8_first)]
theorem zaq (os:Os):(World.laidAll Tryz.prog os tabs).Shaped Tryz.prog:=World.shaped_of_ZipB (by kernel_rfl) (by kernel_rfl)
theorem zie (os:Os) (args:Array Value):laidMetH Tryz.prog tabs ((World.laidAll Tryz.prog os tabs).forCall (fun _ _=>0) ⟨#[],args,[]⟩).memory:=by
 rw [MakeChecks.laidMetH_plain _ _ _ (by kernel_rfl)];exact laidMet_laidAll _ (by kernel_rfl) (by kernel_rfl)
theorem q7v {P:Program} {W:World} {name:String} {k:IntKind} {zs:List Int} {rest:List (String×DataW Unit)} {g:Nat} {t e:TypeId} {n:Nat} {ps:List MemPlace}
  (hg:P.globalNamed name=some g) (hty:(P.globals[g]?).map (·.type)=some t) (ht:P.underlying t=some (.array n e)) (he:P.underlying e=some (.int k)) (hce:P.cellsOf e=1) (hct:P.cellsOf t=n)
  (h:DataW.LaidVars P W ((name,Lib.tabData k zs)::rest) ps):Lib.TabIs P W name k zs:=by
 obtain ⟨g',t',cs,fuel,p,q,hg',ht',hvar,hd,_,_⟩:=h;obtain rfl:=Option.some.inj (hg.symm.trans hg');obtain rfl:=Option.some.inj (hty.symm.trans ht');unfold Lib.TabIs;rw [hvar,<-Lib.cells_of_tab ht he hce hct hd]
theorem zaa {W:World} (h:laidMetH Tryz.prog tabs W):Tab W:=by
 rw [MakeChecks.laidMetH_plain _ _ _ (by kernel_rfl)] at h;obtain ⟨ps,⟨_,_,_,_,_,_,_,_,_,_,⟨_,_,_,_,_,_,_,_,_,_,h,_⟩,_⟩,_⟩:=h;have e:(Rows.laid_internal_strconv_uint64pow10:DataW Unit)=Lib.tabData .u64 Lib.pow10Tab:=by kernel_rfl
 rw [e] at h;exact q7v (g:=3) (t:=(Tryz.prog.globals[3]?).map (·.type) |>.getD 0) (e:=zkg Tryz.prog ((Tryz.prog.globals[3]?).map (·.type) |>.getD 0)) (n:=20) (by kernel_rfl) (by kernel_rfl) (by kernel_rfl) (by kernel_rfl) (by kernel_rfl) (by kernel_rfl) h
end Go.Proofs.YtedcpbkcamckoaaGreatDoor
namespace Go.Vc
open Go.RowKit
open IntKind (i64)
open _root_.List (mem_append mem_cons mem_map mem_singleton)
open _root_.Option (map_eq_some_iff)
structure Ent (V:Type) where
 k:Int
 v:V
 b:Nat
section
variable {V:Type} (enc:V->Value)
def Ent.val (e:Ent V):MapEntry:={ key:=.int .i64 e.k,val:=enc e.v,born:=e.b }
structure MapE (w:World) (r:Nat) (E:List (Ent V)) (clock:Nat):Prop where
 heap:w.heap[r]?=some (.map (E.map (Ent.val enc)).toArray clock)
 keys:E.Pairwise fun x y=>x.k≠y.k
 stamps:E.Pairwise fun x y=>x.b<y.b
 lt:∀e∈E,e.b<clock
 wf:∀e∈E,-9223372036854775808<=e.k/\e.k<=9223372036854775807
def Srt (L:List (Int×V)):Prop:=L.Pairwise fun p q=>p.1<q.1
def lookL (L:List (Int×V)) (k:Int):Option V:=(L.find? fun p=>p.1==k).map (·.2)
def delL (L:List (Int×V)) (k:Int):List (Int×V):=L.filter fun p=>p.1 !=k
def putL' (L:List (Int×V)) (k:Int) (v:V):List (Int×V):=match L with
 | []=>[(k,v)]
 | p::r=>if k<p.1 then (k,v)::p::r else if k=p.1 then (k,v)::r else p::putL' r k v
def pairs (E:List (Ent V)):List (Int×V):=E.map fun e=>(e.k,e.v)
def MapM (w:World) (r:Nat) (L:List (Int×V)):Prop:=∃E clock,MapE enc w r E clock/\(pairs E).Perm L/\Srt L
variable {enc}
theorem MapE.lt_heap {w:World} {r:Nat} {E:List (Ent V)} {clock:Nat} (h:MapE enc w r E clock):r<w.heap.size:=(Array.getElem?_eq_some_iff.1 h.heap).1
theorem MapM.lt {w:World} {r:Nat} {L:List (Int×V)} (h:MapM enc w r L):r<w.heap.size:=by
 obtain ⟨E,c,h,_⟩:=h;exact h.lt_heap
theorem MapM.keep {w w':World} {r:Nat} {L:List (Int×V)} (h:MapM enc w r L) (hk:w'.heap[r]?=w.heap[r]?):MapM enc w' r L:=by
 obtain ⟨E,c,h,hp⟩:=h;exact ⟨E,c,⟨hk.trans h.heap,h.keys,h.stamps,h.lt,h.wf⟩,hp⟩
theorem MapM.chg {S:Nat->Prop} {w w':World} {r:Nat} {L:List (Int×V)} (h:MapM enc w r L) (hc:Chg S w w') (hS:¬S r):MapM enc w' r L:=h.keep (hc.block r h.lt hS)
theorem MapM.ext {w w':World} {r:Nat} {L:List (Int×V)} (h:MapM enc w r L) (hb:Below w.heap.size w w'):MapM enc w' r L:=h.keep (hb.block r h.lt)
theorem MapM.new (w:World):MapM enc (w.alloc (.map #[] 0)) w.heap.size ([]:List (Int×V)):=by
 refine ⟨[],0,⟨?_,.nil,.nil,(fun e he=>by cases he),(fun e he=>by cases he)⟩,.refl _,.nil⟩;show (w.heap.push _)[w.heap.size]?=_;simp
theorem MapM.ne_blk {w:World} {r g:Nat} {L:List (Int×V)} {t:TypeId} {vs:List Value} (h:MapM enc w r L) (hb:Blk w g t vs):r≠g:=by
 rintro rfl;obtain ⟨E,c,h,_⟩:=h;have h1:=h.heap;unfold Blk at hb;rw [hb] at h1;cases h1
theorem MapM.ne_own {T:Type} {El':El T} {w:World} {r base:Nat} {L:List (Int×V)} {s:Slc} {xs:List T} (h:MapM enc w r L) (ho:Own El' w base s xs):∀k,s.blk=some k->k≠r:=fun k hk e=>by
 obtain ⟨cs,hcs⟩:=ho.blk_t hk;exact h.ne_blk hcs e.symm
def idxE:List (Ent V)->Int->Option (Nat×V)
 | [],_=>none
 | e::r,k=>if k=e.k then some (0,e.v) else (idxE r k).map fun p=>(p.1+1,p.2)
theorem q2o (k:Int):∀(E:List (Ent V)) (i:Nat),Instr.findNow (.int .i64) (.int .i64 k) (E.map (Ent.val enc)) i=some ((idxE E k).map fun p=>(i+p.1,enc p.2))
 | [],i=>rfl
 | e::r,i=>by
  rw [List.map_cons,Instr.findNow];have hs:Instr.sameNow (.int .i64) (.int .i64 k) (Ent.val enc e).key=some (k==e.k):=by
   show (if (i64=i64) then some (k==e.k) else none)=_;rw [if_pos rfl]
  rw [hs,idxE];by_cases h:k=e.k
  ·rw [if_pos h,show (k==e.k)=true from beq_iff_eq.2 h];rfl
  ·rw [if_neg h,show (k==e.k)=false from beq_eq_false_iff_ne.2 h];dsimp only;rw [q2o k r (i+1)];cases idxE r k with
   | none=>rfl
   | some p =>
    show some (some (i+1+p.1,enc p.2))=some (some (i+(p.1+1),enc p.2));rw [show i+1+p.1=i+(p.1+1) by omega]
theorem q0b {k:Int} {v:V}:∀{E:List (Ent V)} {i:Nat},idxE E k=some (i,v)->∃e,E[i]?=some e/\e.k=k/\e.v=v
 | e::r,i,h=>by
  rw [idxE] at h;by_cases hk:k=e.k
  ·rw [if_pos hk] at h;cases h;exact ⟨e,rfl,hk.symm,rfl⟩
  ·rw [if_neg hk] at h;obtain ⟨p,hp,e'⟩:=map_eq_some_iff.1 h;cases e';obtain ⟨x,hx,h1,h2⟩:=q0b (E:=r) (i:=p.1) (by rw [hp]);exact ⟨x,hx,h1,h2⟩
theorem quh {k:Int}:∀{E:List (Ent V)},idxE E k=none->∀e∈E,e.k≠k
 | [],_,e,he=>by cases he
 | x::r,h,e,he=>by
  rw [idxE] at h;by_cases hk:k=x.k
  ·rw [if_pos hk] at h;cases h
  ·rw [if_neg hk] at h;have h:=Option.map_eq_none_iff.1 h;rcases mem_cons.1 he with rfl | he
   ·exact fun e=>hk e.symm
   ·exact quh h e he
theorem qc1 {L:List (Int×V)} (hs:Srt L) {k:Int} {v:V}:lookL L k=some v↔(k,v)∈L:=by
 unfold lookL;rw [map_eq_some_iff];constructor
 ·rintro ⟨p,hp,rfl⟩;have h1:=List.find?_some hp;have h2:=List.mem_of_find?_eq_some hp;have:p.1=k:=by simpa using h1
  rw [<-this];exact h2
 ·intro hm;cases hf:L.find? (fun p=>p.1==k) with
  | none =>
   have:=List.find?_eq_none.1 hf (k,v) hm;simp at this
  | some q =>
   have h1:q.1=k:=by simpa using List.find?_some hf
   have h2:=List.mem_of_find?_eq_some hf;refine ⟨q,rfl,?_⟩;obtain ⟨qk,qv⟩:=q;subst h1;have:∀{M:List (Int×V)},Srt M->∀{a b c},(a,b)∈M->(a,c)∈M->b=c:=by
    intro M hM
    induction hM with
    | nil=>intro a b c h;cases h
    | cons hx _ ih =>
     intro a b c hb hc;rcases mem_cons.1 hb with e | hb
     ·rcases mem_cons.1 hc with e' | hc
      ·have:=e.trans e'.symm;cases this;rfl
      ·have:=hx _ hc;rw [<-e] at this;exact absurd this (Int.lt_irrefl _)
     ·rcases mem_cons.1 hc with e' | hc
      ·have:=hx _ hb;rw [<-e'] at this;exact absurd this (Int.lt_irrefl _)
      ·exact ih hb hc
   exact this hs h2 hm
theorem q6w {E:List (Ent V)} {L:List (Int×V)} (hp:(pairs E).Perm L) (hs:Srt L) (k:Int):(idxE E k).map (·.2)=lookL L k:=by
 cases hi:idxE E k with
 | none =>
  cases hg:lookL L k with
  | none=>rfl
  | some v =>
   have:=hp.mem_iff.2 ((qc1 hs).1 hg);obtain ⟨e,he,e2⟩:=mem_map.1 this;have e2:=congrArg Prod.fst e2;exact absurd e2 (quh hi e he)
 | some p =>
  obtain ⟨i,v⟩:=p;obtain ⟨e,he,h1,h2⟩:=q0b hi;refine ((qc1 hs).2 (hp.mem_iff.1 (mem_map.2 ⟨e,List.mem_of_getElem? he,?_⟩))).symm;rw [h1,h2]
def putM (w:World) (r:Nat) (o:Obj):World:={ w with heap:=w.heap.setIfInBounds r o }
theorem qxw (w:World) (r:Nat) (o:Obj):Chg (fun k=>k=r) w (putM w r o) :=
 ⟨rfl,rfl,rfl,by show w.heap.size<=(w.heap.setIfInBounds r o).size;simp,fun k _ hk=>by show (w.heap.setIfInBounds r o)[k]?=_;rw [Array.getElem?_setIfInBounds_ne (fun e=>hk e.symm)]⟩
theorem q0p {w:World} {r:Nat} (o:Obj) (h:r<w.heap.size):(putM w r o).heap[r]?=some o:=by
 show (w.heap.setIfInBounds r o)[r]?=_;simp [h]
theorem que (w:World) (r:Nat) (o:Obj):(putM w r o).heap.size=w.heap.size:=by show (w.heap.setIfInBounds r o).size=_;simp
theorem Srt.nodup {L:List (Int×V)} (h:Srt L):L.Nodup:=h.imp fun {a b} hab e=>by rw [e] at hab;exact Int.lt_irrefl _ hab
theorem zah {E:List (Ent V)} (h:E.Pairwise fun x y=>x.k≠y.k):(pairs E).Nodup:=List.pairwise_map.2 (h.imp fun {a b} hab e=>hab (congrArg Prod.fst e))
theorem qh2 {L:List (Int×V)} (hs:Srt L) (k:Int) (v:V):∀a b,(a,b)∈putL' L k v↔(a=k/\b=v)\/(a≠k/\(a,b)∈L):=by
 induction hs with
 | nil =>
  intro a b;simp [putL']
 | @cons p L' hp hs' ih =>
  intro a b;obtain ⟨pk,pv⟩:=p;rw [putL'];dsimp only at hp ⊢;have hgt:∀{a b},(a,b)∈L'->pk<a:=fun h=>hp _ h;by_cases h1:k<pk
  ·rw [if_pos h1];simp only [mem_cons,Prod.mk.injEq];constructor
   ·rintro (h | h | h)
    ·exact .inl h
    ·exact .inr ⟨by omega,.inl h⟩
    ·exact .inr ⟨by have:=hgt h;omega,.inr h⟩
   ·rintro (h | ⟨_,h | h⟩)
    ·exact .inl h
    ·exact .inr (.inl h)
    ·exact .inr (.inr h)
  ·rw [if_neg h1];by_cases h2:k=pk
   ·rw [if_pos h2];simp only [mem_cons,Prod.mk.injEq];constructor
    ·rintro (h | h)
     ·exact .inl h
     ·exact .inr ⟨by have:=hgt h;omega,.inr h⟩
    ·rintro (h | ⟨hne,h | h⟩)
     ·exact .inl h
     ·omega
     ·exact .inr h
   ·rw [if_neg h2];simp only [mem_cons,Prod.mk.injEq,ih];constructor
    ·rintro (h | h | ⟨hne,h⟩)
     ·exact .inr ⟨by omega,.inl h⟩
     ·exact .inl h
     ·exact .inr ⟨hne,.inr h⟩
    ·rintro (h | ⟨hne,h | h⟩)
     ·exact .inr (.inl h)
     ·exact .inl h
     ·exact .inr (.inr ⟨hne,h⟩)
theorem qte {L:List (Int×V)} (hs:Srt L) (k:Int) (v:V):Srt (putL' L k v):=by
 induction hs with
 | nil=>exact List.pairwise_singleton _ _
 | @cons p L' hp hs' ih =>
  obtain ⟨pk,pv⟩:=p;rw [putL'];dsimp only at hp ⊢;by_cases h1:k<pk
  ·rw [if_pos h1];refine .cons (fun q hq=>?_) (.cons hp hs');rcases mem_cons.1 hq with rfl | hq
   ·exact h1
   ·exact Int.lt_trans h1 (hp q hq)
  ·rw [if_neg h1];by_cases h2:k=pk
   ·rw [if_pos h2];exact .cons (fun q hq=>by rw [h2];exact hp q hq) hs'
   ·rw [if_neg h2];refine .cons (fun q hq=>?_) ih;obtain ⟨a,b⟩:=q;rcases (qh2 hs' k v a b).1 hq with ⟨rfl,_⟩ | ⟨_,hm⟩
    ·show pk<a;omega
    ·exact hp _ hm
theorem q3c {L:List (Int×V)} (hs:Srt L) (k:Int):Srt (delL L k):=hs.filter _
theorem qyi {L:List (Int×V)} (k a:Int) (b:V):(a,b)∈delL L k↔a≠k/\(a,b)∈L:=by
 simp [delL,and_comm]
def setE (E:List (Ent V)) (i:Nat) (v:V):List (Ent V):=E.modify i fun e=>{ e with v:=v }
theorem q9j {k:Int} {v v0:V}:∀{E:List (Ent V)} {i:Nat},E.Pairwise (fun x y=>x.k≠y.k)->idxE E k=some (i,v0)->∀a b,(a,b)∈pairs (setE E i v)↔(a=k/\b=v)\/(a≠k/\(a,b)∈pairs E)
 | e::r,i,hp,h,a,b=>by
  rw [idxE] at h;cases hp with
  | cons hpe hpr =>
  by_cases hk:k=e.k
  ·rw [if_pos hk] at h;cases h;show (a,b)∈(e.k,v)::pairs r↔_\/(_/\(a,b)∈(e.k,e.v)::pairs r);simp only [mem_cons,Prod.mk.injEq];have hne:∀{a b},(a,b)∈pairs r->a≠k:=fun {a b} hm e'=>by
    obtain ⟨x,hx,ex⟩:=mem_map.1 hm;have:=congrArg Prod.fst ex;exact hpe x hx (by rw [<-hk,<-e'];exact this.symm)
   constructor
   ·rintro (⟨h1,h2⟩ | h)
    ·exact .inl ⟨by omega,h2⟩
    ·exact .inr ⟨hne h,.inr h⟩
   ·rintro (⟨h1,h2⟩ | ⟨h1,⟨h2,_⟩ | h⟩)
    ·exact .inl ⟨by omega,h2⟩
    ·omega
    ·exact .inr h
  ·rw [if_neg hk] at h;obtain ⟨p,hp',e'⟩:=map_eq_some_iff.1 h;cases e';have ih:=q9j (E:=r) (i:=p.1) hpr (by rw [hp']) a b (v:=v) (k:=k);show (a,b)∈(e.k,e.v)::pairs (setE r p.1 v)↔_\/(_/\(a,b)∈(e.k,e.v)::pairs r);simp only [mem_cons,Prod.mk.injEq,ih];constructor
   ·rintro (⟨h1,h2⟩ | h | ⟨h1,h2⟩)
    ·exact .inr ⟨by omega,.inl ⟨h1,h2⟩⟩
    ·exact .inl h
    ·exact .inr ⟨h1,.inr h2⟩
   ·rintro (h | ⟨h1,h | h⟩)
    ·exact .inr (.inl h)
    ·exact .inl h
    ·exact .inr (.inr ⟨h1,h⟩)
theorem q6s {k:Int} {v0:V}:∀{E:List (Ent V)} {i:Nat},E.Pairwise (fun x y=>x.k≠y.k)->idxE E k=some (i,v0)->E.eraseIdx i=E.filter fun e=>e.k !=k
 | e::r,i,hp,h=>by
  rw [idxE] at h;cases hp with
  | cons hpe hpr =>
  by_cases hk:k=e.k
  ·rw [if_pos hk] at h;cases h;rw [List.eraseIdx_cons_zero,List.filter_cons,if_neg (by simp [hk])];refine (List.filter_eq_self.2 fun x hx=>?_).symm;have:=hpe x hx;simp only [bne_iff_ne,ne_eq];rw [hk];exact fun e=>this e.symm
  ·rw [if_neg hk] at h;obtain ⟨p,hp',e'⟩:=map_eq_some_iff.1 h;cases e';rw [List.eraseIdx_cons_succ,List.filter_cons,if_pos (by simpa using fun e=>hk e.symm),q6s (E:=r) (i:=p.1) hpr (by rw [hp'])]
theorem za6 {k:Int} {E:List (Ent V)} (h:idxE E k=none):E.filter (fun e=>e.k !=k)=E:=List.filter_eq_self.2 fun x hx=>by simpa using quh h x hx
section
variable {P:Program} {t kt et:TypeId} {w:World} {r:Nat} {E:List (Ent V)} {clock:Nat}
theorem qez (hk:P.underlying kt=some (.int .i64)) (b:Bool) (k:Int):(Instr.checkKey b 10000 kt (.int .i64 k)).run P w=.ok () w:=by
 show (Instr.checkKey b (9999+1) kt (.int .i64 k)).run P w=_;rw [Instr.checkKey];simp only [Sem.run_bind,run_underlying hk,Result.andThen_ok,Sem.run_pure]
theorem qdu {es:Array MapEntry} (h:w.heap[r]?=some (.map es clock)):(getObj r).run P w=.ok (.map es clock) w:=by simp [getObj,Sem.run,h]
theorem qrz {es:Array MapEntry} (o:Obj) (h:w.heap[r]?=some (.map es clock)):(setObj r o).run P w=.ok () (putM w r o):=by simp [setObj,Sem.run,h,putM]
theorem qpo (hk:P.underlying kt=some (.int .i64)) (k:Int):(Instr.findKey kt (.int .i64 k) (E.map (Ent.val enc))).run P w=.ok ((idxE E k).map fun p=>(p.1,enc p.2)) w:=by
 have:=q2o (enc:=enc) k E 0;simp only [Nat.zero_add] at this;simp [Instr.findKey,run_underlying hk,this]
theorem MapE.lookup (h:MapE enc w r E clock) (ht:P.underlying t=some (.map kt et)) (hk:P.underlying kt=some (.int .i64)) {z:Value} (hz:∀w,(zeroValue et).run P w=.ok z w) (k:Int) :
  (Instr.lookup t (.map (some r)) (.int .i64 k) false).run P w=.ok (((idxE E k).map fun p=>enc p.2).getD z) w:=by
 have hf:=qpo (P:=P) (kt:=kt) (w:=w) (enc:=enc) (E:=E) hk k;cases hi:idxE E k with
 | none =>
  rw [hi] at hf;simp [Instr.lookup,run_underlying ht,qdu h.heap,qez hk,hf,hz]
 | some p =>
  rw [hi] at hf;simp [Instr.lookup,run_underlying ht,qdu h.heap,qez hk,hf]
theorem MapE.lookup_ok (h:MapE enc w r E clock) (ht:P.underlying t=some (.map kt et)) (hk:P.underlying kt=some (.int .i64)) {z:Value} (hz:∀w,(zeroValue et).run P w=.ok z w) (k:Int) :
  (Instr.lookup t (.map (some r)) (.int .i64 k) true).run P w=.ok (.tuple #[((idxE E k).map fun p=>enc p.2).getD z,.bool (idxE E k).isSome]) w:=by
 have hf:=qpo (P:=P) (kt:=kt) (w:=w) (enc:=enc) (E:=E) hk k;cases hi:idxE E k with
 | none =>
  rw [hi] at hf;simp [Instr.lookup,run_underlying ht,qdu h.heap,qez hk,hf,hz]
 | some p =>
  rw [hi] at hf;simp [Instr.lookup,run_underlying ht,qdu h.heap,qez hk,hf]
end
end
section
variable {V:Type} {enc:V->Value} {P:Program} {t kt et:TypeId} {w:World} {r:Nat} {L:List (Int×V)}
theorem q6l {E:List (Ent V)} (hp:(pairs E).Perm L):E.length=L.length:=by rw [<-hp.length_eq];simp [pairs]
theorem MapM.lookup (h:MapM enc w r L) (ht:P.underlying t=some (.map kt et)) (hk:P.underlying kt=some (.int .i64)) {z:Value} (hz:∀w,(zeroValue et).run P w=.ok z w) (k:Int) :
  (Instr.lookup t (.map (some r)) (.int .i64 k) false).run P w=.ok (((lookL L k).map enc).getD z) w:=by
 obtain ⟨E,c,hE,hp,hs⟩:=h;rw [hE.lookup ht hk hz k,<-q6w hp hs k];simp only [Option.map_map];rfl
theorem MapM.lookup_ok (h:MapM enc w r L) (ht:P.underlying t=some (.map kt et)) (hk:P.underlying kt=some (.int .i64)) {z:Value} (hz:∀w,(zeroValue et).run P w=.ok z w) (k:Int) :
  (Instr.lookup t (.map (some r)) (.int .i64 k) true).run P w=.ok (.tuple #[((lookL L k).map enc).getD z,.bool (lookL L k).isSome]) w:=by
 obtain ⟨E,c,hE,hp,hs⟩:=h;rw [hE.lookup_ok ht hk hz k,<-q6w hp hs k];simp only [Option.map_map,Option.isSome_map];rfl
theorem MapM.srt (h:MapM enc w r L):Srt L:=by obtain ⟨_,_,_,_,hs⟩:=h;exact hs
theorem MapM.update (h:MapM enc w r L) (ht:P.underlying t=some (.map kt et)) (hk:P.underlying kt=some (.int .i64)) {k:Int} (hk1:-9223372036854775808<=k/\k<=9223372036854775807) (v:V) :
  ∃w',(Instr.mapUpdate t (.map (some r)) (.int .i64 k) (enc v)).run P w=.ok () w'/\MapM enc w' r (putL' L k v)/\Chg (fun k=>k=r) w w'/\w'.heap.size=w.heap.size:=by
 obtain ⟨E,c,hE,hp,hs⟩:=h;have hf:=qpo (P:=P) (kt:=kt) (w:=w) (enc:=enc) (E:=E) hk k;have hkeys:∀{E':List (Ent V)},(∀a b,(a,b)∈pairs E'↔(a=k/\b=v)\/(a≠k/\(a,b)∈pairs E))->(E'.Pairwise fun x y=>x.k≠y.k)->(pairs E').Perm (putL' L k v):=fun {E'} hm hk' =>
  (List.perm_ext_iff_of_nodup (zah hk') (qte hs k v).nodup).2 fun p=>by
   obtain ⟨a,b⟩:=p;rw [hm a b,qh2 hs k v a b,hp.mem_iff]
 cases hi:idxE E k with
 | none =>
  rw [hi] at hf;have hno:=quh hi;refine ⟨putM w r (.map ((E++[(⟨k,v,c⟩:Ent V)]).map (Ent.val enc)).toArray (c+1)),?_,⟨E++[(⟨k,v,c⟩:Ent V)],c+1,⟨q0p _ hE.lt_heap,?_,?_,?_,?_⟩,hkeys (fun a b=>?_) ?_,qte hs k v⟩,qxw _ _ _,que _ _ _⟩
  ·have hpush:(E.map (Ent.val enc)).toArray.push { key:=.int .i64 k,val:=enc v,born:=c }=((E++[(⟨k,v,c⟩:Ent V)]).map (Ent.val enc)).toArray:=by simp [Ent.val]
   rw [<-hpush];simp [Instr.mapUpdate,run_underlying ht,qdu hE.heap,qez hk,hf,qrz _ hE.heap]
  ·refine List.pairwise_append.2 ⟨hE.keys,List.pairwise_singleton _ _,fun x hx y hy=>?_⟩;rw [mem_singleton] at hy;subst hy;exact hno x hx
  ·refine List.pairwise_append.2 ⟨hE.stamps,List.pairwise_singleton _ _,fun x hx y hy=>?_⟩;rw [mem_singleton] at hy;subst hy;exact hE.lt x hx
  ·intro e he;rcases mem_append.1 he with he | he
   ·have:=hE.lt e he;omega
   ·rw [mem_singleton] at he;subst he;exact Nat.lt_succ_self _
  ·intro e he;rcases mem_append.1 he with he | he
   ·exact hE.wf e he
   ·rw [mem_singleton] at he;subst he;exact hk1
  ·have e1:pairs (E++[(⟨k,v,c⟩:Ent V)])=pairs E++[(k,v)]:=by simp [pairs]
   rw [e1,mem_append,mem_singleton,Prod.mk.injEq];constructor
   ·rintro (h | h)
    ·refine .inr ⟨fun e=>?_,h⟩;obtain ⟨x,hx,ex⟩:=mem_map.1 h;exact hno x hx (by rw [<-e];exact congrArg Prod.fst ex)
    ·exact .inl h
   ·rintro (h | ⟨_,h⟩)
    ·exact .inr h
    ·exact .inl h
  ·refine List.pairwise_append.2 ⟨hE.keys,List.pairwise_singleton _ _,fun x hx y hy=>?_⟩;rw [mem_singleton] at hy;subst hy;exact hno x hx
 | some p =>
  obtain ⟨i,v0⟩:=p;rw [hi] at hf;obtain ⟨e,he,hek,hev⟩:=q0b hi;have hil:i<E.length:=(List.getElem?_eq_some_iff.1 he).1;have hm:=q9j (v:=v) hE.keys hi;have hmod:∀{Q:Ent V->Prop},(∀x∈E,Q x->Q { x with v:=v })->(∀x∈E,Q x)->∀x∈setE E i v,Q x:=fun {Q} h1 h2 x hx=>by
   unfold setE at hx;obtain ⟨j,hj⟩:=List.getElem?_of_mem hx;rw [List.getElem?_modify] at hj;obtain ⟨y,hy,hxy⟩:=map_eq_some_iff.1 hj;have hym:=List.mem_of_getElem? hy;by_cases hij:i=j
   ·rw [if_pos hij] at hxy;rw [<-hxy];exact h1 y hym (h2 y hym)
   ·rw [if_neg hij] at hxy;rw [<-hxy];exact h2 y hym
  have hmap:∀{A:Type} (f:Ent V->A),(∀x,f { x with v:=v }=f x)->(setE E i v).map f=E.map f:=fun {A} f hf'=>by
   refine List.ext_getElem? fun j=>?_;unfold setE;rw [List.getElem?_map,List.getElem?_modify,List.getElem?_map];cases E[j]? with
   | none=>rfl
   | some x =>
    show some (f (if i=j then { x with v:=v } else x))=some (f x);by_cases hij:i=j
    ·rw [if_pos hij,hf' x]
    ·rw [if_neg hij]
  have hks:(setE E i v).Pairwise fun x y=>x.k≠y.k:=by
   have h1:=hE.keys;rw [<-List.pairwise_map (f:=fun e:Ent V=>e.k) (R:=fun a b=>a≠b)] at h1 ⊢
   rwa [hmap (fun e=>e.k) (fun _=>rfl)]
  have hst:(setE E i v).Pairwise fun x y=>x.b<y.b:=by
   have h1:=hE.stamps;rw [<-List.pairwise_map (f:=fun e:Ent V=>e.b) (R:=fun a b=>a<b)] at h1 ⊢
   rwa [hmap (fun e=>e.b) (fun _=>rfl)]
  have harr:(E.map (Ent.val enc)).toArray.modify i (fun x=>{ x with key:=.int .i64 k,val:=enc v })=((setE E i v).map (Ent.val enc)).toArray:=by
   apply Array.ext';refine List.ext_getElem? fun j=>?_;rw [Array.getElem?_toList,Array.getElem?_modify];unfold setE;rw [List.getElem?_toArray,List.getElem?_map,List.getElem?_map,List.getElem?_modify];by_cases hij:i=j
   ·subst hij;rw [if_pos rfl,he];show some _=some (Ent.val enc (if i=i then { e with v:=v } else e));rw [if_pos rfl];simp [Ent.val,hek]
   ·rw [if_neg hij];cases E[j]? with
    | none=>rfl
    | some x=>show some (Ent.val enc x)=some (Ent.val enc (if i=j then { x with v:=v } else x));rw [if_neg hij]
  refine ⟨putM w r (.map ((setE E i v).map (Ent.val enc)).toArray c),?_,⟨setE E i v,c,⟨q0p _ hE.lt_heap,hks,hst,hmod (Q:=fun e=>e.b<c) (fun _ _ h=>h) hE.lt,hmod (Q:=fun e=>-9223372036854775808<=e.k/\e.k<=9223372036854775807) (fun _ _ h=>h) hE.wf⟩,hkeys hm hks,qte hs k v⟩,qxw _ _ _,que _ _ _⟩;have hold:((((E.map (Ent.val enc)).toArray[i]?).map (·.key)).getD (.int .i64 k))=.int .i64 k:=by
   rw [List.getElem?_toArray,List.getElem?_map,he];show Value.int .i64 e.k=_;rw [hek]
  have hstay:(Instr.keyThatStays (.int .i64 k) (.int .i64 k)).run P w=.ok (.int .i64 k) w:=by
   unfold Instr.keyThatStays;have:Instr.sameBits 10000 (.int .i64 k) (.int .i64 k)=true:=by
    show Instr.sameBits (9999+1) (.int .i64 k) (.int .i64 k)=true;rw [Instr.sameBits];simp
   rw [if_pos this];rfl
  rw [<-harr];unfold Instr.mapUpdate;simp only [Sem.run_bind,run_underlying ht,Result.andThen_ok,qdu hE.heap,qez hk,hf,hold,hstay,Option.map_some];exact qrz _ hE.heap
theorem qy7 {A B:Type} (f:A->B):∀(l:List A) (i:Nat),(l.map f).eraseIdx i=(l.eraseIdx i).map f
 | [],_=>rfl
 | _::_,0=>rfl
 | a::l,i+1=>by simp [List.eraseIdx,qy7 f l i]
theorem MapM.delete (h:MapM enc w r L) (ht:P.underlying t=some (.map kt et)) (hk:P.underlying kt=some (.int .i64)) (k:Int) (ty:TypeId) :
  ∃w',(Builtin.delete_ #[t,kt] ty #[.map (some r),.int .i64 k]).run P w=.ok (.tuple #[]) w'/\MapM enc w' r (delL L k)/\Chg (fun k=>k=r) w w'/\w'.heap.size=w.heap.size:=by
 obtain ⟨E,c,hE,hp,hs⟩:=h;have hf:=qpo (P:=P) (kt:=kt) (w:=w) (enc:=enc) (E:=E) hk k;have hfil:MapM enc (putM w r (.map ((E.filter fun e=>e.k !=k).map (Ent.val enc)).toArray c)) r (delL L k):=by
  refine ⟨E.filter fun e=>e.k !=k,c,⟨q0p _ hE.lt_heap,hE.keys.filter _,hE.stamps.filter _,fun e he=>hE.lt e ((List.mem_filter.1 he).1),fun e he=>hE.wf e ((List.mem_filter.1 he).1)⟩,?_,q3c hs k⟩;have e1:pairs (E.filter fun e=>e.k !=k)=(pairs E).filter fun p=>p.1 !=k:=by
   unfold pairs;rw [List.filter_map];rfl
  rw [e1];exact hp.filter _
 cases hi:idxE E k with
 | none =>
  rw [hi] at hf;rw [za6 hi] at hfil;refine ⟨_,?_,hfil,qxw _ _ _,que _ _ _⟩;simp [Builtin.delete_,run_underlying ht,qdu hE.heap,qez hk,hf,qrz _ hE.heap]
 | some p =>
  obtain ⟨i,v0⟩:=p;rw [hi] at hf;rw [<-q6s hE.keys hi] at hfil;refine ⟨_,?_,hfil,qxw _ _ _,que _ _ _⟩;have harr:(E.map (Ent.val enc)).toArray.eraseIdxIfInBounds i=((E.eraseIdx i).map (Ent.val enc)).toArray:=by
   simp [qy7]
  rw [<-harr];simp [Builtin.delete_,run_underlying ht,qdu hE.heap,qez hk,hf,qrz _ hE.heap]
theorem MapM.len (h:MapM enc w r L) (ht:P.underlying t=some (.map kt et)) (ty:TypeId):(Builtin.len_ #[t] ty #[.map (some r)]).run P w=.ok (.int .i64 (L.length:Int)) w:=by
 obtain ⟨E,c,hE,hp,hs⟩:=h;rw [<-q6l hp];simp [Builtin.len_,run_underlying ht,qdu hE.heap]
 try rfl
end
end Go.Vc
set_option maxRecDepth 100000
namespace Go.Proofs
open Go.RowKit Go.Maps Go.Sort Go.Shelf Go.Vc
open _root_.List (map_map)
def Tryz.keysA_ren:Go.Shelf.Ren:=⟨fun | 7=>44 | 10=>78 | n=>n,fun | 23=>98 | 26=>3 | 3=>100 | 28=>96 | 0=>0 | 27=>95 | 33=>67 | 4=>4 | n=>n,fun | n=>n⟩
theorem Tryz.keysA:Go.Proofs.SlLaysZI.n7 Tryz.prog Tryz.keysA_ren:={
 mixed:=by kernel_rfl
 f7:=⟨Tryz.f44.name,by decide,Tryz.func44.trans (congrArg some (by kernel_rfl))⟩
 f10:=⟨Tryz.f78.name,by decide,Tryz.func78.trans (congrArg some (by kernel_rfl))⟩
 t0:=Tryz.underlying0
 a0:=Tryz.isAgg0
 z0:=Tryz.sizeOf0
 v0:=Tryz.zeroValue0
 t4:=Tryz.underlying4
 a4:=Tryz.isAgg4
 z4:=Tryz.sizeOf4
 v4:=Tryz.zeroValue4
 t23:=Tryz.underlying98
 a23:=Tryz.isAgg98
 z23:=Tryz.sizeOf98
 v23:=Tryz.zeroValue98
 t26:=Tryz.underlying3
 a26:=Tryz.isAgg3
 z26:=Tryz.sizeOf3
 v26:=Tryz.zeroValue3
 t27:=Tryz.underlying95
 a27:=Tryz.isAgg95
 z27:=Tryz.sizeOf95
 v27:=Tryz.zeroValue95
 t28:=Tryz.underlying96
 a28:=Tryz.isAgg96
 z28:=Tryz.sizeOf96
 v28:=Tryz.zeroValue96
 t33:=Tryz.underlying67
 a33:=Tryz.isAgg67
 z33:=Tryz.sizeOf67
 v33:=Tryz.zeroValue67 }
def Tryz.sortedA_ren:Go.Shelf.Ren:=⟨fun | 6=>43 | 8=>76 | 9=>77 | 11=>112 | 13=>114 | 12=>113 | 23=>154 | 24=>155 | 14=>145 | 15=>146 | 16=>147 | 17=>148 | 18=>149 | 19=>150 | 20=>151 | 21=>152 | 22=>153 | 25=>177 | 26=>178 | 27=>179 | 28=>180 | 29=>181 | 30=>182 | 31=>202 | n=>n,fun | 26=>3 | 28=>96 | 24=>49 | 0=>0 | 3=>3 | 37=>175 | 48=>189 | 50=>218 | 4=>4 | 40=>211 | 39=>210 | 45=>125 | 5=>5 | 9=>9 | 51=>232 | 55=>156 | 57=>256 | 58=>23 | 33=>67 | n=>n,fun | n=>n⟩
theorem Tryz.sortedA:Go.Proofs.SlLaysZI.n6 Tryz.prog Tryz.sortedA_ren:={
 mixed:=by kernel_rfl
 f6:=⟨Tryz.f43.name,by decide,Tryz.func43.trans (congrArg some (by kernel_rfl))⟩
 f8:=⟨Tryz.f76.name,by decide,Tryz.func76.trans (congrArg some (by kernel_rfl))⟩
 f11:=⟨Tryz.f112.name,by decide,Tryz.func112.trans (congrArg some (by kernel_rfl))⟩
 t0:=Tryz.underlying0
 a0:=Tryz.isAgg0
 z0:=Tryz.sizeOf0
 v0:=Tryz.zeroValue0
 t24:=Tryz.underlying49
 a24:=Tryz.isAgg49
 z24:=Tryz.sizeOf49
 v24:=Tryz.zeroValue49
 t26:=Tryz.underlying3
 a26:=Tryz.isAgg3
 z26:=Tryz.sizeOf3
 v26:=Tryz.zeroValue3
 t28:=Tryz.underlying96
 a28:=Tryz.isAgg96
 z28:=Tryz.sizeOf96
 v28:=Tryz.zeroValue96
 i26:=by kernel_rfl }
def Tryz.sortA_ren:Go.Shelf.Ren:=⟨fun | 5=>77 | 8=>114 | 7=>113 | 19=>154 | 20=>155 | 10=>145 | 11=>146 | 12=>147 | 13=>148 | 14=>149 | 15=>150 | 16=>151 | 17=>152 | 18=>153 | 30=>177 | 31=>178 | 32=>179 | 33=>180 | 34=>181 | 35=>182 | 40=>202 | n=>n,fun | 23=>49 | 25=>3 | 3=>3 | 32=>175 | 22=>49 | 0=>0 | 44=>189 | 46=>218 | 4=>4 | 36=>211 | 35=>210 | 41=>125 | 5=>5 | 9=>9 | 53=>232 | 57=>156 | 63=>256 | 64=>23 | n=>n,fun | n=>n⟩
theorem Tryz.sortA:Go.Proofs.SlLaysM.n5 Tryz.prog Tryz.sortA_ren:={
 mixed:=by kernel_rfl
 f5:=⟨Tryz.f77.name,by decide,Tryz.func77.trans (congrArg some (by kernel_rfl))⟩
 f7:=⟨Tryz.f113.name,by decide,Tryz.func113.trans (congrArg some (by kernel_rfl))⟩
 f8:=Tryz.func114.trans (congrArg some (by kernel_rfl))
 f10:=⟨Tryz.f145.name,by decide,Tryz.func145.trans (congrArg some (by kernel_rfl))⟩
 f11:=⟨Tryz.f146.name,by decide,Tryz.func146.trans (congrArg some (by kernel_rfl))⟩
 f12:=⟨Tryz.f147.name,by decide,Tryz.func147.trans (congrArg some (by kernel_rfl))⟩
 f13:=⟨Tryz.f148.name,by decide,Tryz.func148.trans (congrArg some (by kernel_rfl))⟩
 f14:=⟨Tryz.f149.name,by decide,Tryz.func149.trans (congrArg some (by kernel_rfl))⟩
 f15:=⟨Tryz.f150.name,by decide,Tryz.func150.trans (congrArg some (by kernel_rfl))⟩
 f16:=⟨Tryz.f151.name,by decide,Tryz.func151.trans (congrArg some (by kernel_rfl))⟩
 f17:=⟨Tryz.f152.name,by decide,Tryz.func152.trans (congrArg some (by kernel_rfl))⟩
 f18:=⟨Tryz.f153.name,by decide,Tryz.func153.trans (congrArg some (by kernel_rfl))⟩
 f19:=Tryz.func154.trans (congrArg some (by kernel_rfl))
 f20:=Tryz.func155.trans (congrArg some (by kernel_rfl))
 f30:=⟨Tryz.f177.name,by decide,Tryz.func177.trans (congrArg some (by kernel_rfl))⟩
 f31:=Tryz.func178.trans (congrArg some (by kernel_rfl))
 f32:=Tryz.func179.trans (congrArg some (by kernel_rfl))
 f33:=⟨Tryz.f180.name,by decide,Tryz.func180.trans (congrArg some (by kernel_rfl))⟩
 f34:=⟨Tryz.f181.name,by decide,Tryz.func181.trans (congrArg some (by kernel_rfl))⟩
 f35:=⟨Tryz.f182.name,by decide,Tryz.func182.trans (congrArg some (by kernel_rfl))⟩
 f40:=⟨Tryz.f202.name,by decide,Tryz.func202.trans (congrArg some (by kernel_rfl))⟩
 t0:=Tryz.underlying0
 a0:=Tryz.isAgg0
 z0:=Tryz.sizeOf0
 v0:=Tryz.zeroValue0
 t3:=Tryz.underlying3
 a3:=Tryz.isAgg3
 z3:=Tryz.sizeOf3
 v3:=Tryz.zeroValue3
 t4:=Tryz.underlying4
 a4:=Tryz.isAgg4
 z4:=Tryz.sizeOf4
 v4:=Tryz.zeroValue4
 t5:=Tryz.underlying5
 a5:=Tryz.isAgg5
 z5:=Tryz.sizeOf5
 v5:=Tryz.zeroValue5
 t9:=Tryz.underlying9
 a9:=Tryz.isAgg9
 z9:=Tryz.sizeOf9
 v9:=Tryz.zeroValue9
 t22:=Tryz.underlying49
 a22:=Tryz.isAgg49
 z22:=Tryz.sizeOf49
 v22:=Tryz.zeroValue49
 t23:=Tryz.underlying49
 a23:=Tryz.isAgg49
 z23:=Tryz.sizeOf49
 v23:=Tryz.zeroValue49
 t25:=Tryz.underlying3
 a25:=Tryz.isAgg3
 z25:=Tryz.sizeOf3
 v25:=Tryz.zeroValue3
 t32:=Tryz.underlying175
 a32:=Tryz.isAgg175
 z32:=Tryz.sizeOf175
 v32:=Tryz.zeroValue175
 t35:=Tryz.underlying210
 a35:=Tryz.isAgg210
 z35:=Tryz.sizeOf210
 v35:=Tryz.zeroValue210
 t36:=Tryz.underlying211
 a36:=Tryz.isAgg211
 z36:=Tryz.sizeOf211
 v36:=Tryz.zeroValue211
 t41:=Tryz.underlying125
 a41:=Tryz.isAgg125
 z41:=Tryz.sizeOf125
 v41:=Tryz.zeroValue125
 t44:=Tryz.underlying189
 a44:=Tryz.isAgg189
 z44:=Tryz.sizeOf189
 v44:=Tryz.zeroValue189
 t46:=Tryz.underlying218
 a46:=Tryz.isAgg218
 z46:=Tryz.sizeOf218
 v46:=Tryz.zeroValue218
 t53:=Tryz.underlying232
 a53:=Tryz.isAgg232
 z53:=Tryz.sizeOf232
 v53:=Tryz.zeroValue232
 t57:=Tryz.underlying156
 a57:=Tryz.isAgg156
 z57:=Tryz.sizeOf156
 v57:=Tryz.zeroValue156
 t63:=Tryz.underlying256
 a63:=Tryz.isAgg256
 z63:=Tryz.sizeOf256
 v63:=Tryz.zeroValue256
 t64:=Tryz.underlying23
 a64:=Tryz.isAgg23
 z64:=Tryz.sizeOf23
 v64:=Tryz.zeroValue23 }
theorem Tryz.sortsA (m:Nat):AnyZI.SortsIn Tryz.prog Tryz.sortedA_ren Fence.wide m :=
 ⟨fun blk off cap ss W hH hblk hsz=>callsIn_wide.2 (AnyM.slices_Sort_int Tryz.sortA blk off cap ss W hH hblk hsz),
  fun p cap W=>callsIn_wide.2 (AnyM.slices_Sort_int_none Tryz.sortA p cap W)⟩
namespace YtedcpbkcamckoaaGreatDoor
section
variable {V:Type} {enc:V->Value} {w:World} {r:Nat} {L:List (Int×V)}
def q4z:Value->Option (DataW Unit×List MemPlace):=fun _=>some (.nil,[])
theorem zgs {c:Nat} {E:List (Ent V)} (hE:MapE enc w r E c) {e:Ent V} (he:e∈E):WideElems.rd Tryz.prog 3 q4z (Ent.val enc e)=some (.int .i64 e.k,.nil):=by
 have h1:=keyOf_int_mk (P:=Tryz.prog) (k:=3) (q:=.i64) Tryz.underlying3 (a:=e.k) (by
  have:=hE.wf e he;simp [Lit.wf,IntKind.min,IntKind.max,IntKind.signed,IntKind.bits];omega)
 unfold WideElems.rd;show (keyOf Tryz.prog 3 (.int .i64 e.k)).bind _=_;rw [h1];rfl
theorem zjw {c:Nat} {E:List (Ent V)} (hE:MapE enc w r E c) (hl:E.length<=maxLen) :
  ∃D0:DataW Unit,w.ownsMap Tryz.prog 3 q4z r E.length D0/\Maps.size D0=E.length/\(intKeys D0).Perm (E.map (·.k)):=by
 have hmap:(E.map (Ent.val enc)).map (WideElems.rg Tryz.prog 3 q4z)=E.map fun e=>(Lit.int .i64 e.k,(.nil:DataW Unit)):=by
  rw [map_map];refine List.map_congr_left fun e he=>?_;show (WideElems.rd Tryz.prog 3 q4z (Ent.val enc e)).getD _=_;rw [zgs hE he];rfl
 refine ⟨_,⟨_,c,hE.heap,⟨by simpa using hl,⟨?_,?_,?_⟩,?_⟩,by simp,rfl⟩,?_,?_⟩
 ·intro x hx;obtain ⟨e,he,rfl⟩:=List.mem_map.1 hx;exact hE.lt e he
 ·rw [List.toList_toArray,map_map];exact List.pairwise_map.2 (hE.stamps.imp fun {a b} h (e:a.b=b.b)=>by rw [e] at h;exact Nat.lt_irrefl _ h)
 ·rw [List.toList_toArray,map_map];exact List.pairwise_map.2 (hE.keys.imp fun {a b} h (e:Value.int .i64 a.k=.int .i64 b.k)=>h (by injection e))
 ·intro x hx;obtain ⟨e,he,rfl⟩:=List.mem_map.1 hx;exact ⟨_,zgs hE he⟩
 ·show (List.foldr DataW.insert [] _).length=_;rw [List.toList_toArray,hmap,(Go.WideShapes.sorted_perm _).length_eq,List.length_map]
 ·show (List.map (fun p:Lit×DataW Unit=>Go.intOf p.fst) (List.foldr DataW.insert [] _)).Perm _;rw [List.toList_toArray,hmap];refine ((Go.WideShapes.sorted_perm _).map _).trans ?_;rw [map_map];exact .refl _
theorem q69 (hM:MapM enc w r L) (hl:L.length<=maxLen) {B:Nat} (hB:w.cell? ⟨B,0,none⟩=some (.map (some r))) (n:Nat) (hn:1<=n) :
  SeqGives Fence.wide n Tryz.prog 78 #[.pointer (some ⟨B,0,none⟩)] encZ (fun ss=>ss.Perm (L.map (·.1))) L.length w:=by
 obtain ⟨E,c,hE,hp,hs⟩:=hM;have hlen:=q6l hp;obtain ⟨D0,hD,hsz,hpk⟩:=zjw hE (by omega);have hBl:B<w.heap.size:=by
  unfold World.cell? at hB;cases h:w.heap[B]? with
  | none=>rw [h] at hB;cases hB
  | some o=>exact (Array.getElem?_eq_some_iff.1 h).1
 have h:=AnyZI.keys_gives (ρ:=Tryz.keysA_ren) { Tryz.keysA with } Fence.wide n trivial rfl hn B r E.length D0 w hBl hB hD;rw [hsz,hlen] at h;have hpp:(E.map (·.k)).Perm (L.map (·.1)):=by
  have:=hp.map (·.1);unfold pairs at this
  rwa [map_map] at this
 intro l J W hW hJ hY h0;refine (h l J W hW hJ hY h0).mono ?_;rintro e W' ⟨hv,xs,hxs,hJx⟩;exact ⟨hv,xs,(hxs.trans hpk).trans hpp,hJx⟩
theorem q6m {m:Option Nat} {w:World} {K:Value->World->Prop}
  (hK:K (.func (.func 78) #[] #[.pointer (some ⟨w.heap.size,0,none⟩)]) (w.alloc (.cells #[.map m] 98))):qb3 m w K:=by
 have h:=callsIn_wide.1 (AnyZI.keys_in Tryz.keysA Fence.wide 5 trivial rfl m w);refine Calls.mono (R:=fun e w'=>e=.returned (.func (.func 78) #[] #[.pointer (some ⟨w.heap.size,0,none⟩)])/\w'=w.alloc (.cells #[.map m] 98)) h ?_;rintro e w' ⟨rfl,rfl⟩;exact ⟨_,rfl,hK⟩
theorem zis {ss:List Int} (hs:Srt L) (hp:ss.Perm (L.map (·.1))):ss.mergeSort (fun x y=>decide (x<=y))=L.map (·.1):=by
 have h1:(ss.mergeSort fun x y=>decide (x<=y)).Pairwise fun x y=>x<=y:=by
  have:=List.pairwise_mergeSort (le:=fun x y:Int=>decide (x<=y)) (fun a b c h1 h2=>by simp only [decide_eq_true_eq] at *;omega) (fun a b=>by simp only [Bool.or_eq_true,decide_eq_true_eq];omega) ss;exact this.imp fun h=>by simpa using h
 have h2:(L.map (·.1)).Pairwise fun x y=>x<=y:=List.pairwise_map.2 (hs.imp fun h=>Int.le_of_lt h);exact ((List.mergeSort_perm ss _).trans hp).eq_of_pairwise (fun a b _ _ h1 h2=>Int.le_antisymm h1 h2) h1 h2
theorem q88:∀xs:List Int,flat E_int xs=xs.map encZ
 | []=>rfl
 | x::xs=>by
  have ih:=q88 xs;unfold flat at ih ⊢;rw [List.flatMap_cons,ih,List.map_cons];rfl
theorem q4u {w:World} {base:Nat} {v:Value} {xs:List Int} (h:w.ownsRow base 3 1 v xs.length (xs.map encZ)):∃q:Slc,v=.slice q.a q.n q.c/\Go.Vc.Own E_int w base q xs:=by
 have hf:=q88 xs;have hv:∃q:Slc,v=.slice q.a q.n q.c:=by
  rcases h.2 with ⟨rfl,_⟩ | ⟨g,cap,cur,rfl,_⟩
  ·exact ⟨⟨none,0,0⟩,rfl⟩
  ·exact ⟨⟨_,_,_⟩,rfl⟩
 obtain ⟨q,rfl⟩:=hv;refine ⟨q,rfl,?_⟩;unfold Go.Vc.Own;rw [hf];exact h
theorem q98 {B:Nat} {K:Slc->World->Prop} (hM:MapM enc w r L) (hl:L.length<=1000000) (hB:w.cell? ⟨B,0,none⟩=some (.map (some r)))
  (hK:∀q w',Go.Vc.Own E_int w' w.heap.size q (L.map (·.1))->Below w.heap.size w w'->K q w'):qox (.func (.func 78) #[] #[.pointer (some ⟨B,0,none⟩)]) w K:=by
 have h:=callsIn_wide.1 (AnyZI.sorted_in Tryz.sortedA Fence.wide 5 trivial trivial trivial trivial rfl (by omega) (Tryz.sortsA _) (enters_of Tryz.func77 (by kernel_rfl) rfl) 78 #[.pointer (some ⟨B,0,none⟩)] trivial (enters_of Tryz.func78 (by kernel_rfl) rfl) _ L.length (by unfold maxLen;omega) (by omega) w (q69 hM (by unfold maxLen;omega) hB 2 (by omega)));refine Calls.mono h ?_;rintro e w' ⟨v,ss,rfl,hS,hrow,_,hb⟩;rw [zis hM.srt hS] at hrow;rw [show ss.length=(L.map (·.1)).length from hS.length_eq] at hrow;obtain ⟨q,rfl,hq⟩:=q4u hrow;exact ⟨q,rfl,hK q w' hq hb⟩
theorem q89 {B:Nat} {K:Slc->World->Prop} (hM:MapM enc w r L) (hl:L.length<=1000000) (hB:w.cell? ⟨B,0,none⟩=some (.map (some r)))
  (hK:∀q w' ss,ss.Perm (L.map (·.1))->Go.Vc.Own E_int w' w.heap.size q ss->Below w.heap.size w w'->K q w'):qnj (.func (.func 78) #[] #[.pointer (some ⟨B,0,none⟩)]) w K:=by
 have h:=callsIn_wide.1 (AnyZI.collect_in (ρ:=Tryz.sortedA_ren) { Tryz.sortedA with } Fence.wide 5 trivial trivial rfl (by omega) 78 #[.pointer (some ⟨B,0,none⟩)] trivial (enters_of Tryz.func78 (by kernel_rfl) rfl) _ L.length (by unfold maxLen;omega) (by omega) w (q69 hM (by unfold maxLen;omega) hB 3 (by omega)));refine Calls.mono h ?_;rintro e w' ⟨v,ss,rfl,hS,hrow,_,hb⟩;obtain ⟨q,rfl,hq⟩:=q4u hrow;exact ⟨q,rfl,hK q w' ss hS hq hb⟩
end
end YtedcpbkcamckoaaGreatDoor
end Go.Proofs
namespace Go.Vc
open Go.RowKit
open Go.ChangeMaps (setBlock)
open _root_.List (mem_cons mem_filter mem_map)
open _root_.Nat (le_refl)
section
variable {V:Type} (enc:V->Value)
def MapI (w:World) (r it:Nat) (L todo:List (Int×V)):Prop :=
 ∃E c since seen c0,MapE enc w r E c/\(pairs E).Perm L/\Srt L/\w.heap[it]?=some (.mapIter (some r) since seen c0)/\(∀e∈E,e.b<since)/\since<=c0/\since<=c /\
  (pairs (E.filter fun e=>!seen.contains e.b)).Perm todo
variable {enc}
variable {P:Program} {t kt et:TypeId} {w:World} {r it:Nat} {L todo:List (Int×V)}
theorem MapI.map (h:MapI enc w r it L todo):MapM enc w r L:=by
 obtain ⟨E,c,_,_,_,h1,h2,h3,_⟩:=h;exact ⟨E,c,h1,h2,h3⟩
theorem MapI.keep {w':World} (h:MapI enc w r it L todo) (hr:w'.heap[r]?=w.heap[r]?) (hi:w'.heap[it]?=w.heap[it]?):MapI enc w' r it L todo:=by
 obtain ⟨E,c,since,seen,c0,h1,h2,h3,h4,h5⟩:=h;exact ⟨E,c,since,seen,c0,⟨hr.trans h1.heap,h1.keys,h1.stamps,h1.lt,h1.wf⟩,h2,h3,hi.trans h4,h5⟩
theorem MapI.it_lt (h:MapI enc w r it L todo):it<w.heap.size:=by
 obtain ⟨E,c,since,seen,c0,h1,h2,h3,h4,h5⟩:=h;exact (Array.getElem?_eq_some_iff.1 h4).1
theorem MapI.ext {w':World} (h:MapI enc w r it L todo) (hb:Below w.heap.size w w'):MapI enc w' r it L todo:=h.keep (hb.block r h.map.lt) (hb.block it h.it_lt)
theorem zc7 (hM:MapM enc w r L) (ht:P.underlying t=some (.map kt et)) {K:Addr->World->Prop}
  (hK:∀w',MapI enc w' r w.heap.size L L->Below w.heap.size w w'->w'.heap.size=w.heap.size+1->K ⟨w.heap.size,0,none⟩ w'):q9x P t (.map (some r)) w K:=by
 obtain ⟨E,c,hE,hp,hs⟩:=hM;have hB:Below w.heap.size w (w.alloc (.mapIter (some r) c #[] c)):=(Below.refl _ w).alloc (le_refl _) _;refine ⟨_,w.alloc (.mapIter (some r) c #[] c),?_,hK _ ⟨E,c,c,#[],c,⟨(hB.block r hE.lt_heap).trans hE.heap,hE.keys,hE.stamps,hE.lt,hE.wf⟩,hp,hs,?_,hE.lt,le_refl _,le_refl _,?_⟩ hB (by show (w.heap.push _).size=_;simp)⟩
 ·simp [Instr.range,run_underlying ht,qdu hE.heap,newObj,Sem.run]
 ·show (w.heap.push _)[w.heap.size]?=_;simp
 ·rw [List.filter_eq_self.2 (fun x _=>by simp)];exact hp
theorem q5t {E:List (Ent V)} {seen:Array Nat} {x:MapEntry} (h:x∈(leftOf (E.map (Ent.val enc)).toArray seen).toList):∃e∈E.filter (fun e=>!seen.contains e.b),Ent.val enc e=x:=by
 unfold leftOf at h;rw [Array.toList_filter] at h;obtain ⟨h1,h2⟩:=mem_filter.1 h;obtain ⟨e,he,rfl⟩:=mem_map.1 h1;exact ⟨e,mem_filter.2 ⟨he,h2⟩,rfl⟩
theorem ze4 {E:List (Ent V)} {seen:Array Nat}:(leftOf (E.map (Ent.val enc)).toArray seen).size=(E.filter (fun e=>!seen.contains e.b)).length:=by
 unfold leftOf;rw [<-Array.length_toList,Array.toList_filter,List.filter_map,List.length_map];rfl
theorem q32 {E:List (Ent V)} (h:E.Pairwise fun x y=>x.k≠y.k):E.Nodup:=h.imp fun hab e=>hab (congrArg Ent.k e)
theorem zkd {E:List (Ent V)} (h:E.Pairwise fun x y=>x.b<y.b):∀{x y},x∈E->y∈E->x.b=y.b->x=y:=by
 induction E with
 | nil=>intro x y hx;cases hx
 | cons a E ih =>
  have hp:=List.pairwise_cons.1 h;intro x y hx hy e;rcases mem_cons.1 hx with rfl | hx
  ·rcases mem_cons.1 hy with rfl | hy
   ·rfl
   ·have:=hp.1 y hy;omega
  ·rcases mem_cons.1 hy with e' | hy
   ·rw [e'] at e;have:=hp.1 x hx;omega
   ·exact ih hp.2 hx hy e
theorem zat {E:List (Ent V)} (h1:E.Pairwise fun x y=>x.k≠y.k) (h2:E.Pairwise fun x y=>x.b<y.b) {seen:Array Nat} {e:Ent V} (he:e∈E.filter fun e=>!seen.contains e.b) :
  (E.filter fun x=>!seen.contains x.b).Perm (e::E.filter fun x=>!(seen.push e.b).contains x.b):=by
 have hin:=(mem_filter.1 he).1;have hno:e ∉ E.filter fun x=>!(seen.push e.b).contains x.b:=fun h=>by simp at h
 refine (List.perm_ext_iff_of_nodup ((q32 h1).filter _) (List.nodup_cons.2 ⟨hno,(q32 h1).filter _⟩)).2 fun x=>?_;rw [mem_cons,mem_filter,mem_filter];simp only [Array.contains_eq_mem,Array.mem_push,Bool.not_eq_true',decide_eq_false_iff_not];constructor
 ·rintro ⟨hx,hs⟩;by_cases hxe:x=e
  ·exact .inl hxe
  ·refine .inr ⟨hx,fun h=>?_⟩;rcases h with h | h
   ·exact hs h
   ·exact hxe (zkd h2 hx hin h)
 ·rintro (rfl | ⟨hx,h⟩)
  ·have:=(mem_filter.1 he).2;simp only [Array.contains_eq_mem,Bool.not_eq_true',decide_eq_false_iff_not] at this;exact ⟨hin,this⟩
  ·exact ⟨hx,fun hs=>h (.inl hs)⟩
theorem zfj (hM:MapI enc w r it L todo) (ty:TypeId) {K0:World->Prop} {K1:Value->Value->World->Prop} (h0:todo=[]->K0 w)
  (h1:∀k v w' todo',todo.Perm ((k,v)::todo')->MapI enc w' r it L todo'->Chg (fun i=>i=it) w w'->w'.heap.size=w.heap.size ->
   ((Instr.entry (.pointer (some ⟨it,0,none⟩))).run P w'=.ok (.tuple #[.int .i64 k,enc v]) w')->K1 (.int .i64 k) (enc v) w') :
  nextK P (.pointer (some ⟨it,0,none⟩)) false ty w K0 K1:=by
 obtain ⟨E,c,since,seen,c0,hE,hp,hs,hi,hlt,hsc,hsk,htd⟩:=hM;have hne:it≠r:=by
  rintro rfl;have:=hE.heap;rw [hi] at this;cases this
 rcases run_next_at (P:=P) w ty it r since c0 seen _ c hi hE.heap (fun x hx=>by
   obtain ⟨e,he,rfl⟩:=mem_map.1 hx;exact hlt e he) hsc with ⟨hz,hrun⟩ | ⟨x,hx,w1,hw1,hrun⟩
 ·refine .inl ⟨w,hrun,h0 ?_⟩;rw [ze4] at hz;rw [List.eq_nil_of_length_eq_zero hz] at htd;exact htd.symm.eq_nil
 ·obtain ⟨e,he,rfl⟩:=q5t hx;have hin:=(mem_filter.1 he).1;have hi1:w1.heap[it]?=some (.mapIter (some r) since seen c0):=by rcases hw1 with rfl | rfl<;>exact hi
  have hE1:w1.heap[r]?=some (.map (E.map (Ent.val enc)).toArray c):=by rcases hw1 with rfl | rfl<;>exact hE.heap
  have hsz:w1.heap.size=w.heap.size:=by rcases hw1 with rfl | rfl<;>rfl
  have hset:=Go.MapKept.heap_set (o':=.mapIter (some r) since (seen.push e.b) c) hi1;have hr2:(setBlock w1 it (.mapIter (some r) since (seen.push e.b) c)).heap[r]?=some (.map (E.map (Ent.val enc)).toArray c):=(hset.2 r (fun e1=>hne e1.symm)).trans hE1;have hfp:=zat hE.keys hE.stamps he;refine .inr ⟨.int .i64 e.k,enc e.v,_,hrun,h1 e.k e.v _ (pairs (E.filter fun x=>!(seen.push e.b).contains x.b)) ?_ ⟨E,c,since,seen.push e.b,c,⟨hr2,hE.keys,hE.stamps,hE.lt,hE.wf⟩,hp,hs,hset.1,hlt,hsk,hsk,.refl _⟩ ?_ ?_ ?_⟩
  ·refine htd.symm.trans ?_;exact hfp.map fun e=>(e.k,e.v)
  ·refine ⟨?_,?_,?_,?_,fun k hk hn=>?_⟩
   ·rcases hw1 with rfl | rfl<;>rfl
   ·rcases hw1 with rfl | rfl<;>rfl
   ·rcases hw1 with rfl | rfl<;>rfl
   ·rcases hw1 with rfl | rfl<;>simp [setBlock]
   ·rcases hw1 with rfl | rfl<;>exact hset.2 k hn
  ·rcases hw1 with rfl | rfl<;>simp [setBlock]
  ·refine run_entry_at _ it r since seen _ c (Ent.val enc e) hset.1 hr2 (mem_map.2 ⟨e,hin,rfl⟩) ?_;rw [List.toList_toArray,List.map_map];exact List.pairwise_map.2 (hE.stamps.imp fun {a b} h (e:a.b=b.b)=>by rw [e] at h;exact Nat.lt_irrefl _ h)
theorem q7y (hM:MapM enc w r L) (t:TypeId) :
  ∃w',(Extern.MapsClone.clone #[.iface t (.map (some r))]).run P w=.ok (.iface t (.map (some w.heap.size))) w'/\MapM enc w' w.heap.size L/\Below w.heap.size w w'/\w'.heap.size=w.heap.size+1:=by
 obtain ⟨E,c,hE,hp,hs⟩:=hM;have hB:Below w.heap.size w (w.alloc (.map (E.map (Ent.val enc)).toArray c)):=(Below.refl _ w).alloc (le_refl _) _;refine ⟨_,?_,⟨E,c,⟨?_,hE.keys,hE.stamps,hE.lt,hE.wf⟩,hp,hs⟩,hB,by show (w.heap.push _).size=_;simp⟩
 ·have e:Extern.MapsClone.clone #[.iface t (.map (some r))]=(getObj r >>= fun o=>match o with
   | .map entries clock=>(newObj (.map entries clock) >>= fun n=>pure (.iface t (.map (some n))))
   | _ => stuck "maps.clone: a map expected") := rfl
  rw [e];simp [qdu hE.heap,newObj,Sem.run]
 ·show (w.heap.push _)[w.heap.size]?=_;simp
theorem q0q {xT k e:TypeId} {v:Value} (h:P.underlying t=some (.map k e)):(Instr.typeAssert (.iface t v) xT t false).run P w=.ok v w:=by
 simp [Instr.typeAssert,run_underlying h]
end
end Go.Vc
namespace Go.Proofs.YtedcpbkcamckoaaGreatDoor
open Go.Vc Go.RowKit
set_option maxRecDepth 100000
theorem qo9 {w:World} {T:Type} {E:El T} {b g:Nat} {s:Slc} {xs:List T} {t:TypeId} {vs:List Value} (h:Go.Vc.Own E w b s xs) (h':Blk w g t vs) (hne:E.t≠t):∀k,s.blk=some k->k≠g:=fun k hk=>by
 obtain ⟨cs,hcs⟩:=h.blk_t hk;exact hcs.ne_t h' hne
theorem rd_lt {T:Type} {E:El T} {w:World} {s:Slc} {xs:List T} (h:Rd E w s xs) (hp:0<xs.length):∀a,s.a=some a->a.block<w.heap.size:=fun a ha=>by
 have:=h.lt hp;simpa [Slc.at_,ha] using this
theorem qil {T:Type} {E:El T} {Sx:Nat->Prop} {w w':World} {s:Slc} {xs:List T} (h:Rd E w s xs) (hc:Chg Sx w w') (hg:0<xs.length->∀a,s.a=some a->¬Sx a.block):Rd E w' s xs:=by
 cases xs with
 | nil=>exact ⟨h.n,h.nc,h.cm,h.some_,fun i x hx=>by simp at hx⟩
 | cons x xs=>exact h.chg hc (hg (by simp))
structure Hold (w:World) (base:Nat) (s:Slc) (xs:List UInt8):Prop where
 rd:Rd qae w s xs
 blk:∀k,s.blk=some k->base<=k/\∃cs,Blk w k qan cs
theorem zhk {w:World} {base:Nat} {s:Slc} {xs:List UInt8} (h:Go.Vc.Own qae w base s xs):Hold w base s xs:=⟨h.rd,fun k hk=>⟨(h.lt k hk).1,h.blk_t hk⟩⟩
theorem Hold.base {w:World} {base base':Nat} {s:Slc} {xs:List UInt8} (h:Hold w base s xs) (hb:base'<=base):Hold w base' s xs:=⟨h.rd,fun k hk=>⟨Nat.le_trans hb (h.blk k hk).1,(h.blk k hk).2⟩⟩
theorem Hold.chg {Sx:Nat->Prop} {w w':World} {base:Nat} {s:Slc} {xs:List UInt8} (h:Hold w base s xs) (hc:Chg Sx w w') (hg:∀k,s.blk=some k->¬Sx k):Hold w' base s xs :=
 ⟨h.rd.chg hc fun a ha=>hg _ (slk.2 ⟨a,ha,rfl⟩),fun k hk=>by
  obtain ⟨h1,cs,h2⟩:=h.blk k hk;exact ⟨h1,cs,h2.chg hc (hg k hk)⟩⟩
theorem Hold.ext {w w':World} {base:Nat} {s:Slc} {xs:List UInt8} (h:Hold w base s xs) (hb:Below w.heap.size w w'):Hold w' base s xs :=
 ⟨h.rd.ext hb,fun k hk=>by
  obtain ⟨h1,cs,h2⟩:=h.blk k hk;exact ⟨h1,cs,h2.ext hb⟩⟩
theorem Hold.drew {w:World} {base:Nat} {s:Slc} {xs:List UInt8} (h:Hold w base s xs):Hold w.drew base s xs:=⟨h.rd.drew,h.blk⟩
theorem Hold.lt {w:World} {base:Nat} {s:Slc} {xs:List UInt8} (h:Hold w base s xs):∀k,s.blk=some k->base<=k/\k<w.heap.size:=fun k hk=>by
 obtain ⟨h1,cs,h2⟩:=h.blk k hk;exact ⟨h1,h2.lt⟩
theorem Hold.ne_b {w:World} {base g:Nat} {s:Slc} {xs:List UInt8} {t:TypeId} {vs:List Value} (h:Hold w base s xs) (h':Blk w g t vs) (hne:qan≠t):∀k,s.blk=some k->k≠g:=fun k hk=>by
 obtain ⟨_,cs,h2⟩:=h.blk k hk;exact h2.ne_t h' hne
theorem Hold.ne_o {w:World} {base b':Nat} {s s':Slc} {xs:List UInt8} {T':Type} {E':El T'} {ys:List T'} (h:Hold w base s xs) (h':Go.Vc.Own E' w b' s' ys) (hne:qan≠E'.t):∀k,s.blk=some k->s'.blk≠some k:=fun k hk e=>by
 obtain ⟨_,cs,h2⟩:=h.blk k hk;obtain ⟨cs',hcs'⟩:=h'.blk_t e;exact h2.ne_t hcs' hne rfl
theorem Hold.ne_m {V:Type} {enc:V->Value} {w:World} {base r:Nat} {s:Slc} {xs:List UInt8} {L:List (Int×V)} (h:Hold w base s xs) (hM:MapM enc w r L):∀k,s.blk=some k->k≠r:=fun k hk=>by
 obtain ⟨_,cs,h2⟩:=h.blk k hk;exact fun e=>hM.ne_blk h2 e.symm
abbrev nilI:qar:=⟨0,⟨0,0,⟨none,0,0⟩⟩,0,0⟩
structure Im where
 v:qar
 bs:List UInt8
def Im.enc (x:Im):Value:=.agg (qar.rep.cells x.v).toArray
structure St where
 quota:Int
 res:Int
 used:Int
 clock:Int
 L:List (Int×Im)
def St.cells (S:St) (r:Nat):List Value:=[(.int .i64 S.quota),(.int .i64 S.res),(.int .i64 S.used),(.int .i64 S.clock),(.map (some r))]
structure StM (w:World) (base g r:Nat) (S:St):Prop where
 blk:Blk w g qbu (S.cells r)
 map:MapM Im.enc w r S.L
 img:∀p∈S.L,Hold w base p.2.v.m.P p.2.bs
theorem tmap:PG.underlying qav=some (.map qa9 qcf):=by kernel_rfl
theorem tint:PG.underlying qa9=some (.int .i64):=by kernel_rfl
theorem zimg:∀w,(zeroValue qcf).run PG w=.ok (Im.enc ⟨nilI,[]⟩) w:=Tryz.zeroValue100
section
variable {w w':World} {base g r:Nat} {S:St}
theorem StM.keep {Sx:Nat->Prop} (h:StM w base g r S) (hc:Chg Sx w w') (hg:¬Sx g) (hr:¬Sx r) (hi:∀p∈S.L,∀k,p.2.v.m.P.blk=some k->¬Sx k):StM w' base g r S :=
 ⟨h.blk.chg hc hg,h.map.chg hc hr,fun p hp=>(h.img p hp).chg hc (hi p hp)⟩
theorem StM.ext (h:StM w base g r S) (hb:Below w.heap.size w w'):StM w' base g r S:=⟨h.blk.ext hb,h.map.ext hb,fun p hp=>(h.img p hp).ext hb⟩
theorem StM.drew (h:StM w base g r S):StM w.drew base g r S:=⟨h.blk,h.map.keep rfl,fun p hp=>(h.img p hp).drew⟩
theorem StM.ne (h:StM w base g r S):r≠g:=h.map.ne_blk h.blk
theorem StM.img_ne (h:StM w base g r S) {p:Int×Im} (hp:p∈S.L) {k:Nat} (hk:p.2.v.m.P.blk=some k):k≠g/\k≠r :=
 ⟨(h.img p hp).ne_b h.blk (by decide) k hk,(h.img p hp).ne_m h.map k hk⟩
theorem q1j {L:List (Int×Im)} (h:MapM Im.enc w r L) (id:Int) {K:qar->Bool->World->Prop} (hK:K (((lookL L id).map Im.v).getD nilI) (lookL L id).isSome w) :
  runK2 PG (Instr.lookup qav (.map (some r)) (.int .i64 id) true) (Kind.struct qar.rep) Kind.bool w K:=by
 refine ⟨_,_,w,?_,hK⟩;rw [h.lookup_ok tmap tint zimg id];cases lookL L id<;>rfl
theorem q1k {L:List (Int×Im)} (h:MapM Im.enc w r L) (id:Int) {K:qar->World->Prop} (hK:K (((lookL L id).map Im.v).getD nilI) w) :
  runK1 PG (Instr.lookup qav (.map (some r)) (.int .i64 id) false) (Kind.struct qar.rep) w K:=by
 refine ⟨_,w,?_,hK⟩;rw [h.lookup tmap tint zimg id];cases lookL L id<;>rfl
theorem qa3 {a:Addr} {K:Addr->Prop} (h:K a):onPtr (some a) K:=h
theorem qsm {v:qar} {K:Addr->World->Prop}
  (hK:∀w',Blk w' w.heap.size qcf (qar.rep.cells v)->Below w.heap.size w w'->w'.heap.size=w.heap.size+1->K ⟨w.heap.size,0,none⟩ w') :
  nw qcf [(.int .i64 0),(.int .i64 0),(.int .i64 0),(.slice none 0 0),(.int .i64 0),(.int .i64 0)] w fun a w1=>stK a (qar.rep.cells v) w1 fun w2=>K a w2 :=
 qcu rfl hK
theorem zjq (h:StM w base g r S) (id:Int) {K:Bool->World->Prop} (hK:∀w',Below w.heap.size w w'->K (lookL S.L id).isSome w'):ql9 (some ⟨g,0,none⟩) id w K:=by
 refine qy8 _ _ ?_;unfold qrp;refine qa3 (qgf (x:=some r) (h.blk.cells 4 _ rfl) (q1j h.map id ?_));exact qsm fun w' _ hB _=>hK w' hB
theorem qxb (h:StM w base g r S) (id:Int) {K:qac->Bool->World->Prop} (hK:∀w',Below w.heap.size w w'->K (((lookL S.L id).map Im.v).getD nilI).m (lookL S.L id).isSome w'):qd6 (some ⟨g,0,none⟩) id w K:=by
 refine qw6 _ _ ?_;unfold qp0;generalize hv:((lookL S.L id).map Im.v).getD nilI=v at hK;refine nwb fun w1 hb1 hB1 hs1=>?_;have h1:=h.ext hB1;refine qa3 (qgf (x:=some r) (h1.blk.cells 4 _ rfl) (q1j h1.map id ?_));rw [hv];refine qsm fun w2 hb2 hB2 hs2=>?_;refine qal (x:=v.m) (hb2.sub 1 _ rfl) ?_;have hb1':=hb1.ext hB2;refine qaj hb1' (by simp [qac.rep]) fun w3 hb3 hg3 hs3=>?_;have hb3:Blk w3 w.heap.size qaq (qac.rep.cells v.m):=hb3;refine qal (x:=v.m) hb3.cells (hK w3 ?_);have hc:Chg (fun k=>k=w.heap.size) w w3:=(Chg.of_ext (hB1.trans (hB2.mono (by omega)))).trans (Chg.gg hg3) fun i _ hi=>hi;exact hc.ext fun i hi e=>by omega
end
end Go.Proofs.YtedcpbkcamckoaaGreatDoor
namespace Go.Vc
open Go.ChangeShapes Go.WideShapes Go.ChangeAt Go.RowKit Go.Deep
section
variable {H:Type} {enc:TypeId×Value->H} {P:Program} {w:World} {base:Nat} {spare:Nat->Bool} {held:Bool}
end
end Go.Vc
namespace Go.Proofs.YtedcpbkcamckoaaGreatDoor
open Go.Vc Go.ChangeShapes Go.WideShapes Go.ChangeAt Go.RowKit
set_option maxRecDepth 100000
def q9g:List Leaf:=[.int .u8]
theorem zal:qmg Tryz.prog 4 5=some q9g:=by kernel_rfl
theorem zj5 (vs:List Value) (hl:vs.length=1) (h:qkg q9g vs):∃x:UInt8,qae.cells x=vs/\True:=by
 obtain ⟨z,h0,w0⟩:=qhy h 0 rfl;have hw:=(Lit.wf_int_iff _ _).1 w0;rw [IntKind.min_u8,show IntKind.u8.max=255 from rfl] at hw;refine ⟨u8 z,qvk hl fun j hj=>?_,trivial⟩
 match j,hj with
 | 0,_ =>
  show some (Value.int .u8 ((u8 z).toNat:Int))=_;rw [q8n hw.1 (by omega)];exact h0.symm
 | j+1,hj=>exact absurd hj (by simp [qae])
section
variable {H:Type} {enc:TypeId×Value->H} {w:World} {base:Nat} {held:Bool} {r:Reach} {b0:Nat} {v:Value} {d:DataW H} {p:List MemPlace}
end
def intLs:List Leaf:=[.int .i64]
theorem zcc:qmg Tryz.prog 4 3=some intLs:=by kernel_rfl
theorem zkq (vs:List Value) (hl:vs.length=1) (h:qkg intLs vs):∃x:Int,E_int.cells x=vs/\True:=by
 obtain ⟨z,h0,w0⟩:=qhy h 0 rfl;refine ⟨z,qvk hl fun j hj=>?_,trivial⟩
 match j,hj with
 | 0,_=>exact h0.symm
 | j+1,hj=>exact absurd hj (by simp [E_int])
theorem zf6 {ls:List Leaf} {vs:List Value} (h:qkg ls vs) (j:Nat) (hj:ls[j]?=some .bool):∃z,vs[j]?=some (.bool z):=by
 obtain ⟨v,hv,z,rfl⟩:=h j _ hj;exact ⟨z,hv⟩
def viewE:El qaf where
 cells:=qaf.rep.cells
 t:=30
 k:=8
 pos:=by decide
 len _:=rfl
 one x v hv:=by
  simp only [qaf.rep,List.mem_cons,List.mem_nil_iff,or_false] at hv;rcases hv with rfl | rfl | rfl | rfl | rfl | rfl | rfl | rfl<;>rfl
def q8h:List Leaf:=[.bool,.int .i64,.int .i64,.int .i64,.int .i64,.int .i64,.int .i64,.int .i64]
theorem zaj:qmg Tryz.prog 4 30=some q8h:=by kernel_rfl
theorem zj4 (vs:List Value) (hl:vs.length=8) (h:qkg q8h vs):∃x:qaf,viewE.cells x=vs/\True:=by
 obtain ⟨z0,h0⟩:=zf6 h 0 rfl;obtain ⟨z1,h1,_⟩:=qhy h 1 rfl;obtain ⟨z2,h2,_⟩:=qhy h 2 rfl;obtain ⟨z3,h3,_⟩:=qhy h 3 rfl;obtain ⟨z4,h4,_⟩:=qhy h 4 rfl;obtain ⟨z5,h5,_⟩:=qhy h 5 rfl;obtain ⟨z6,h6,_⟩:=qhy h 6 rfl;obtain ⟨z7,h7,_⟩:=qhy h 7 rfl;refine ⟨⟨⟨z0,z1,z2,z3,z4,z5⟩,z6,z7⟩,qvk hl fun j hj=>?_,trivial⟩
 match j,hj with
 | 0,_=>exact h0.symm
 | 1,_=>exact h1.symm
 | 2,_=>exact h2.symm
 | 3,_=>exact h3.symm
 | 4,_=>exact h4.symm
 | 5,_=>exact h5.symm
 | 6,_=>exact h6.symm
 | 7,_=>exact h7.symm
 | j+8,hj=>exact absurd hj (by simp [viewE,qaf.rep])
noncomputable def fieldsOf (P:Program) (t:TypeId):Array Field:=match P.underlying t with | some (.struct fs)=>fs | _=>#[]
section
variable {H:Type} {enc:TypeId×Value->H} {w:World} {base:Nat} {held:Bool} {r:Reach} {b0:Nat} {v:Value} {d:DataW H} {p:List MemPlace}
theorem zev (hv:Value.okWide Tryz.prog w r b0 30 v) (h:DataW.Trod enc Tryz.prog w base (fun _=>true) held 30 v d p):∃x:qaf,v=.agg (qaf.rep.cells x).toArray:=by
 have hfs:Tryz.prog.underlying 30=some (.struct (fieldsOf Tryz.prog 30)):=by kernel_rfl
 have a:=@zbc H enc Tryz.prog w base (fun _=>true) held qaf viewE (fun _=>True) r b0 4 30 (fieldsOf Tryz.prog 30) q8h v d p hfs (by kernel_rfl) zaj zj4;obtain ⟨x,e,_⟩:=a hv h;exact ⟨x,e⟩
theorem q3q {t:TypeId} (ht:Tryz.prog.underlying t=some (.slice 5)) (hv:Value.okWide Tryz.prog w r b0 t v) (h:DataW.Trod enc Tryz.prog w base (fun _=>true) held t v d p):∃(s:Slc) (xs:List UInt8),v=.slice s.a s.n s.c/\Rd qae w s xs/\∀x∈xs,True:=by
 have a:=@q4f H enc Tryz.prog w base held UInt8 qae (fun _=>True) r b0 4 t 5 q9g v d p ht (by kernel_rfl) zal zj5;exact a hv h
theorem zfh {t:TypeId} (ht:Tryz.prog.underlying t=some (.slice 3)) (hv:Value.okWide Tryz.prog w r b0 t v) (h:DataW.Trod enc Tryz.prog w base (fun _=>true) held t v d p):∃(s:Slc) (xs:List Int),v=.slice s.a s.n s.c/\Rd E_int w s xs/\∀x∈xs,True:=by
 have a:=@q4f H enc Tryz.prog w base held Int E_int (fun _=>True) r b0 4 t 3 intLs v d p ht (by kernel_rfl) zcc zkq;exact a hv h
end
end Go.Proofs.YtedcpbkcamckoaaGreatDoor
namespace Go.Proofs.YtedcpbkcamckoaaGreatDoor
open Go.Vc Go.RowKit
set_option maxRecDepth 400000
open IntKind (i64)
open _root_.List (append_nil filter_append mem_append mem_cons mem_singleton)
open _root_.Nat (le_refl le_trans zero_le)
abbrev Pl:=qah
abbrev PAsk:=qb8
abbrev PV:=qbw
def wi (x:Int):Int:=i64.wrap x
def plEq (a b:Pl):Bool:=(a.Image==b.Image) && ((a.Id==b.Id) && ((a.Alt==b.Alt) && ((a.Line==b.Line) && ((a.Col==b.Col) && ((a.Rows==b.Rows) && ((a.Cols==b.Cols) && ((a.X==b.X) && ((a.Y==b.Y) && ((a.W==b.W) && ((a.H==b.H) && ((a.DX==b.DX) && ((a.DY==b.DY) && ((a.Z==b.Z) && true)))))))))))))
def qgj (p:Pl) (line rows from_ past:Int):Bool:=decide (rows>0) && (decide (past>from_) && (decide (wi (p.Line+p.Rows)>line) && (decide (wi (p.Line-line)<rows) && (decide (p.Col<past) && decide (wi (p.Col+p.Cols)>from_)))))
def btw (v lo hi:Int):Bool:=decide (v>=lo) && decide (v<=hi)
def mayPl (p:Pl):Bool:=decide (p.Image>=0) && (btw p.Id 0 4294967295 && (decide (p.Line>=0) && (decide (p.Line<=1125899906842624) && (btw p.Col 0 1000 && (btw p.Rows 1 1048576 && (btw p.Cols 1 1048576 && (decide (p.X>=0) && (decide (p.Y>=0) && (btw p.W 1 16384 && (btw p.H 1 16384 && (btw p.DX 0 64 && (btw p.DY 0 64 && btw p.Z (-1073741824) 1073741824))))))))))))
def lowP (c:Int):Int:=if c>=65/\c<=90 then bitsR .or .u8 c 32 else c
def qjv (a:PAsk) (p:Pl) (v:PV):Bool :=
 let what:=lowP a.What
 let row:=wi (wi (v.Top+a.Y)-1)
 if what=105\/what=110 then (p.Image==a.Image) && ((a.Place==0) || (p.Id==a.Place))
 else if what=114 then decide (p.Image>=a.X) && decide (p.Image<=a.Y)
 else if p.Alt≠v.Alt then false
 else if what=97 then qgj p v.Top v.Rows 0 v.Cols
 else if what=99 then qgj p (wi (v.Top+v.Row)) 1 v.Col (wi (v.Col+1))
 else if what=112 then qgj p row 1 (wi (a.X-1)) a.X
 else if what=113 then qgj p row 1 (wi (a.X-1)) a.X && (p.Z==a.Z)
 else if what=120 then qgj p v.Top v.Rows (wi (a.X-1)) a.X
 else if what=121 then qgj p row 1 0 1073741824
 else if what=122 then p.Z==a.Z
 else false
structure PlTM (w:World) (base g:Nat) (q:Slc) (T:List Pl):Prop where
 blk:Blk w g qce [.slice q.a q.n q.c]
 hg:base<=g
 own:Go.Vc.Own qbd w base q T
def plS (g:Nat) (q:Slc) (k:Nat):Prop:=k=g\/q.blk=some k
section
variable {w w':World} {base g:Nat} {q:Slc} {T:List Pl}
theorem PlTM.ext (h:PlTM w base g q T) (hb:Below w.heap.size w w'):PlTM w' base g q T:=⟨h.blk.ext hb,h.hg,h.own.ext hb⟩
theorem PlTM.drew (h:PlTM w base g q T):PlTM w.drew base g q T:=⟨h.blk,h.hg,h.own⟩
theorem PlTM.chg {S:Nat->Prop} (h:PlTM w base g q T) (hc:Chg S w w') (hS:∀k,plS g q k->¬S k):PlTM w' base g q T:=⟨h.blk.chg hc (hS _ (.inl rfl)),h.hg,h.own.chg hc fun k hk=>hS _ (.inr hk)⟩
theorem PlTM.lt (h:PlTM w base g q T):∀k,plS g q k->base<=k/\k<w.heap.size:=by
 rintro k (rfl | hk)
 ·exact ⟨h.hg,h.blk.lt⟩
 ·exact h.own.lt k hk
theorem PlTM.ne (h:PlTM w base g q T):∀k,q.blk=some k->k≠g:=qa0 h.own h.blk (by decide)
theorem qc3 {v lo hi:Int} {K:Bool->World->Prop} (hK:K (btw v lo hi) w):qb7 v lo hi w K:=by
 refine q06 _ _ _ ?_;unfold qtb;unfold btw at hK;refine cO (fun e=>?_) fun e=>?_
 ·rw [e,Bool.true_and] at hK;exact hK
 ·rw [e,Bool.false_and] at hK;exact hK
theorem qb5 {a b:Bool} {K:Bool->World->Prop} {X:Prop} (hK:K (a && b) w) (h:K b w->X):cond a X (K false w):=by
 cases a
 ·exact hK
 ·exact h hK
theorem zd4 {p:Pl} {K:Bool->World->Prop} (hK:∀w',Below w.heap.size w w'->K (mayPl p) w'):quv p w K:=by
 refine q5p _ ?_;unfold qzs;refine nwb fun w1 hb hB1 hs1=>?_;have hK:=hK w1 hB1;unfold mayPl at hK;refine lI (x:=p.Image) (hb.cells 0 _ rfl) (qb5 hK fun hK=>?_);refine lI (x:=p.Id) (hb.cells 1 _ rfl) (qc3 (qb5 hK fun hK=>?_));refine lI (x:=p.Line) (hb.cells 3 _ rfl) (qb5 hK fun hK=>?_);refine lI (x:=p.Line) (hb.cells 3 _ rfl) (qb5 hK fun hK=>?_);refine lI (x:=p.Col) (hb.cells 4 _ rfl) (qc3 (qb5 hK fun hK=>?_));refine lI (x:=p.Rows) (hb.cells 5 _ rfl) (qc3 (qb5 hK fun hK=>?_));refine lI (x:=p.Cols) (hb.cells 6 _ rfl) (qc3 (qb5 hK fun hK=>?_));refine lI (x:=p.X) (hb.cells 7 _ rfl) (qb5 hK fun hK=>?_);refine lI (x:=p.Y) (hb.cells 8 _ rfl) (qb5 hK fun hK=>?_);refine lI (x:=p.W) (hb.cells 9 _ rfl) (qc3 (qb5 hK fun hK=>?_));refine lI (x:=p.H) (hb.cells 10 _ rfl) (qc3 (qb5 hK fun hK=>?_));refine lI (x:=p.DX) (hb.cells 11 _ rfl) (qc3 (qb5 hK fun hK=>?_));refine lI (x:=p.DY) (hb.cells 12 _ rfl) (qc3 (qb5 hK fun hK=>?_));exact lI (x:=p.Z) (hb.cells 13 _ rfl) (qc3 hK)
theorem qkb {p:Pl} {line rows from_ past:Int} {K:Bool->World->Prop} (hK:∀w',Below w.heap.size w w'->K (qgj p line rows from_ past) w'):qcc p line rows from_ past w K:=by
 refine qvg _ _ _ _ _ ?_;unfold qn4;refine nwb fun w1 hb hB1 hs1=>?_;have hK:=hK w1 hB1;unfold qgj at hK;refine qb5 hK fun hK=>qb5 hK fun hK=>?_;refine lI (x:=p.Line) (hb.cells 3 _ rfl) (lI (x:=p.Rows) (hb.cells 5 _ rfl) (qb5 hK fun hK=>?_));refine lI (x:=p.Line) (hb.cells 3 _ rfl) (qb5 hK fun hK=>?_);refine lI (x:=p.Col) (hb.cells 4 _ rfl) (qb5 hK fun hK=>?_);exact lI (x:=p.Col) (hb.cells 4 _ rfl) (lI (x:=p.Cols) (hb.cells 6 _ rfl) hK)
end
theorem qap {w w1 w2:World} (h1:Below w.heap.size w w1) (h2:Below w1.heap.size w1 w2):Below w.heap.size w w2:=h1.trans (h2.mono h1.size)
theorem qcn {w w1 w2 w3:World} (h1:Below w.heap.size w w1) (h2:Below w1.heap.size w1 w2) (h3:Below w2.heap.size w2 w3):Below w.heap.size w w3:=qap (qap h1 h2) h3
def q1d (what:Int) (a:PAsk) (p:Pl) (v:PV):Bool :=
 if what=105\/what=110 then (p.Image==a.Image) && ((a.Place==0) || (p.Id==a.Place))
 else if what=114 then decide (p.Image>=a.X) && decide (p.Image<=a.Y)
 else if p.Alt≠v.Alt then false
 else if what=97 then qgj p v.Top v.Rows 0 v.Cols
 else if what=99 then qgj p (wi (v.Top+v.Row)) 1 v.Col (wi (v.Col+1))
 else if what=112 then qgj p (wi (wi (v.Top+a.Y)-1)) 1 (wi (a.X-1)) a.X
 else if what=113 then qgj p (wi (wi (v.Top+a.Y)-1)) 1 (wi (a.X-1)) a.X && (p.Z==a.Z)
 else if what=120 then qgj p v.Top v.Rows (wi (a.X-1)) a.X
 else if what=121 then qgj p (wi (wi (v.Top+a.Y)-1)) 1 0 1073741824
 else if what=122 then p.Z==a.Z
 else false
theorem zht (a:PAsk) (p:Pl) (v:PV):qjv a p v=q1d (lowP a.What) a p v:=rfl
section
variable {w w':World} {base g:Nat} {q:Slc} {T:List Pl}
theorem zdn {a:PAsk} {p:Pl} {v:PV} {K:Bool->World->Prop} (hK:∀w',Below w.heap.size w w'->K (qjv a p v) w'):qq3 a p v w K:=by
 refine q2z _ _ _ ?_;unfold qwm;refine nwb fun w1 ha1 hB1 hs1=>nwb fun w2 hp2 hB2 hs2=>nwb fun w3 hv hB3 hs3=>?_;have ha:=(ha1.ext hB2).ext hB3;have hp:=hp2.ext hB3;have B3:=qcn hB1 hB2 hB3;refine lI (x:=a.What) (ha.cells 0 _ rfl) (jpO fun J1 hJ1=>jpO fun J4 hJ4=>?_);rw [zht] at hK;have key:∀wh,(∀w',Below w.heap.size w w'->K (q1d wh a p v) w')->J1 (wh,()) w3:=by
  intro wh hK;refine hJ1 _ _ ?_;dsimp only;refine lI (x:=v.Top) (hv.cells 1 _ rfl) (lI (x:=a.Y) (ha.cells 4 _ rfl) (jpO fun J2 hJ2=>jpO fun J3 hJ3=>?_));have k2:¬(wh=105\/wh=110)->¬wh=114->J2 (()) w3:=by
   intro n1 n2;refine hJ2 _ _ ?_;unfold q1d at hK;rw [if_neg n1,if_neg n2] at hK;refine qc5 (x:=p.Alt) (hp.cells 2 _ rfl) (qc5 (x:=v.Alt) (hv.cells 0 _ rfl) ?_);by_cases hal:p.Alt=v.Alt
   ·rw [if_neg (fun h=>h hal)] at hK;refine cF (by rw [hal];simp) ?_;have ldp:qaw w3 ⟨w1.heap.size,0,none⟩ (qah.rep.cells p):=hp.cells;refine cO (fun e=>?_) fun e=>?_
    ·rw [if_pos (eq_of_beq e)] at hK;exact qal (r:=qah.rep) (x:=p) ldp (lI (x:=v.Top) (hv.cells 1 _ rfl) (lI (x:=v.Rows) (hv.cells 2 _ rfl) (lI (x:=v.Cols) (hv.cells 3 _ rfl) (qkb fun w4 hB4=>hK _ (qap B3 hB4)))))
    rw [if_neg (beq_eq_false_iff_ne.1 e)] at hK;refine cO (fun e=>?_) fun e=>?_
    ·rw [if_pos (eq_of_beq e)] at hK;exact qal (r:=qah.rep) (x:=p) ldp (lI (x:=v.Top) (hv.cells 1 _ rfl) (lI (x:=v.Row) (hv.cells 4 _ rfl) (lI (x:=v.Col) (hv.cells 5 _ rfl) (lI (x:=v.Col) (hv.cells 5 _ rfl) (qkb fun w4 hB4=>hK _ (qap B3 hB4))))))
    rw [if_neg (beq_eq_false_iff_ne.1 e)] at hK;refine cO (fun e=>?_) fun e=>?_
    ·rw [if_pos (eq_of_beq e)] at hK;exact qal (r:=qah.rep) (x:=p) ldp (lI (x:=a.X) (ha.cells 3 _ rfl) (lI (x:=a.X) (ha.cells 3 _ rfl) (qkb fun w4 hB4=>hK _ (qap B3 hB4))))
    rw [if_neg (beq_eq_false_iff_ne.1 e)] at hK;refine cO (fun e=>?_) fun e=>?_
    ·rw [if_pos (eq_of_beq e)] at hK;refine qal (r:=qah.rep) (x:=p) ldp (lI (x:=a.X) (ha.cells 3 _ rfl) (lI (x:=a.X) (ha.cells 3 _ rfl) (qkb fun w4 hB4=>?_)));refine qb5 (hK _ (qap B3 hB4)) fun hk=>?_;exact lI (x:=p.Z) ((hp.ext hB4).cells 13 _ rfl) (lI (x:=a.Z) ((ha.ext hB4).cells 5 _ rfl) hk)
    rw [if_neg (beq_eq_false_iff_ne.1 e)] at hK;refine cO (fun e=>?_) fun e=>?_
    ·rw [if_pos (eq_of_beq e)] at hK;exact qal (r:=qah.rep) (x:=p) ldp (lI (x:=v.Top) (hv.cells 1 _ rfl) (lI (x:=v.Rows) (hv.cells 2 _ rfl) (lI (x:=a.X) (ha.cells 3 _ rfl) (lI (x:=a.X) (ha.cells 3 _ rfl) (qkb fun w4 hB4=>hK _ (qap B3 hB4))))))
    rw [if_neg (beq_eq_false_iff_ne.1 e)] at hK;refine cO (fun e=>?_) fun e=>?_
    ·rw [if_pos (eq_of_beq e)] at hK;exact qal (r:=qah.rep) (x:=p) ldp (qkb fun w4 hB4=>hK _ (qap B3 hB4))
    rw [if_neg (beq_eq_false_iff_ne.1 e)] at hK;refine cO (fun e=>?_) fun e=>?_
    ·rw [if_pos (eq_of_beq e)] at hK;exact lI (x:=p.Z) (hp.cells 13 _ rfl) (lI (x:=a.Z) (ha.cells 5 _ rfl) (hK _ B3))
    ·rw [if_neg (beq_eq_false_iff_ne.1 e)] at hK;exact hK _ B3
   ·rw [if_pos hal] at hK;exact cT (by simpa using hal) (hK _ B3)
  have k3:∀b:Bool,(b=true↔wh=105\/wh=110)->J3 (b,()) w3:=by
   intro b hb;refine hJ3 _ _ ?_;cases b
   ·have n1:¬(wh=105\/wh=110):=fun h=>by have:=hb.2 h;cases this
    refine cF rfl ?_;refine cO (fun e=>?_) fun e=>k2 n1 (beq_eq_false_iff_ne.1 e);unfold q1d at hK;rw [if_neg n1,if_pos (eq_of_beq e)] at hK;refine lI (x:=p.Image) (hp.cells 0 _ rfl) (lI (x:=a.X) (ha.cells 3 _ rfl) (qb5 (hK _ B3) fun hk=>?_));exact lI (x:=p.Image) (hp.cells 0 _ rfl) (lI (x:=a.Y) (ha.cells 4 _ rfl) hk)
   ·have n1:=hb.1 rfl;unfold q1d at hK;rw [if_pos n1] at hK;refine cT rfl (lI (x:=p.Image) (hp.cells 0 _ rfl) (lI (x:=a.Image) (ha.cells 1 _ rfl) (qb5 (hK _ B3) fun hk=>?_)));refine lI (x:=a.Place) (ha.cells 2 _ rfl) (cO (fun e=>?_) fun e=>?_)
    ·rw [e,Bool.true_or] at hk;exact hk
    ·rw [e,Bool.false_or] at hk;exact lI (x:=p.Id) (hp.cells 1 _ rfl) (lI (x:=a.Place) (ha.cells 2 _ rfl) hk)
  refine cO (fun e=>?_) fun e=>?_
  ·rw [e];exact k3 true ⟨fun _=>.inl (eq_of_beq e),fun _=>rfl⟩
  ·refine k3 _ ⟨fun h=>.inr (eq_of_beq h),fun h=>?_⟩;rcases h with h | h
   ·exact absurd h (beq_eq_false_iff_ne.1 e)
   ·exact beq_iff_eq.2 h
 have k4:∀b:Bool,(b=true↔a.What>=65/\a.What<=90)->J4 (b,()) w3:=by
  intro b hb;refine hJ4 _ _ ?_;unfold lowP at hK;cases b
  ·rw [if_neg (fun h=>by have:=hb.2 h;cases this)] at hK;exact cF rfl (key _ hK)
  ·rw [if_pos (hb.1 rfl)] at hK;exact cT rfl (key _ hK)
 refine cO (fun e=>?_) fun e=>?_
 ·have e:=oTq e;exact k4 _ ⟨fun h=>⟨e,oTq h⟩,fun h=>dTq h.2⟩
 ·have e:=oFq e;exact k4 _ ⟨fun h=>(by cases h),fun h=>absurd h.1 e⟩
def q0j (w:World) (G:Value) (f:Pl->Bool):Prop:=∀(w1:World) (p:Pl) (K:Bool->World->Prop),Below w.heap.size w w1->(∀w2,Below w1.heap.size w1 w2->K (f p) w2)->callR C G [.agg (qah.rep.cells p).toArray] [Kind.bool] w1 K
theorem quy {G:Value} {f:Pl->Bool} (h:PlTM w base g q T) (hl:T.length<=100000) (hbase:base<=w.heap.size) (hG:q0j w G f) {K:Slc->World->Prop}
  (hK:∀r q' w',Go.Vc.Own qbd w' w.heap.size r (T.filter f)->PlTM w' base g q' (T.filter fun p=>!f p)->(∀k,q'.blk=some k->w.heap.size<=k)->(∀k,r.blk=some k->q'.blk≠some k)->Chg (fun k=>k=g) w w'->K r w') :
  qew (some ⟨g,0,none⟩) G w K:=by
 refine qw4 _ _ ?_;unfold qoe;simp only [onPtr_some];refine lSl (x:=q) (h.blk.cells 0 _ rfl) ?_;have hn:q.n=T.length:=h.own.rd.n;refine lpR (fun (st:Slc×Slc×Int×Unit) w1=>∃k:Nat,st.2.2.1=(k:Int)/\k<=T.length/\Go.Vc.Own qbd w1 w.heap.size st.1 ((T.take k).filter f)/\Go.Vc.Own qbd w1 w.heap.size st.2.1 ((T.take k).filter fun p=>!f p) /\
   (∀k,st.1.blk=some k->st.2.1.blk≠some k)/\Below w.heap.size w w1) (fun st=>T.length-st.2.2.1.toNat) ⟨0,rfl,zero_le _,Own.nil _ _ _,Own.nil _ _ _,(fun k hk=>by cases hk),Below.refl _ _⟩ ?_
 rintro ⟨r,l,i,u⟩ w1 ⟨k,hi,hk,hr,hle,hne,hB⟩ I hI;dsimp only at hi hr hle hne ⊢;subst hi;have h1:=h.ext hB;refine cO (fun e=>?_) fun e=>?_
 ·have e:=oTq e;have hlt:k<T.length:=by omega
  obtain ⟨p,hp⟩:∃p,T[k]?=some p:=⟨_,List.getElem?_eq_getElem hlt⟩;refine h1.own.rd.ix (E:=qbd) (i:=(k:Int)) rfl (by omega) (by omega) fun hx=>?_;have hx:qaw w1 (q.at_ qbd.k (k:Int).toNat) (qah.rep.cells p):=by
   simp only [Int.toNat_natCast] at hx ⊢;have e1:T[k]'hlt=p:=(List.getElem?_eq_some_iff.1 hp).2;rw [e1] at hx;exact hx
  refine qal (r:=qah.rep) (x:=p) hx ?_;refine qcu (vs:=qah.rep.cells p) rfl fun w3 hb3 hB3 hs3=>?_;refine qal (r:=qah.rep) (x:=p) hb3.cells ?_;have B3:=qap hB hB3;refine hG w3 p _ B3 fun w4 hB4=>?_;have B4:=qap B3 hB4;have hr4:=(hr.ext hB3).ext hB4;have hl4:=(hle.ext hB3).ext hB4;have hb4:=hb3.ext hB4;have z4:=B4.size;have tk:T.take (k+1)=T.take k++[p]:=by rw [List.take_add_one,hp];rfl
  have lf:∀g:Pl->Bool,((T.take k).filter g).length<=k:=fun g=>le_trans (List.length_filter_le _ _) (by simp;omega);have by112:qc8.i.bytes=112:=qk0;refine cO (fun hf=>?_) fun hf=>?_
  ·refine qal (r:=qah.rep) (x:=p) hb4.cells ?_;have:=lf f;refine qht (E:=qbd) qc8 hr4 (y:=p) rfl z4 (by rw [by112];omega) (by unfold maxLen;omega) fun r' w5 ho5 hc5 hrb=>?_;have hl5:=hl4.chg hc5 fun k hk e=>hne k e hk;rw [w64i (x:=(k:Int)+1) (by omega)];refine hI _ _ ⟨k+1,by simp,by omega,?_,?_,fun k hk=>?_,?_⟩ (by dsimp only;omega)
   ·rw [tk,filter_append,show [p].filter f=[p] by simp [hf]];exact ho5
   ·rw [tk,filter_append,show [p].filter (fun p=>!f p)=[] by simp [hf],append_nil];exact hl5
   ·rcases hrb k hk with h | h
    ·exact hne k h
    ·intro e;have:=(hl4.lt k e).2;omega
   ·exact B4.trans (hc5.below (by omega) fun i hi e=>by have:=(hr4.lt i e).1;omega)
  ·refine qal (r:=qah.rep) (x:=p) hb4.cells ?_;have:=lf fun p=>!f p;refine qht (E:=qbd) qc8 hl4 (y:=p) rfl z4 (le_trans (Nat.mul_le_mul_right _ (Nat.succ_le_succ (lf _))) (by rw [by112];omega)) (le_trans (Nat.succ_le_succ (lf _)) (by unfold maxLen;omega)) fun r' w5 ho5 hc5 hrb=>?_;have hr5:=hr4.chg hc5 fun k hk e=>hne k hk e;rw [w64i (x:=(k:Int)+1) (by omega)];refine hI _ _ ⟨k+1,by simp,by omega,?_,?_,fun k hk e=>?_,?_⟩ (by dsimp only;omega)
   ·rw [tk,filter_append,show [p].filter f=[] by simp [hf],append_nil];exact hr5
   ·rw [tk,filter_append,show [p].filter (fun p=>!f p)=[p] by simp [hf]];exact ho5
   ·rcases hrb k e with h | h
    ·exact hne k hk h
    ·have:=(hr4.lt k hk).2;omega
   ·exact B4.trans (hc5.below (by omega) fun i hi e=>by have:=(hl4.lt i e).1;omega)
 ·have e:=oFq e;have hkT:k=T.length:=by omega
  subst hkT;rw [List.take_length] at hr hle;rw [show (⟨g,0,none⟩:Addr).add 0=⟨g,0,none⟩ from rfl];refine qaj h1.blk (by simp) fun w2 hb2 hg2 hs2=>?_;have hc2:Chg (fun i=>i=g) w1 w2:=Chg.of_grown hg2 fun k hk=>by cases hk;rfl
  have hgl:=h.blk.lt;have nr:∀k,r.blk=some k->¬k=g:=fun k hk e=>by have:=(hr.lt k hk).1;omega
  have nl:∀k,l.blk=some k->¬k=g:=fun k hk e=>by have:=(hle.lt k hk).1;omega
  exact hK r l w2 (hr.chg hc2 nr) ⟨hb2,h.hg,(hle.chg hc2 nl).base hbase⟩ (fun k hk=>(hle.lt k hk).1) hne ((Chg.of_ext (S:=fun k=>k=g) hB).trans hc2 fun i _ hi=>hi)
end
theorem qja {k:Nat} {first caps:Array Value} {args:List Value} {ks:List Kind} {w:World} {K:Go.Vc.Cur ks} (hp:C.plain k=true) (h:callP C.P k (first.toList++args++caps.toList) ks w K):callR C (.func (.func k) first caps) args ks w K:=by
 unfold callR qwe;simp only [hp];exact h
section
variable {w w':World} {base g:Nat} {q:Slc} {T:List Pl}
theorem zfy {b:Nat} {x:Int} (hb:Blk w b qa9 [.int .i64 x]):q0j w (.func (.func qme) #[] #[.pointer (some ⟨b,0,none⟩)]) (fun p=>p.Image==x):=by
 intro w1 p K hB hK;have h:qnq p ⟨b,0,none⟩ w1 K:=by
  refine qtr _ _ ?_;unfold qm0;refine nwb fun w2 hp hB2 hs2=>?_;refine lI (x:=p.Image) (hp.cells 0 _ rfl) (lI (x:=x) ?_ (hK w2 hB2));simpa using ((hb.ext hB).ext hB2).cells 0 _ rfl
 refine qja (by kernel_rfl) (Calls.mono h ?_);rintro e w' ⟨r,rfl,hk⟩;exact ⟨r,rfl,hk⟩
theorem zhq {b:Nat} {x:Int} (hb:Blk w b qa9 [.int .i64 x]):q0j w (.func (.func qm4) #[] #[.pointer (some ⟨b,0,none⟩)]) (fun p=>p.Image==x):=by
 intro w1 p K hB hK;have h:qon p ⟨b,0,none⟩ w1 K:=by
  refine qvn _ _ ?_;unfold qnc;refine nwb fun w2 hp hB2 hs2=>?_;refine lI (x:=p.Image) (hp.cells 0 _ rfl) (lI (x:=x) ?_ (hK w2 hB2));simpa using ((hb.ext hB).ext hB2).cells 0 _ rfl
 refine qja (by kernel_rfl) (Calls.mono h ?_);rintro e w' ⟨r,rfl,hk⟩;exact ⟨r,rfl,hk⟩
theorem za0 {b b2:Nat} {a:PAsk} {v:PV} (hb:Blk w b qg1 (qb8.rep.cells a)) (hb2:Blk w b2 qrc (qbw.rep.cells v)):q0j w (.func (.func qkj) #[] #[.pointer (some ⟨b,0,none⟩),.pointer (some ⟨b2,0,none⟩)]) (fun p=>qjv a p v):=by
 intro w1 p K hB hK;have h:qlq p ⟨b,0,none⟩ ⟨b2,0,none⟩ w1 K:=by
  refine qr2 _ _ _ ?_;unfold qku;refine nwb fun w2 hp hB2 hs2=>?_;refine qal (r:=qb8.rep) (x:=a) ((hb.ext hB).ext hB2).cells (qal (r:=qah.rep) (x:=p) hp.cells (qal (r:=qbw.rep) (x:=v) ((hb2.ext hB).ext hB2).cells ?_));exact zdn fun w3 hB3=>hK w3 (qap hB2 hB3)
 refine qja (by kernel_rfl) (Calls.mono h ?_);rintro e w' ⟨r,rfl,hk⟩;exact ⟨r,rfl,hk⟩
def likeP (p o:Pl):Bool:=(p.Id !=0) && plEq { p with Image:=o.Image,Id:=o.Id } p
theorem zil {b:Nat} {p:Pl} (hb:Blk w b qat (qah.rep.cells p)):q0j w (.func (.func qnr) #[] #[.pointer (some ⟨b,0,none⟩)]) (likeP p):=by
 intro w1 o K hB hK;have h:qoc o ⟨b,0,none⟩ w1 K:=by
  refine quw _ _ ?_;unfold qni;refine nwb fun w2 ho hB2 hs2=>?_;have hb2:=(hb.ext hB).ext hB2;refine qal (r:=qah.rep) (x:=p) hb2.cells ?_;refine qcu (vs:=qah.rep.cells p) rfl fun w3 hl3 hB3 hs3=>?_;have ho3:=(ho.ext hB3).drew;have hl3d:=hl3.drew;refine lI (x:=o.Image) (ho3.cells 0 _ rfl) (lI (x:=o.Id) (ho3.cells 1 _ rfl) ?_);show stK ⟨w2.heap.size,0,none⟩ _ _ _;refine qaj hl3d (by show (0+1:Nat)<=14;omega) fun w4 hl4 hg4 hs4=>?_;have hc4:Chg (fun i=>i=w2.heap.size) w3.drew w4:=Chg.of_grown hg4 fun k hk=>by cases hk;rfl
  have nlo:∀{k:Nat},k<w2.heap.size->¬k=w2.heap.size:=fun h e=>by omega
  have ho4:=ho3.chg hc4 (nlo ho.lt);have hb3:=(hb2.ext hB3).drew;have hb4:=hb3.chg hc4 (nlo hb2.lt);refine ⟨ho4.cells 1 _ rfl,?_⟩;show stK ⟨w2.heap.size,1,none⟩ _ _ _;have hl4':Blk w4 w2.heap.size qat (qah.rep.cells { p with Image:=o.Image }):=hl4;refine qaj hl4' (by show (1+1:Nat)<=14;omega) fun w5 hl5 hg5 hs5=>?_;have hc5:Chg (fun i=>i=w2.heap.size) w4 w5:=Chg.of_grown hg5 fun k hk=>by cases hk;rfl
  have hb5:=hb4.chg hc5 (nlo hb2.lt);have hl5':Blk w5 w2.heap.size qat (qah.rep.cells { p with Image:=o.Image,Id:=o.Id }):=hl5;have z2:w1.heap.size<=w2.heap.size:=hB2.size;have B5:Below w1.heap.size w1 w5:=((qap hB2 hB3).drew.trans (hc4.below (by show w1.heap.size<=w3.heap.size;omega) fun i hi e=>by omega)).trans (hc5.below (by rw [hs4];show w1.heap.size<=w3.heap.size;omega) fun i hi e=>by omega);have hk:=hK w5 B5;unfold likeP at hk;refine lI (x:=p.Id) (by have:=hb5.cells 1 _ rfl;simpa using this) (qb5 hk fun hk=>?_);exact qal (r:=qah.rep) (x:={ p with Image:=o.Image,Id:=o.Id }) hl5'.cells (qal (r:=qah.rep) (x:=p) hb5.cells hk)
 refine qja (by kernel_rfl) (Calls.mono h ?_);rintro e w' ⟨r,rfl,hk⟩;exact ⟨r,rfl,hk⟩
theorem qcg (w:World):Below w.heap.size w w.drew:=(Below.refl _ w).drew
theorem qzp {s:Slc} (hs:Rd qbd w s T) (hl:T.length<=100000) {K:Slc->World->Prop} (hK:∀r w',Go.Vc.Own qbd w' w.heap.size r T->Below w.heap.size w w'->K r w'):qb2 s w K:=by
 refine qhc _ ?_;unfold qea;cases ha:s.a with
 | none =>
  refine cT rfl ?_;have hT:T=[]:=by
   cases T with
   | nil=>rfl
   | cons p r =>
    have:=hs.some_ (by simp);rw [ha] at this;cases this
  rw [hT] at hK;exact hK _ w (Own.nil _ _ _) (Below.refl _ _)
 | some a =>
  refine cF rfl (nwb fun w1 hb hB hs1=>?_);have hz:=hB.size;refine qkd qc8 (qjx (E:=qbd) hb (le_refl _)) (hs.ext hB) hz (by rw [qk0];simp;omega) (by simp;unfold maxLen;omega) fun r w2 ho hg hr=>?_;exact hK r w2 (by simpa using ho) (hB.grown hg hz fun k hk=>by cases hk;exact le_refl _)
theorem q92 (h:PlTM w base g q T) (hl:T.length<=100000) (hbase:base<=w.heap.size) (x:Int) {K:Int->World->Prop}
  (hK:∀n q' w',PlTM w' base g q' (T.filter fun p=>!(p.Image==x))->(∀k,q'.blk=some k->w.heap.size<=k)->Chg (fun k=>k=g) w w'->K n w'):qj4 (some ⟨g,0,none⟩) x w K:=by
 refine qw1 _ _ ?_;unfold qoq;refine nwb fun w1 hb hB1 hs1=>?_;refine quy (h.ext hB1) hl (le_trans hbase hB1.size) (zfy hb) fun r q' w2 hr ht hq hne hc=>?_;exact hK _ q' w2 ht (fun k hk=>le_trans hB1.size (hq k hk)) ((Chg.of_ext (S:=fun k=>k=g) hB1).trans hc fun i _ hi=>hi)
theorem q7p (h:PlTM w base g q T) (hl:T.length<=100000) (hbase:base<=w.heap.size) (a:PAsk) (v:PV) {K:Slc->World->Prop}
  (hK:∀r q' w',Go.Vc.Own qbd w' w.heap.size r (T.filter fun p=>qjv a p v)->PlTM w' base g q' (T.filter fun p=>!qjv a p v)->(∀k,q'.blk=some k->w.heap.size<=k)->(∀k,r.blk=some k->q'.blk≠some k)->Chg (fun k=>k=g) w w'->K r w'):qh1 (some ⟨g,0,none⟩) a v w K:=by
 refine qt0 _ _ _ ?_;unfold qmm;refine nwb fun w1 hb hB1 hs1=>nwb fun w2 hb2 hB2 hs2=>?_;have B2:=qap hB1 hB2;refine quy ((h.ext hB1).ext hB2) hl (le_trans hbase B2.size) (za0 (hb.ext hB2) hb2) fun r q' w3 hr ht hq hne hc=>?_;exact hK r q' w3 (hr.base B2.size) ht (fun k hk=>le_trans B2.size (hq k hk)) hne ((Chg.of_ext (S:=fun k=>k=g) B2).trans hc fun i _ hi=>hi)
theorem zcl (h:PlTM w base g q T) (hl:T.length<=99999) (hbase:base<=w.heap.size) (p:Pl) {K:Int->World->Prop}
  (hE:mayPl p=false->∀w',Below w.heap.size w w'->K 1 w')
  (hK:mayPl p=true->∀q' w',PlTM w' base g q' ((T.filter fun o=>!likeP p o)++[p])->(∀k,q'.blk=some k->w.heap.size<=k)->Chg (fun k=>k=g) w w'->K 0 w'):qlb (some ⟨g,0,none⟩) p w K:=by
 refine qx6 _ _ ?_;unfold qp6;refine nwb fun w1 hb1 hB1 hs1=>?_;refine qal (r:=qah.rep) (x:=p) hb1.cells (zd4 fun w2 hB2=>?_);have B2:=qap hB1 hB2;have hb2:=hb1.ext hB2;cases hm:mayPl p
 ·exact cT rfl (hE hm _ B2)
 ·refine cF rfl ?_;have h2:=(h.ext hB1).ext hB2;have bg:g<w.heap.size:=h.blk.lt;refine quy h2 (by omega) (le_trans hbase B2.size) (zil hb2) fun r q' w3 hr ht hq hne hc=>?_;simp only [onPtr_some];have htd:=ht.drew;have hb3:Blk w3.drew w.heap.size qat (qah.rep.cells p):=(hb2.chg hc fun e=>by omega).drew;have hll:(T.filter fun o=>!likeP p o).length<=T.length:=List.length_filter_le _ _;refine lSl (x:=q') (htd.blk.cells 0 _ rfl) (qal (r:=qah.rep) (x:=p) hb3.cells ?_);have z3:=hc.size;have z2:=B2.size;refine nwb fun w4 hb4 hB4 hs4=>⟨(htd.blk.ext hB4).cells 0 _ rfl,?_⟩;refine qkd qc8 (htd.own.ext hB4) (qwx (E:=qbd) (y:=p) hb4 rfl) (by show base<=w4.heap.size;have:=hB4.size;have e:w3.drew.heap.size=w3.heap.size:=rfl;omega) (by
    show ((T.filter fun o=>!likeP p o).length+1)*qc8.i.bytes<=_;rw [qk0];omega) (by
    show (T.filter fun o=>!likeP p o).length+1<=maxLen;unfold maxLen;omega) fun r5 w5 ho5 hg5 hr5=>?_
  rw [show (⟨g,0,none⟩:Addr).add 0=⟨g,0,none⟩ from rfl];have hblk5:Blk w5 g qce [.slice q'.a q'.n q'.c]:=(htd.blk.ext hB4).grown hg5 fun e=>(htd.ext hB4).ne g e.symm rfl;refine qaj hblk5 (by simp) fun w6 hb6 hg6 hs6=>?_;have hc6:Chg (fun i=>i=g) w5 w6:=Chg.of_grown hg6 fun k hk=>by cases hk;rfl
  have hrb:∀k,r5.blk=some k->w2.heap.size<=k:=by
   intro k hk;rcases hr5 with e | e
   ·rw [e] at hk;exact hq k hk
   ·rw [e] at hk;cases hk;have e:w3.drew.heap.size=w3.heap.size:=rfl;omega
  have ho6:=ho5.chg hc6 fun k hk e=>by have:=hrb k hk;omega
  have hc5:Chg (fun k=>k=g) w w5:=by
   refine (Chg.of_ext (S:=fun k=>k=g) B2).trans ((hc.trans (Chg.of_ext (S:=fun k=>k=g) (qap (qcg w3) hB4)) fun i _ hi=>hi).trans (Chg.of_grown (S:=fun k=>q'.blk=some k) hg5 fun k hk=>hk) ?_) fun i _ hi=>hi;intro i hi e;have:=hq i e;omega
  exact hK hm r5 w6 ⟨hb6,h.hg,ho6⟩ (fun k hk=>le_trans B2.size (hrb k hk)) (hc5.trans hc6 fun i _ hi=>hi)
theorem zdr (h:PlTM w base g q T) (hl:T.length<=100000) (x:Int) {K:Bool->World->Prop} (hK:∀w',Below w.heap.size w w'->K (T.any fun p=>p.Image==x) w'):qk3 (some ⟨g,0,none⟩) x w K:=by
 refine qx0 _ _ ?_;unfold qpy;refine nwb fun w1 hb hB1 hs1=>?_;simp only [onPtr_some];have h1:=h.ext hB1;refine lSl (x:=q) (h1.blk.cells 0 _ rfl) ?_;refine qfs _ _ ?_;unfold qc6;refine qgh _ _ ?_;unfold qdg;have hn:q.n=T.length:=h.own.rd.n;have hG:=zhq hb;refine lpR (fun (st:Int×Unit) w2=>∃k:Nat,st.1=(k:Int)/\k<=T.length/\Below w1.heap.size w1 w2/\(T.take k).any (fun p=>p.Image==x)=false) (fun st=>T.length-st.1.toNat) ⟨0,rfl,zero_le _,Below.refl _ _,rfl⟩ ?_;rintro ⟨i,u⟩ w2 ⟨k,hi,hk,hB2,hany⟩ I hI;dsimp only at hi ⊢;subst hi;have h2:=h1.ext hB2;have B2:=qap hB1 hB2;refine cO (fun e=>?_) fun e=>?_
 ·have e:=oTq e;have hlt:k<T.length:=by omega
  obtain ⟨p,hp⟩:∃p,T[k]?=some p:=⟨_,List.getElem?_eq_getElem hlt⟩;refine h2.own.rd.ix (E:=qbd) (i:=(k:Int)) rfl (by omega) (by omega) fun hx=>?_;have hx:qaw w2 (q.at_ qbd.k (k:Int).toNat) (qah.rep.cells p):=by
   simp only [Int.toNat_natCast] at hx ⊢;have e1:T[k]'hlt=p:=(List.getElem?_eq_some_iff.1 hp).2;rw [e1] at hx;exact hx
  refine qal (r:=qah.rep) (x:=p) hx ?_;refine hG w2 p _ hB2 fun w3 hB3=>?_;have tk:T.take (k+1)=T.take k++[p]:=by rw [List.take_add_one,hp];rfl
  refine cO (fun hf=>?_) fun hf=>?_
  ·rw [dTq (by omega)];have:(T.any fun p=>p.Image==x)=true:=List.any_eq_true.2 ⟨p,List.mem_of_getElem? hp,hf⟩;rw [<-this];exact hK w3 (qap B2 hB3)
  ·rw [w64i (x:=(k:Int)+1) (by omega)];refine hI _ _ ⟨k+1,by simp,by omega,qap hB2 hB3,?_⟩ (by dsimp only;omega);rw [tk,List.any_append,hany];simp [hf]
 ·have e:=oFq e;have hkT:k=T.length:=by omega
  subst hkT;rw [List.take_length] at hany;rw [dFq (by omega),<-hany];exact hK w2 B2
theorem qxf (h:PlTM w base g q T) (hl:T.length<=100000) {K:Slc->World->Prop} (hK:∀r w',Go.Vc.Own qbd w' w.heap.size r T->Below w.heap.size w w'->K r w'):qfa (some ⟨g,0,none⟩) w K:=by
 refine qyd _ ?_;unfold qp8;simp only [onPtr_some];refine lSl (x:=q) (h.blk.cells 0 _ rfl) ?_;exact qzp h.own.rd hl hK
end
set_option maxRecDepth 100000
def sizeL (L:List (Int×Im)):Nat:=(L.map fun p=>p.2.bs.length).sum
structure StOk (n:Nat) (S:St):Prop where
 q0:0<=S.quota
 q1:S.quota<=1073741824
 used:S.used=sizeL S.L
 fits:S.used<=S.quota
 len:S.L.length<=n
 clk0:0<=S.clock
 clk:S.clock<=n
 srt:Srt S.L
 keys:∀p∈S.L,0<p.1/\p.1<=1099511627776+n
 stamps:∀p∈S.L,0<p.2.v.stamp/\p.2.v.stamp<=S.clock
 borns:∀p∈S.L,0<p.2.v.born/\p.2.v.born<=S.clock
 st1:∀p∈S.L,∀q∈S.L,p.2.v.stamp=q.2.v.stamp->p=q
 bo1:∀p∈S.L,∀q∈S.L,p.2.v.born=q.2.v.born->p=q
theorem q6j:sizeL []=0:=rfl
theorem qdt (p:Int×Im) (L:List (Int×Im)):sizeL (p::L)=p.2.bs.length+sizeL L:=rfl
theorem q6k {L:List (Int×Im)} {p:Int×Im} (h:p∈L):p.2.bs.length<=sizeL L:=by
 induction L with
 | nil=>cases h
 | cons a L ih =>
  rw [qdt];rcases mem_cons.1 h with rfl | h
  ·omega
  ·have:=ih h;omega
theorem q6o {L:List (Int×Im)} {k:Int} (h:∀p∈L,p.1≠k):delL L k=L:=List.filter_eq_self.2 fun p hp=>by simpa using h p hp
theorem q1b {L:List (Int×Im)} {k:Int} (h:lookL L k=none):∀p∈L,p.1≠k:=fun p hp e=>by
 unfold lookL at h;rw [Option.map_eq_none_iff,List.find?_eq_none] at h;exact h p hp (by simpa using e)
theorem zfb {L:List (Int×Im)} (hs:Srt L) {k:Int} {x:Im} (h:(k,x)∈L):sizeL (delL L k)+x.bs.length=sizeL L:=by
 induction L with
 | nil=>cases h
 | cons a L ih =>
  have hp:=List.pairwise_cons.1 hs;unfold delL;rw [List.filter_cons];rcases mem_cons.1 h with rfl | h
  ·have:(List.filter (fun p:Int×Im=>p.1 !=k) L)=L:=q6o fun p hq=>by have:=hp.1 p hq;simp at this;omega
   simp only [bne_self_eq_false,Bool.false_eq_true,if_false,this,qdt];omega
  ·have h1:=hp.1 _ h;have:(a.1 !=k)=true:=by simp only [bne_iff_ne];simp at h1;omega
   rw [if_pos this,qdt,qdt];have:=ih hp.2 h;unfold delL at this;omega
theorem q7q {L:List (Int×Im)} (k:Int):(delL L k).length<=L.length:=List.length_filter_le _ _
theorem qxl {L:List (Int×Im)} {k:Int} {x:Im} (h:(k,x)∈L):(delL L k).length<L.length:=by
 unfold delL;exact List.length_filter_lt_length_iff_exists.2 ⟨_,h,by simp⟩
theorem qkh {L:List (Int×Im)} {k:Int} {p:Int×Im} (h:p∈delL L k):p∈L:=(List.mem_filter.1 h).1
def szOf (L:List (Int×Im)) (k:Int):Nat:=((lookL L k).map fun x=>x.bs.length).getD 0
theorem zjp {L:List (Int×Im)} (hs:Srt L) (k:Int):szOf L k<=sizeL L:=by
 unfold szOf;cases h:lookL L k with
 | none=>exact zero_le _
 | some x=>exact q6k ((qc1 hs).1 h)
theorem zcb {L:List (Int×Im)} (hs:Srt L) (k:Int):sizeL (delL L k)+szOf L k=sizeL L:=by
 unfold szOf;cases h:lookL L k with
 | none=>rw [q6o (q1b h)];rfl
 | some x=>exact zfb hs ((qc1 hs).1 h)
def St.drop (S:St) (k:Int):St:={ S with used:=S.used-(szOf S.L k:Int),L:=delL S.L k }
theorem qsj {n:Nat} {S:St} (h:StOk n S) (k:Int):StOk n (S.drop k):=by
 have h1:=zcb h.srt k;have h2:=h.used;have h3:=h.fits;exact ⟨h.q0,h.q1,by show S.used-(szOf S.L k:Int)=(sizeL (delL S.L k):Int);omega,by show S.used-(szOf S.L k:Int)<=S.quota;omega,
  le_trans (q7q k) h.len,h.clk0,h.clk,q3c h.srt k,fun p hp=>h.keys p (qkh hp),fun p hp=>h.stamps p (qkh hp),fun p hp=>h.borns p (qkh hp),
  fun p hp q hq=>h.st1 p (qkh hp) q (qkh hq),fun p hp q hq=>h.bo1 p (qkh hp) q (qkh hq)⟩
def eldP:(Int×Im)->List (Int×Im)->Int×Im
 | p,[]=>p
 | p,q::r=>if q.2.v.stamp<p.2.v.stamp then eldP q r else eldP p r
theorem qyk:∀(L:List (Int×Im)) (p:Int×Im),eldP p L∈p::L
 | [],p=>by simp [eldP]
 | q::r,p=>by
  unfold eldP;split
  ·exact List.mem_cons_of_mem _ (qyk r q)
  ·rcases mem_cons.1 (qyk r p) with e | e
   ·rw [e];exact List.mem_cons_self
   ·exact List.mem_cons_of_mem _ (List.mem_cons_of_mem _ e)
theorem q46:∀(L:List (Int×Im)) (p:Int×Im),∀x∈p::L,(eldP p L).2.v.stamp<=x.2.v.stamp
 | [],p=>fun x hx=>by
  rw [mem_singleton] at hx;subst hx;exact Int.le_refl _
 | q::r,p=>fun x hx=>by
  unfold eldP;split
  ·rename_i hlt;have h1:=q46 r q;rcases mem_cons.1 hx with rfl | hx
   ·have:=h1 q List.mem_cons_self;omega
   ·exact h1 x hx
  ·rename_i hlt;have h1:=q46 r p;rcases mem_cons.1 hx with rfl | hx
   ·exact h1 x List.mem_cons_self
   ·rcases mem_cons.1 hx with rfl | hx
    ·have:=h1 p List.mem_cons_self;omega
    ·exact h1 x (List.mem_cons_of_mem _ hx)
def qee:List (Int×Im)->Int
 | []=>0
 | p::r=>(eldP p r).1
theorem zch {n:Nat} {S:St} (h:StOk n S) {p:Int×Im} (hp:p∈S.L) (hmin:∀q∈S.L,p.2.v.stamp<=q.2.v.stamp):qee S.L=p.1:=by
 cases hL:S.L with
 | nil=>rw [hL] at hp;cases hp
 | cons a r =>
  rw [hL] at hp hmin;have h1:=qyk r a;have h2:=q46 r a p hp;have h3:=hmin _ h1;have:=h.st1 p (by rw [hL];exact hp) _ (by rw [hL];exact h1) (by omega);show (eldP a r).1=p.1;rw [<-this]
theorem qx5 {L:List (Int×Im)} (h:L≠[]):∃x,(qee L,x)∈L:=by
 cases L with
 | nil=>exact absurd rfl h
 | cons a r=>exact ⟨(eldP a r).2,qyk r a⟩
def St.roomF (n:Int):Nat->St->List Int->St×List Int
 | 0,S,G=>(S,G)
 | f+1,S,G=>if S.used>S.quota-n/\0<S.L.length then St.roomF n f (S.drop (qee S.L)) (G++[qee S.L]) else (S,G)
def St.room (S:St) (n:Int):St×List Int:=S.roomF n S.L.length []
theorem q3o (n:Int):∀(f:Nat) (S:St) (G:List Int),S.L.length<=f->S.roomF n (f+1) G=S.roomF n f G
 | 0,S,G,h=>by
  show (if S.used>S.quota-n/\0<S.L.length then _ else (S,G))=(S,G);rw [if_neg (by omega)]
 | f+1,S,G,h=>by
  show (if S.used>S.quota-n/\0<S.L.length then St.roomF n (f+1) (S.drop (qee S.L)) (G++[qee S.L]) else (S,G))=(if S.used>S.quota-n/\0<S.L.length then St.roomF n f (S.drop (qee S.L)) (G++[qee S.L]) else (S,G));by_cases hc:S.used>S.quota-n/\0<S.L.length
  ·rw [if_pos hc,if_pos hc];refine q3o n f _ _ ?_;obtain ⟨x,hx⟩:=qx5 (L:=S.L) (by intro e;rw [e] at hc;simp at hc);have:=qxl hx;show (delL S.L (qee S.L)).length<=f;omega
  ·rw [if_neg hc,if_neg hc]
theorem zi7 (n:Int) {f:Nat} {S:St} {G:List Int} (h:S.L.length<=f):S.roomF n f G=S.roomF n S.L.length G:=by
 induction f with
 | zero=>rw [show S.L.length=0 by omega]
 | succ f ih =>
  by_cases hf:S.L.length=f+1
  ·rw [hf]
  ·rw [q3o n f S G (by omega),ih (by omega)]
theorem qw9 {m:Nat} (n:Int):∀(f:Nat) {S:St} {G:List Int},StOk m S->StOk m (S.roomF n f G).1
 | 0,_,_,h=>h
 | f+1,S,G,h=>by
  unfold St.roomF;split
  ·exact qw9 n f (qsj h _)
  ·exact h
theorem q1g (n:Int):∀(f:Nat) (S:St) (G:List Int),(S.roomF n f G).1.quota=S.quota/\(S.roomF n f G).1.res=S.res/\(S.roomF n f G).1.clock=S.clock
 | 0,_,_=>⟨rfl,rfl,rfl⟩
 | f+1,S,G=>by
  unfold St.roomF;split
  ·exact q1g n f _ _
  ·exact ⟨rfl,rfl,rfl⟩
theorem q4r {m:Nat} {n:Int} (hn:0<=n):∀(f:Nat) {S:St} {G:List Int},StOk m S->n<=S.quota->S.L.length<=f->(S.roomF n f G).1.used<=S.quota-n
 | 0,S,G,h,hq,hl=>by
  show S.used<=S.quota-n;have:=h.used;rw [List.eq_nil_of_length_eq_zero (by omega:S.L.length=0),q6j] at this;omega
 | f+1,S,G,h,hq,hl=>by
  unfold St.roomF;by_cases hc:S.used>S.quota-n/\0<S.L.length
  ·rw [if_pos hc];obtain ⟨x,hx⟩:=qx5 (L:=S.L) (by intro e;rw [e] at hc;simp at hc);have:=qxl hx;exact q4r hn f (qsj h _) hq (by show (delL S.L (qee S.L)).length<=f;omega)
  ·rw [if_neg hc];by_cases hz:S.L.length=0
   ·have:=h.used;rw [List.eq_nil_of_length_eq_zero hz,q6j] at this;show S.used<=_;omega
   ·show S.used<=_;omega
section
variable {w:World} {base g r n:Nat} {S:St}
theorem zbj {m:Sem Unit} {w w':World} {K:Option Value->World->Prop} (h:m.run PG w=.ok () w') (hK:K none w'):runU PG m w K:=⟨w',h,hK⟩
abbrev onS (g r:Nat):Nat->Prop:=fun k=>k=g\/k=r
theorem StM.own_blk (h:StM w base g r S):∀p∈S.L,∀k,p.2.v.m.P.blk=some k->¬onS g r k:=fun p hp k hk e=>by
 have:=h.img_ne hp hk;rcases e with e | e
 ·exact this.1 e
 ·exact this.2 e
theorem zi9 (h:StM w base g r S) (id:Int):(((lookL S.L id).map Im.v).getD nilI).m.P.n=szOf S.L id:=by
 unfold szOf;cases hl:lookL S.L id with
 | none=>rfl
 | some x=>exact (h.img _ ((qc1 h.map.srt).1 hl)).rd.n
theorem qz6 (h:StM w base g r S) {K:World->Prop} (hK:∀w',StM w' base g r { S with res:=0 }->Chg (onS g r) w w'->w'.heap.size=w.heap.size->K w'):qe2 (some ⟨g,0,none⟩) w K:=by
 refine qs6 _ ?_;unfold qlj;refine qa3 ?_;rw [qas];refine qaj h.blk (by simp [St.cells]) fun w1 hb1 hg1 hs1=>?_;have hc:Chg (onS g r) w w1:=(Chg.gg hg1).mono fun i _ hi=>.inl hi;refine hK w1 ⟨hb1,h.map.chg (Chg.gg hg1) h.ne,fun p hp=>(h.img p hp).chg hc (h.own_blk p hp)⟩ hc hs1
theorem q1f (h:StM w base g r S) (hk:StOk n S) (id:Int) {K:Bool->World->Prop}
  (hK:∀w',StM w' base g r (S.drop id)->Chg (onS g r) w w'->K (lookL S.L id).isSome w'):qev (some ⟨g,0,none⟩) id w K:=by
 refine qwo _ _ ?_;unfold qor;refine qa3 (qgf (x:=some r) (h.blk.cells 4 _ rfl) (q1j h.map id ?_));have hn:=zi9 h id;generalize hv:((lookL S.L id).map Im.v).getD nilI=v at hn;refine qsm fun w1 hb1 hB1 hs1=>?_;have h1:=h.ext hB1;refine qa3 (lI (x:=S.used) (h1.blk.drew.cells 2 _ rfl) ?_);refine lSl (x:=v.m.P) (by rw [qsk];exact hb1.drew.cells 3 _ rfl) ?_;refine qa3 ?_;rw [qas,hn];refine qaj h1.blk.drew (by simp [St.cells]) fun w2 hb2 hg2 hs2=>?_;have hu:=hk.used;have hz:=zjp hk.srt id;have hq:=hk.fits;have hq1:=hk.q1;rw [w64i (by omega)] at hb2;have hb2:Blk w2 g qbu (({ S with used:=S.used-(szOf S.L id:Int) }:St).cells r):=hb2;have hm2:MapM Im.enc w2 r S.L:=h1.drew.map.chg (Chg.gg hg2) h.ne;refine qa3 (qgf (x:=some r) (hb2.cells 4 _ rfl) ?_);obtain ⟨w3,hr3,hm3,hc3,hs3⟩:=hm2.delete tmap tint id q1i;refine ⟨_,w3,hr3,hK w3 ⟨?_,hm3,fun p hp=>?_⟩ ?_⟩
 ·exact hb2.chg hc3 fun e=>h.ne e.symm
 ·have hp':p∈S.L:=qkh hp;exact (((h1.img p hp').drew).chg (Chg.gg hg2) fun k hk=>(h.img_ne hp' hk).1).chg hc3 fun k hk=>(h.img_ne hp' hk).2
 ·have c1:Chg (onS g r) w w1:=Chg.of_ext hB1;have c2:Chg (onS g r) w1 w1.drew:=Chg.of_ext (Below.refl _ w1).drew;exact ((c1.trans c2 fun i _ hi=>hi).trans (Chg.gg hg2) fun i _ hi=>.inl hi).trans hc3 fun i _ hi=>.inr hi
def St.use (S:St) (id:Int):St:=match lookL S.L id with
 | some x=>{ S with clock:=S.clock+1,L:=putL' S.L id { x with v:={ x.v with stamp:=S.clock+1 } } }
 | none=>S
theorem zit (h:StM w base g r S) (hk:StOk n S) (hn:n<=1000) (id:Int) {K:Bool->World->Prop}
  (hK:∀w',StM w' base g r (S.use id)->Chg (onS g r) w w'->K (lookL S.L id).isSome w'):qle (some ⟨g,0,none⟩) id w K:=by
 refine qx8 _ _ ?_;unfold qp2;refine qa3 (qgf (x:=some r) (h.blk.cells 4 _ rfl) (q1j h.map id ?_));have huse:S.use id=match lookL S.L id with
  | some x=>{ S with clock:=S.clock+1,L:=putL' S.L id { x with v:={ x.v with stamp:=S.clock+1 } } }
  | none=>S:=rfl
 cases hl:lookL S.L id with
 | none =>
  rw [hl] at hK huse;rw [huse] at hK;refine qsm fun w1 hb1 hB1 hs1=>?_;exact cF rfl (hK w1 (h.ext hB1) (Chg.of_ext hB1))
 | some x =>
  rw [hl] at hK huse;rw [huse] at hK;have hx:=(qc1 hk.srt).1 hl;refine qsm fun w1 hb1 hB1 hs1=>?_;have hb1:Blk w1 w.heap.size qcf (qar.rep.cells x.v):=hb1;have h1:=h.ext hB1;refine cT rfl ?_;have hc0:=hk.clk0;have hc1:=hk.clk;refine qa3 (lI (x:=S.clock) (h1.blk.cells 3 _ rfl) (qa3 ?_));rw [qas];refine qaj h1.blk (by simp [St.cells]) fun w2 hb2 hg2 hs2=>?_;rw [w64i (by omega)] at hb2;have hb2:Blk w2 g qbu (({ S with clock:=S.clock+1 }:St).cells r):=hb2;have hm2:MapM Im.enc w2 r S.L:=h1.map.chg (Chg.gg hg2) h.ne;have hbx2:=hb1.chg (Chg.gg hg2) fun e=>by have:=h.blk.lt;omega
  refine qa3 (lI (x:=S.clock+1) (hb2.cells 3 _ rfl) ?_);rw [qas];refine qaj hbx2 (by simp [qar.rep]) fun w3 hb3 hg3 hs3=>?_;have hb3:Blk w3 w.heap.size qcf (qar.rep.cells { x.v with stamp:=S.clock+1 }):=hb3;have hgl:=h.blk.lt;have hrl:=h.map.lt;have hb23:=hb2.chg (Chg.gg hg3) fun e=>by omega
  have hm3:MapM Im.enc w3 r S.L:=hm2.chg (Chg.gg hg3) fun e=>by omega
  refine qa3 (qgf (x:=some r) (hb23.drew.cells 4 _ rfl) ?_);refine qal (x:={ x.v with stamp:=S.clock+1 }) hb3.drew.cells ?_;obtain ⟨w4,hr4,hm4,hc4,hs4⟩:=(hm3.keep (w':=w3.drew) rfl).update tmap tint (k:=id) (by have:=hk.keys _ hx;simp at this;omega) (enc:=Im.enc) { x with v:={ x.v with stamp:=S.clock+1 } };have cAll:Chg (onS g r) w w4:=by
   have c1:Chg (onS g r) w w1:=Chg.of_ext hB1;have c3:Chg (fun k=>k=g\/k=w.heap.size) w1 w3:=((Chg.gg hg2).mono (S':=fun k=>k=g\/k=w.heap.size) fun i _ hi=>.inl hi).trans (Chg.gg hg3) fun i _ hi=>.inr hi;have c5:Chg (onS g r) w3 w4:=((Chg.of_ext (S:=onS g r) (Below.refl _ w3).drew)).trans hc4 fun i _ hi=>.inr hi;refine (c1.trans c3 fun i hi e=>?_).trans c5 fun i _ hi=>hi;rcases e with e | e
   ·exact .inl e
   ·omega
  refine zbj hr4 (hK w4 ⟨?_,hm4,fun p hp=>?_⟩ cAll)
  ·exact hb23.drew.chg hc4 fun e=>h.ne e.symm
  ·obtain ⟨a,b⟩:=p;rcases (qh2 hk.srt _ _ a b).1 hp with ⟨rfl,rfl⟩ | ⟨_,hp'⟩
   ·exact (h.img _ hx).chg cAll (h.own_blk _ hx)
   ·exact (h.img _ hp').chg cAll (h.own_blk _ hp')
end
def bsOf (L:List (Int×Im)) (k:Int):List UInt8:=((lookL L k).map Im.bs).getD []
def vOf (L:List (Int×Im)) (k:Int):qar:=((lookL L k).map Im.v).getD nilI
def qj0 (L:List (Int×Im)) (n b:Int) (ok:Bool):Prop :=
 (ok=false/\b=0/\∀p∈L,¬(n≠0/\p.2.v.number=n))\/(ok=true/\∃x,(b,x)∈L/\n≠0/\x.v.number=n/\∀p∈L,p.2.v.number=n->p.2.v.born<=x.v.born)
theorem qj0.one {m:Nat} {S:St} (hk:StOk m S) {n b b':Int} {ok ok':Bool} (h:qj0 S.L n b ok) (h':qj0 S.L n b' ok'):b=b'/\ok=ok':=by
 rcases h with ⟨rfl,rfl,h⟩ | ⟨rfl,x,hx,hn,hxn,hm⟩
 ·rcases h' with ⟨rfl,rfl,_⟩ | ⟨rfl,x',hx',hn',hxn',_⟩
  ·exact ⟨rfl,rfl⟩
  ·exact absurd ⟨hn',hxn'⟩ (h _ hx')
 ·rcases h' with ⟨rfl,rfl,h'⟩ | ⟨rfl,x',hx',hn',hxn',hm'⟩
  ·exact absurd ⟨hn,hxn⟩ (h' _ hx)
  ·have h1:=hm _ hx' hxn';have h2:=hm' _ hx hxn;have:=hk.bo1 _ hx _ hx' (by simp at h1 h2 ⊢;omega);exact ⟨congrArg Prod.fst this,rfl⟩
section
variable {w:World} {base g r n:Nat} {S:St}
theorem StM.bsRd (h:StM w base g r S) (id:Int):Rd qae w (vOf S.L id).m.P (bsOf S.L id):=by
 unfold vOf bsOf;cases hl:lookL S.L id with
 | none=>exact Rd.nil _ _
 | some x=>exact (h.img _ ((qc1 h.map.srt).1 hl)).rd
theorem zj3 (h:StOk n S) (id:Int):(bsOf S.L id).length<=1073741824:=by
 have h1:=h.used;have h2:=h.fits;have h3:=h.q1;unfold bsOf;cases hl:lookL S.L id with
 | none=>exact zero_le _
 | some x =>
  have:=q6k ((qc1 h.srt).1 hl);show x.bs.length<=_;simp at this;omega
theorem qyc (h:StM w base g r S) (hk:StOk n S) (id:Int) {K:qac->Bool->World->Prop}
  (hK:∀P w',Go.Vc.Own qae w' w.heap.size P (bsOf S.L id)->Below w.heap.size w w'->K ⟨(vOf S.L id).m.W,(vOf S.L id).m.H,P⟩ (lookL S.L id).isSome w'):qd7 (some ⟨g,0,none⟩) id w K:=by
 refine qxc _ _ ?_;unfold qp5;refine nwb fun w1 hb1 hB1 hs1=>?_;have h1:=h.ext hB1;refine qxb h1 id fun w2 hB2=>?_;have h2:=h1.ext hB2;have hrd:=h2.bsRd id;have hle:=zj3 hk id;have hsz2:=hB2.size;unfold vOf at hrd hK;generalize ((lookL S.L id).map Im.v).getD nilI=v at hrd hK ⊢;refine nwb fun w3 hb3 hB3 hs3=>?_;refine qaj hb3 (by simp [qac.rep]) fun w4 hb4 hg4 hs4=>?_;have hb4:Blk w4 w2.heap.size qaq (qac.rep.cells v.m):=hb4;refine lSl (x:=v.m.P) (hb4.cells 2 _ rfl) ?_;have hB24:Below w2.heap.size w2 w4:=hB3.grown hg4 (by omega) fun k hk=>by cases hk;exact le_refl _
 refine qgp (hrd.ext hB24) (by omega) fun q w5 ho5 hB5=>?_;rw [qas];have hb5:=hb4.ext hB5;refine qaj hb5 (by simp [qac.rep]) fun w6 hb6 hg6 hs6=>?_;have hb6:Blk w6 w2.heap.size qaq (qac.rep.cells { v.m with P:=q }):=hb6;refine qal (x:={ v.m with P:=q }) hb6.cells ?_;have hsz5:=hB5.size;have hb16:Blk w6 w.heap.size qaq [(.int .i64 0),(.int .i64 0),(.slice none 0 0)]:=(((hb1.ext hB2).ext hB24).ext hB5).chg (Chg.gg hg6) fun e=>by omega
 refine qaj hb16 (by simp [qac.rep]) fun w7 hb7 hg7 hs7=>?_;have hb7:Blk w7 w.heap.size qaq (qac.rep.cells { v.m with P:=q }):=hb7;refine qal (x:={ v.m with P:=q }) hb7.cells ?_;have ho7:Go.Vc.Own qae w7 w.heap.size q (bsOf S.L id):=((ho5.chg (Chg.gg hg6) fun k hk=>qo9 ho5 hb5 (by decide) k hk).chg (Chg.gg hg7) fun k hk e=>by
  have:=(ho5.lt k hk).1;omega).base (by omega)
 refine hK q w7 ho7 ?_;have c:Chg (fun k=>w.heap.size<=k) w w7:=((((Chg.of_ext hB1).trans (Chg.of_ext hB2) fun i _ hi=>hi).trans (Chg.of_ext hB24) fun i _ hi=>hi).trans (Chg.of_ext hB5) fun i _ hi=>hi).trans (((Chg.gg hg6).mono (S':=fun k=>w.heap.size<=k) fun i _ hi=>by omega).trans (Chg.gg hg7) fun i _ hi=>by omega) fun i _ hi=>hi;exact c.ext fun i hi e=>by omega
theorem zhb (h:StM w base g r S) (hk:StOk n S) (hn:n<=1000) {K:Slc->World->Prop}
  (hK:∀q w',Go.Vc.Own E_int w' w.heap.size q (S.L.map (·.1))->Below w.heap.size w w'->K q w'):qe9 (some ⟨g,0,none⟩) w K:=by
 refine qxz _ ?_;unfold qqh;refine qa3 (qgf (x:=some r) (h.blk.cells 4 _ rfl) (q6m ?_));have hB:Below w.heap.size w (w.alloc (.cells #[.map (some r)] 98)):=(Below.refl _ w).alloc (le_refl _) _;have hb:Blk (w.alloc (.cells #[.map (some r)] 98)) w.heap.size 98 [.map (some r)]:=Blk.new w 98 [.map (some r)];have hl:=hk.len;refine q98 (L:=S.L) (h.map.ext hB) (by omega) (hb.cell 0 rfl) fun q w' ho hB'=>?_;have hs:(w.alloc (.cells #[.map (some r)] 98)).heap.size=w.heap.size+1:=by show (w.heap.push _).size=_;simp
 exact hK q w' (ho.base (by omega)) (hB.trans (hB'.mono (by omega)))
def qjy (D:List (Int×Im)) (n b bo:Int):Prop :=
 (b=0/\bo=0/\∀p∈D,¬(n≠0/\p.2.v.number=n))\/(∃x,(b,x)∈D/\n≠0/\x.v.number=n/\x.v.born=bo/\0<bo/\∀p∈D,p.2.v.number=n->p.2.v.born<=bo)
theorem qjy.yes {D:List (Int×Im)} {n b bo k:Int} {x:Im} (h:qjy D n b bo) (hn:n≠0) (hx:x.v.number=n) (hb:x.v.born>bo) (h0:0<=bo):qjy (D++[(k,x)]) n k x.v.born:=by
 refine .inr ⟨x,by simp,hn,hx,rfl,by omega,fun p hp hpn=>?_⟩;rcases mem_append.1 hp with hp | hp
 ·rcases h with ⟨_,_,h⟩ | ⟨_,_,_,_,_,_,h⟩
  ·exact absurd ⟨hn,hpn⟩ (h p hp)
  ·have:=h p hp hpn;omega
 ·rw [mem_singleton] at hp;subst hp;exact Int.le_refl _
theorem qjy.no {D:List (Int×Im)} {n b bo k:Int} {x:Im} (h:qjy D n b bo) (hx:¬(n≠0/\x.v.number=n/\x.v.born>bo)) (h1:0<x.v.born):qjy (D++[(k,x)]) n b bo:=by
 rcases h with ⟨rfl,rfl,h⟩ | ⟨y,hy,hn,hyn,hyb,h0,h⟩
 ·refine .inl ⟨rfl,rfl,fun p hp=>?_⟩;rcases mem_append.1 hp with hp | hp
  ·exact h p hp
  ·rw [mem_singleton] at hp;subst hp;exact fun ⟨a,b⟩=>hx ⟨a,b,h1⟩
 ·refine .inr ⟨y,List.mem_append_left _ hy,hn,hyn,hyb,h0,fun p hp hpn=>?_⟩;rcases mem_append.1 hp with hp | hp
  ·exact h p hp hpn
  ·rw [mem_singleton] at hp;subst hp;show x.v.born<=bo;exact Int.not_lt.1 fun c=>hx ⟨hn,hpn,c⟩
theorem qjy.nonneg {D:List (Int×Im)} {n b bo:Int} (h:qjy D n b bo):0<=bo:=by
 rcases h with ⟨_,rfl,_⟩ | ⟨_,_,_,_,_,h,_⟩
 ·exact Int.le_refl _
 ·omega
theorem qjy.res {D L:List (Int×Im)} {n b bo:Int} (h:qjy D n b bo) (hp:D.Perm L):qj0 L n b (decide (bo>0)):=by
 rcases h with ⟨rfl,rfl,h⟩ | ⟨y,hy,hn,hyn,hyb,h0,h⟩
 ·exact .inl ⟨rfl,rfl,fun p hp'=>h p (hp.mem_iff.2 hp')⟩
 ·refine .inr ⟨dTq h0,y,hp.mem_iff.1 hy,hn,hyn,fun p hp' hpn=>?_⟩;rw [hyb];exact h p (hp.mem_iff.2 hp') hpn
theorem qu1 {m:Nat} (h:StM w base g r S) (hk:StOk m S) (n:Int) {K:Int->Bool->World->Prop}
  (hK:∀b ok w',qj0 S.L n b ok->Below w.heap.size w w'->K b ok w'):qdy (some ⟨g,0,none⟩) n w K:=by
 refine qtt _ _ ?_;unfold qha;refine qa3 (qgf (x:=some r) (h.blk.cells 4 _ rfl) ?_);refine zc7 h.map tmap fun w1 hI1 hB1 hs1=>?_;refine qg4 (Inv:=fun k (s:Int×Int×Unit) w2=>∃D todo:List (Int×Im),k=todo.length/\MapI Im.enc w2 r w.heap.size S.L todo/\(D++todo).Perm S.L/\qjy D n s.1 s.2.1/\Chg (fun i=>i=w.heap.size) w w2/\w.heap.size<w2.heap.size) S.L.length
  ⟨[],S.L,rfl,hI1,.refl _,.inl ⟨rfl,rfl,fun p hp=>by cases hp⟩,Chg.of_ext hB1,by omega⟩ ?_
 rintro k ⟨b,bo,⟨⟩⟩ w2 ⟨D,todo,rfl,hI,hp,hN,hc,hlt⟩ I hI';refine zfj hI q1i (fun e=>?_) fun k1 v1 w3 todo' hp1 hI3 hc3 hs3 hent=>?_
 ·subst e;rw [append_nil] at hp;exact hK _ _ w2 (hN.res hp) (hc.ext fun i hi e=>by omega)
 ·have hxL:(k1,v1)∈S.L:=hp.mem_iff.1 (List.mem_append_right _ (hp1.mem_iff.2 List.mem_cons_self));refine ⟨k1,v1.v,w3,hent,?_⟩;refine qsm fun w4 hb4 hB4 hs4=>?_;have hc4:Chg (fun i=>i=w.heap.size) w w4:=(hc.trans hc3 fun i _ hi=>hi).trans (Chg.of_ext hB4) fun i _ hi=>hi;have hI4:=hI3.ext hB4;have hlen:todo'.length<todo.length:=by rw [hp1.length_eq];simp
  have hpn:((D++[(k1,v1)])++todo').Perm S.L:=by
   refine List.Perm.trans ?_ hp;rw [List.append_assoc];exact hp1.symm.append_left D
  have hbo:=hN.nonneg;have hvb:=(hk.borns _ hxL).1;refine jpO fun J hJ=>?_;have fin:∀c:Bool,(c=true↔n≠0/\v1.v.number=n/\v1.v.born>bo)->J (c,()) w4:=fun c hcc=>by
   refine hJ _ _ ?_;cases c with
   | true =>
    obtain ⟨h1,h2,h3⟩:=hcc.1 rfl;refine cT rfl (lI (x:=v1.v.born) (hb4.drew.cells 5 _ rfl) ?_);exact hI' _ _ _ ⟨_,_,rfl,hI4.keep rfl rfl,hpn,hN.yes h1 h2 h3 hbo,hc4.trans (Chg.of_ext (Below.refl _ w4).drew) fun i _ hi=>hi,by show w.heap.size<w4.heap.size;omega⟩ hlen
   | false =>
    refine cF rfl ?_;exact hI' _ _ _ ⟨_,_,rfl,hI4,hpn,hN.no (fun hc=>by have:=hcc.2 hc;cases this) hvb,hc4,by omega⟩ hlen
  refine cO (fun e1=>?_) fun e1=>?_
  ·have e1:=bne_iff_ne.1 e1;refine lI (x:=v1.v.number) (hb4.cells 0 _ rfl) ?_;refine cO (fun e2=>?_) fun e2=>?_
   ·have e2:=eq_of_beq e2;refine lI (x:=v1.v.born) (hb4.cells 5 _ rfl) (fin _ ?_);rw [decide_eq_true_iff];exact ⟨fun h=>⟨e1,e2,h⟩,fun h=>h.2.2⟩
   ·refine fin _ ⟨(fun h=>by cases h),fun h=>?_⟩;rw [h.2.1] at e2;simp at e2
  ·refine fin _ ⟨(fun h=>by cases h),fun h=>?_⟩;simp at e1;exact absurd e1 h.1
end
abbrev stOf (L:List (Int×Im)) (k:Int):Int:=(vOf L k).stamp
section
variable {w:World} {base g r n:Nat} {S:St}
theorem q0s {x y:Int} {K:Int->World->Prop} (hK:∀c:Int,(c<0↔x<y)->K c w):qfz x y w K:=by
 refine qut _ _ ?_;unfold qno;refine qn1 _ ?_;unfold qjc;refine qn1 _ ?_;unfold qjc;refine cF (by simp) (cF (by simp) (cO (fun h=>?_) fun h=>cO (fun h'=>?_) fun h'=>?_))
 ·exact hK _ ⟨fun _=>oTq h,fun _=>by decide⟩
 ·have:=oFq h;exact hK _ ⟨fun h=>absurd h (by decide),fun h=>absurd h this⟩
 ·have:=oFq h;exact hK _ ⟨fun h=>absurd h (by decide),fun h=>absurd h this⟩
theorem zd2 {bx:Nat} (h:StM w base g r S) (hb:Blk w bx qho [(.pointer (some ⟨g,0,none⟩))]) (a b:Int) {K:Int->World->Prop}
  (hK:∀c:Int,(c<0↔stOf S.L a<stOf S.L b)->K c w.drew):qhm a b ⟨bx,0,none⟩ w K:=by
 refine qt6 _ _ _ ?_;unfold qmq;have hd:=h.drew;have e1:World.cell? w.drew ⟨bx,0,none⟩=some (.pointer (some ⟨g,0,none⟩)):=hb.drew.cell 0 rfl;have e2:World.cell? w.drew ((⟨g,0,none⟩:Addr).add 4)=some (.map (some r)):=hd.blk.cells 4 _ rfl;refine qa8 (x:=some ⟨g,0,none⟩) e1 (qa3 (qgf (x:=some r) e2 ?_));refine qa8 (x:=some ⟨g,0,none⟩) e1 (qa3 (qgf (x:=some r) e2 ?_));refine ⟨q1k hd.map a ⟨e2,e1,q1k hd.map b ⟨e2,e1,q0s hK⟩⟩,?_⟩;exact q1k hd.map b ⟨e2,e1,q1k hd.map a ⟨e2,e1,q0s hK⟩⟩
theorem ziz {bx:Nat} {x:Slc} {xs:List Int} (h:StM w base g r S) (hb:Blk w bx qho [(.pointer (some ⟨g,0,none⟩))]) (hx:Rd E_int w x xs) (hne:0<xs.length) (hlen:xs.length<=1000000) {K:Int->World->Prop}
  (hK:∀m w',m∈xs->(∀k∈xs,stOf S.L m<=stOf S.L k)->Below w.heap.size w w'->K m w'):qfy x (.func (.func qmx) #[] #[(.pointer (some ⟨bx,0,none⟩))]) w K:=by
 refine qp7 _ _ ?_;unfold qi1;rw [hx.n];refine jpO fun J hJ=>?_;refine cF (dFq (by omega)) (hJ _ _ ?_);refine hx.ix (i:=0) rfl (by omega) (by omega) fun h0=>?_;refine lI (x:=xs[((0:Int)).toNat]) (by simpa using h0 0 _ rfl) ?_;refine lpR (Inv:=fun (s:Int×Int×Unit) w2=>∃j:Nat,s.2.1=(j:Int)/\1<=j/\j<=xs.length/\s.1∈xs/\(∀k∈xs.take j,stOf S.L s.1<=stOf S.L k)/\Below w.heap.size w w2) (μ:=fun s=>xs.length-s.2.1.toNat) ?_ ?_
 ·refine ⟨1,rfl,le_refl _,hne,List.getElem_mem _,fun k hk=>?_,Below.refl _ w⟩;cases xs with
  | nil=>simp at hne
  | cons a xs =>
   simp at hk;subst hk;exact Int.le_refl _
 ·rintro ⟨m,i,⟨⟩⟩ w2 ⟨j,hj,hj1,hj2,hm,hmin,hB⟩ I hI;have hj:i=(j:Int):=hj;subst hj;refine cO (fun hlt=>?_) fun hge=>?_
  ·have hlt:j<xs.length:=by have:=oTq hlt;omega
   have hx2:=hx.ext hB;refine hx2.ix (i:=(j:Int)) rfl (by omega) (by omega) fun hc=>?_;refine lI (x:=xs[((j:Int)).toNat]) (by simpa using hc 0 _ rfl) ?_;have ej:xs[((j:Int)).toNat]'(by omega)=xs[j]:=by simp
   refine qgq (by kernel_rfl) ?_;have hcall:qhm (xs[((j:Int)).toNat]) m ⟨bx,0,none⟩ w2 (fun t26 w3=>cond (decide (t26<(0:Int)))
     (ixK x (j:Int) 1 fun t30=>ldI .i64 t30 w3 fun t31=>I (t31,(i64.wrap ((j:Int)+(1:Int))),()) w3)
     (I (m,(i64.wrap ((j:Int)+(1:Int))),()) w3)):=by
    refine zd2 (h.ext hB) (hb.ext hB) _ _ fun c hc'=>?_;rw [w64i (by omega)];have hBd:=hB.drew;have htake:∀k∈xs.take (j+1),k∈xs.take j\/k=xs[j]:=fun k hk=>by
     rw [List.take_add_one,List.getElem?_eq_getElem hlt] at hk;rcases mem_append.1 hk with hk | hk
     ·exact .inl hk
     ·exact .inr (by simpa using hk)
    refine cO (fun hneg=>?_) fun hnn=>?_
    ·have hneg:=hc'.1 (oTq hneg);refine (hx.ext hBd).ix (i:=(j:Int)) rfl (by omega) (by omega) fun hd=>?_;refine lI (x:=xs[((j:Int)).toNat]) (by simpa using hd 0 _ rfl) ?_;refine hI _ _ ⟨j+1,by simp,by omega,by omega,List.getElem_mem _,fun k hk=>?_,hBd⟩ (by show xs.length-((j:Int)+1).toNat<xs.length-((j:Int)).toNat;omega);rcases htake k hk with hk | rfl
     ·have:=hmin k hk;show stOf S.L _<=_;simp only at hneg this ⊢;omega
     ·simp
    ·have hnn:¬_:=fun hh=>absurd (hc'.2 hh) (oFq hnn);refine hI _ _ ⟨j+1,by simp,by omega,by omega,hm,fun k hk=>?_,hBd⟩ (by show xs.length-((j:Int)+1).toNat<xs.length-((j:Int)).toNat;omega);rcases htake k hk with hk | rfl
     ·exact hmin k hk
     ·rw [ej] at hnn;exact Int.not_lt.1 hnn
   exact hcall
  ·have hge:¬_:=oFq hge;refine hK m w2 hm (fun k hk=>hmin k ?_) hB;rw [List.take_of_length_le (by omega)];exact hk
end
section
variable {w:World} {base g r n:Nat} {S:St}
theorem apI1 {w:World} {b:Nat} {s:Slc} {xs:List Int} {v:Int} {K:Slc->World->Prop} (hown:Go.Vc.Own E_int w b s xs) (hb:b<=w.heap.size) (hl:xs.length<=1000000)
  (hK:∀r w',Go.Vc.Own E_int w' b r (xs++[v])->Chg (fun k=>s.blk=some k) w w'->(r.blk=s.blk\/∃k,r.blk=some k/\w.heap.size<=k)->K r w') :
  nw qa9 [(.int .i64 v)] w fun t w1=>apK PG #[qbg,qbg] qbg s (⟨(some t),1,1⟩:Slc) w1 K:=by
 refine nwb fun w1 hb1 hB1 hs1=>?_;have hr:Rd E_int w1 ⟨some ⟨w.heap.size,0,none⟩,1,1⟩ [v]:=qwx (E:=E_int) hb1 rfl;refine qkd qhd (hown.ext hB1) hr (by omega) (by rw [qjn];simp;omega) (by simp [maxLen];omega) fun q w2 ho hg hq=>hK q w2 ho ((Chg.of_ext (S:=fun k=>s.blk=some k) hB1).trans (Chg.of_grown hg fun k hk=>hk) fun i _ hi=>hi) ?_;rcases hq with e | e
 ·exact .inl e
 ·exact .inr ⟨_,e,by omega⟩
theorem q8v {L:List (Int×Im)} (hs:Srt L) {p:Int×Im} (hp:p∈L):vOf L p.1=p.2.v:=by
 unfold vOf;rw [(qc1 hs).2 hp];rfl
theorem q2t {m:Nat} {n:Int} (h:StM w base g r S) (hk:StOk m S) (hm:m<=1000) (hn:0<=n) (hq:n<=S.quota) {K:Slc->World->Prop}
  (hK:∀q w',StM w' base g r (S.room n).1->Go.Vc.Own E_int w' w.heap.size q (S.room n).2->Chg (onS g r) w w'->K q w'):qga (some ⟨g,0,none⟩) n w K:=by
 refine qwk _ _ ?_;unfold qof;refine nwb fun w1 hb1 hB1 hs1=>?_;have hglt:=h.blk.lt;have hrlt:=h.map.lt;refine qg4 (Inv:=fun k (s:Slc×Unit) w2=>∃S1 G,k=S1.L.length/\StM w2 base g r S1/\StOk m S1/\S1.quota=S.quota/\S1.roomF n S1.L.length G=S.room n/\G.length+S1.L.length<=m/\Go.Vc.Own E_int w2 w.heap.size s.1 G/\Blk w2 w.heap.size qho [(.pointer (some ⟨g,0,none⟩))]/\Chg (fun i=>onS g r i\/i=w.heap.size) w w2/\w.heap.size<w2.heap.size) S.L.length
  ⟨S,[],rfl,h.ext hB1,hk,rfl,rfl,by have:=hk.len;simpa using this,Go.Vc.Own.nil _ _ _,hb1,Chg.of_ext hB1,by omega⟩ ?_
 rintro k ⟨gone,⟨⟩⟩ w2 ⟨S1,G,rfl,hS,hk1,hqq,hroom,hGl,hO,hb2,hc2,hlt2⟩ I hI;have hq1:=hk1.q1;have hq0:=hk1.q0;have hO:Go.Vc.Own E_int w2 w.heap.size gone G:=hO;have hchg:∀{w3:World},Chg (fun i=>onS g r i\/i=w.heap.size) w w3->Chg (onS g r) w w3:=fun hc=>hc.mono fun i hi e=>e.resolve_right (by omega);refine jpO fun J hJ=>?_;have e1:World.cell? w2.drew ⟨w.heap.size,0,none⟩=some (.pointer (some ⟨g,0,none⟩)):=hb2.drew.cell 0 rfl;refine qa8 (x:=some ⟨g,0,none⟩) e1 (qa3 (lI (x:=S1.used) (hS.drew.blk.cells 2 _ rfl) ?_));refine qa8 (x:=some ⟨g,0,none⟩) e1 (qa3 (lI (x:=S1.quota) (hS.drew.blk.cells 0 _ rfl) ?_));rw [w64i (by omega)];have hBd:=(Below.refl w2.heap.size w2).drew;have stop:¬(S1.used>S1.quota-n/\0<S1.L.length)->K gone w2.drew:=fun hno=>by
  have hend:S1.roomF n S1.L.length G=(S1,G):=by
   cases hL:S1.L.length with
   | zero=>rfl
   | succ f =>
    unfold St.roomF;rw [if_neg hno]
  rw [hend] at hroom;refine hK gone w2.drew ?_ ?_ (hchg (hc2.trans (Chg.of_ext hBd) fun i _ hi=>hi))
  ·rw [<-hroom];exact hS.drew
  ·rw [<-hroom];exact hO.drew
 refine cO (fun hgt=>?_) fun hgt=>?_
 ·have hgt:=oTq hgt;refine qa8 (x:=some ⟨g,0,none⟩) e1 (qa3 (qgf (x:=some r) (hS.drew.blk.cells 4 _ rfl) ?_));refine ⟨(S1.L.length:Int),w2.drew,hS.drew.map.len tmap qa9,?_⟩;refine cO (fun hpos=>?_) fun hpos=>?_
  ·have hpos:=oTq hpos;refine hJ _ _ ?_;refine qa8 (x:=some ⟨g,0,none⟩) e1 (qa3 (qgf (x:=some r) (hS.drew.blk.cells 4 _ rfl) (q6m ?_)));have hBa:Below w2.heap.size w2 (w2.drew.alloc (.cells #[.map (some r)] 98)):=hBd.alloc (le_refl _) _;have hba:Blk (w2.drew.alloc (.cells #[.map (some r)] 98)) w2.heap.size 98 [.map (some r)]:=Blk.new w2.drew 98 [.map (some r)];have hsa:(w2.drew.alloc (.cells #[.map (some r)] 98)).heap.size=w2.heap.size+1:=by show (w2.heap.push _).size=_;simp
   have hl:=hk1.len;refine q89 (L:=S1.L) (hS.map.ext hBa) (by omega) (hba.cell 0 rfl) fun q w4 ss hss ho4 hB4=>?_;have hB24:Below w2.heap.size w2 w4:=hBa.trans (hB4.mono (by omega));have hS4:=hS.ext hB24;have hssl:ss.length=S1.L.length:=by rw [hss.length_eq,List.length_map]
   refine ziz hS4 (hb2.ext hB24) ho4.rd (by omega) (by omega) fun mn w5 hmn hmin hB5=>?_;have hS5:=hS4.ext hB5;have hB25:=hB24.trans (hB5.mono hB24.size);have hb5:=hb2.ext hB25;have heq:qee S1.L=mn:=by
    obtain ⟨p,hp,rfl⟩:=List.mem_map.1 (hss.mem_iff.1 hmn);refine zch hk1 hp fun p' hp'=>?_;have:=hmin p'.1 (hss.mem_iff.2 (List.mem_map.2 ⟨p',hp',rfl⟩));unfold stOf at this
    rwa [q8v hk1.srt hp,q8v hk1.srt hp'] at this
   refine qa8 (x:=some ⟨g,0,none⟩) (hb5.cell 0 rfl) ?_;refine q1f hS5 hk1 mn fun w6 hS6 hc6=>?_;have hO5:=hO.ext hB25;have hO6:=hO5.chg hc6 fun k hk e=>by
    rcases e with e | e
    ·exact qo9 hO5 hS5.blk (by decide) k hk e
    ·exact hS5.map.ne_own hO5 k hk e
   have hs5:=hB25.size;have hs6:=hc6.size;have hb6:=hb5.chg hc6 fun e=>by rcases e with e | e<;>omega
   refine apI1 hO6 (by omega) (by omega) fun q7 w7 ho7 hc7 _=>?_;have hS7:StM w7 base g r (S1.drop mn):=hS6.keep hc7 (fun e=>qo9 hO6 hS6.blk (by decide) g e rfl) (fun e=>hS6.map.ne_own hO6 r e rfl) fun p hp k hk e=>(hS6.img p hp).ne_o hO6 (by decide) k hk e;have hb7:=hb6.chg hc7 fun e=>qo9 hO6 hb6 (by decide) _ e rfl;obtain ⟨x,hx⟩:=qx5 (L:=S1.L) (by intro e;rw [e] at hpos;simp at hpos);rw [heq] at hx;have hdl:=qxl hx;have hc27:Chg (fun i=>onS g r i\/i=w.heap.size) w w7:=by
    refine ((hc2.trans (Chg.of_ext hB25) fun i _ hi=>hi).trans hc6 fun i _ hi=>.inl hi).trans hc7 fun i hi e=>?_;have:=(hO6.lt i e).1;omega
   refine hI _ _ _ ⟨S1.drop mn,G++[mn],rfl,hS7,qsj hk1 mn,hqq,?_,?_,ho7,hb7,hc27,by have:=hc7.size;omega⟩ hdl
   ·rw [<-hroom];cases hL:S1.L.length with
    | zero=>omega
    | succ f =>
     have:S1.roomF n (f+1) G=(S1.drop (qee S1.L)).roomF n f (G++[qee S1.L]):=by
      show (if S1.used>S1.quota-n/\0<S1.L.length then St.roomF n f (S1.drop (qee S1.L)) (G++[qee S1.L]) else (S1,G))=_;rw [if_pos ⟨hgt,by omega⟩]
     rw [this,heq,zi7 n (f:=f) (by show (delL S1.L mn).length<=f;omega)]
   ·have:(S1.drop mn).L.length<S1.L.length:=hdl;simp;omega
  ·have hpos:=oFq hpos;exact stop fun hc=>hpos (by omega)
 ·have hgt:=oFq hgt;exact stop fun hc=>hgt hc.1
def St.reserve (S:St) (n:Int):St×List Int×Int :=
 if n<0 then (S,[],1) else if n>S.quota then (S,[],6) else ((({ S with res:=n }:St).room n).1,(({ S with res:=n }:St).room n).2,0)
theorem qvz {m:Nat} (h:StOk m S) (n:Int):StOk m { S with res:=n }:=⟨h.q0,h.q1,h.used,h.fits,h.len,h.clk0,h.clk,h.srt,h.keys,h.stamps,h.borns,h.st1,h.bo1⟩
theorem zdm {m:Nat} (h:StOk m S) (n:Int):StOk m (S.reserve n).1:=by
 unfold St.reserve;split
 ·exact h
 ·split
  ·exact h
  ·exact qw9 n _ (qvz h n)
theorem q9t {m:Nat} {n:Int} (h:StM w base g r S) (hk:StOk m S) (hm:m<=1000) {K:Slc->Int->World->Prop}
  (hK:∀q w',StM w' base g r (S.reserve n).1->Go.Vc.Own E_int w' w.heap.size q (S.reserve n).2.1->Chg (onS g r) w w'->K q (S.reserve n).2.2 w'):qhb (some ⟨g,0,none⟩) n w K:=by
 refine qsw _ _ ?_;unfold qlh;unfold St.reserve at hK;refine cO (fun e=>?_) fun e=>?_
 ·have e:=oTq e;rw [if_pos e] at hK;exact hK _ w h (Go.Vc.Own.nil _ _ _) (Chg.refl _ _)
 ·have e:=oFq e;rw [if_neg e] at hK;refine qa3 (lI (x:=S.quota) (h.blk.cells 0 _ rfl) ?_);refine cO (fun e2=>?_) fun e2=>?_
  ·have e2:=oTq e2;rw [if_pos e2] at hK;exact hK _ w h (Go.Vc.Own.nil _ _ _) (Chg.refl _ _)
  ·have e2:=oFq e2;rw [if_neg e2] at hK;refine qa3 ?_;rw [qas];refine qaj h.blk (by simp [St.cells]) fun w1 hb1 hg1 hs1=>?_;have hc:Chg (onS g r) w w1:=(Chg.gg hg1).mono fun i _ hi=>.inl hi;have h1:StM w1 base g r { S with res:=n }:=⟨hb1,h.map.chg (Chg.gg hg1) h.ne,fun p hp=>(h.img p hp).chg hc (h.own_blk p hp)⟩;refine q2t h1 (qvz hk n) hm (by omega) (by show n<=S.quota;omega) fun q w2 hS2 ho2 hc2=>?_;exact hK q w2 hS2 (ho2.base (by omega)) (hc.trans hc2 fun i _ hi=>hi)
end
end Go.Proofs.YtedcpbkcamckoaaGreatDoor
