import Derived.KernelRfl
import Derived.Test.YtjhgepnpnapnoaaGreatDoorVc
import Derived.Below
import Derived.Maps.AppendAt
import Derived.Laws.OwnMore
import Derived.IntWalk
import Derived.ProofKit
import Derived.OpenShut
import Derived.ChangeOld
import Derived.ChangeSame
import Derived.Carry
import Derived.Deep.Slices
import Derived.Laws.MakeOwn
import Derived.Test.YtjhgepnpnapnoaaGreatDoorDefs
import Derived.Test.YtjhgepnpnapnoaaGreatDoorShA
import Derived.Shelf.Strings.OnBuilder
import Derived.Shelf.Small.Strs
import Derived.Shelf.Strconv.Itoa3
import Derived.Shelf.Strings.Search3
import Derived.Shelf.Strings.Count
import Derived.Shelf.Bytes.IndexByte
import Derived.Shelf.LaysM
import Derived.Shelf.Strings.Search1
import Derived.Test.YtjhgepnpnapnoaaGreatDoorProg
import Derived.Lib.ConvBytes
import Derived.Laws.BytesString
import Derived.Laws.Runes
import Derived.WalkSmall
import Derived.Test.YtjhgepnpnapnoaaGreatDoorRows
import Derived.DataShut
import Derived.Lay
import Derived.MakeChecks
import Derived.LaidMore
import Derived.Stop.Joined
import Derived.Lib.LaidTab
import Derived.ChangeMaps5
import Derived.Laws.BitsAllLaws
open Go.IntKind (i64 i32)
namespace Go
open Go.RowKit
abbrev Uc (w v:World):Prop:=Below w.heap.size w v
end Go
set_option linter.unusedVariables false
namespace Go.Vc
open Go.RowKit
open Builtin (append_)
open _root_.Nat (add_mul le_refl mod_lt)
open _root_.Option (getD_some isSome_iff_exists)
theorem lpR {σ:Type} {body:(σ->Ub)->σ->Ub} {s0:σ} {w0:World} (Inv:σ->Ub) (μ:σ->Nat) (h0:Inv s0 w0)
  (step:∀s w,Inv s w->∀I:σ->Ub,(∀s' w',Inv s' w'->μ s'<μ s->I s' w')->body I s w):zh body s0 w0:=by
 intro I c;have a:∀n s w,μ s=n->Inv s w->I s w:=by
  intro n
  induction n using Nat.strongRecOn with
  | _ n ih =>
   intro s w d e;exact c s w (step s w e I λs' w' f b=>ih (μ s') (d ▸ b) s' w' rfl f)
 exact a _ _ _ rfl h0
theorem qsz {σ:Type} {body:(σ->Ub)->σ->Ub} {s0:σ} {w0:World} (Inv:Nat->σ->Ub) (n0:Nat) (h0:Inv n0 s0 w0)
  (step:∀n s w,Inv n s w->∀I:σ->Ub,(∀n' s' w',Inv n' s' w'->n'<n->I s' w')->body I s w):zh body s0 w0:=by
 intro I c;have a:∀n s w,Inv n s w->I s w:=by
  intro n
  induction n using Nat.strongRecOn with
  | _ n ih=>intro s w d;exact c s w (step n s w d I λn' s' w' e b=>ih n' b s' w' e)
 exact a _ _ _ h0
theorem jpO {σ:Type} {K:σ->Ub} {body:(σ->Ub)->Prop} (h:∀J:σ->Ub,(∀s w,K s w->J s w)->body J):zf K body:=h
theorem cO {b:Bool} {X Y:Prop} (h1:b=true->X) (h2:b=false->Y):cond b X Y:=by
 cases b
 ·exact h2 rfl
 ·exact h1 rfl
theorem cT {b:Bool} {X Y:Prop} (h:b=true) (h1:X):cond b X Y:=by subst h;exact h1
theorem cF {b:Bool} {X Y:Prop} (h:b=false) (h1:Y):cond b X Y:=by subst h;exact h1
theorem jU (a:Addr) (i j:Nat):(a.add i).add j=a.add (i+j):=by
 unfold Addr.add;by_cases hi:i=0<;>by_cases hj:j=0<;>simp [hi,Nat.add_assoc]
@[simp] theorem add_zero (a:Addr):a.add 0=a:=by simp [Addr.add]
@[simp] theorem block_add (a:Addr) (n:Nat):(a.add n).block=a.block:=by unfold Addr.add;split<;>rfl
theorem qC (b o n:Nat):(⟨b,o,none⟩:Addr).add n=⟨b,o+n,none⟩:=by unfold Addr.add;split<;>simp_all
theorem qG.sub {w:World} {a:Addr} {vs us:List Value} (h:qG w a vs) (i:Nat) (hu:∀(j:Nat) (v:Value),us[j]?=some v->vs[i+j]?=some v):qG w (a.add i) us:=by
 intro j v b;rw [jU];exact h _ _ (hu j v b)
theorem qG.lt {w:World} {a:Addr} {vs:List Value} (h:qG w a vs) (hn:0<vs.length):a.block<w.heap.size:=by
 have:=World.block_lt_of_cell? w (a.add 0) (h 0 vs[0] (by simp));simpa using this
def Blk (w:World) (g:Nat) (t:TypeId) (vs:List Value):Prop:=w.heap[g]?=some (.cells vs.toArray t (0,0))
section
variable {w w':World} {g:Nat} {t:TypeId} {vs:List Value}
theorem Blk.lt (h:Blk w g t vs):g<w.heap.size:=by
 rcases Nat.lt_or_ge g w.heap.size with a | hge
 ·exact a
 ·unfold Blk at h;rw [Array.getElem?_eq_none hge] at h;cases h
theorem Blk.new (w:World) (t:TypeId) (vs:List Value):Blk (w.alloc (.cells vs.toArray t)) w.heap.size t vs:=by
 show (w.heap.push _)[w.heap.size]?=_;simp
theorem Blk.cells (h:Blk w g t vs):qG w ⟨g,0,none⟩ vs:=by
 intro i v a;unfold Blk at h;rw [qC];simp [World.cell?,h,a]
theorem Blk.cell (h:Blk w g t vs) (i:Nat) {v:Value} (hv:vs[i]?=some v):w.cell? ⟨g,i,none⟩=some v:=by
 have:=h.cells i v hv
 rwa [qC,Nat.zero_add] at this
theorem Blk.sub (h:Blk w g t vs) (i:Nat) (us:List Value) (hu:(vs.drop i).take us.length=us):qG w ((⟨g,0,none⟩:Addr).add i) us:=by
 refine h.cells.sub i λj v a=>?_;rw [<-hu] at a;have b:j<us.length:=by
  rcases Nat.lt_or_ge j us.length with c | c
  ·exact c
  ·rw [List.getElem?_eq_none (by simp;omega)] at a;cases a
 rw [List.getElem?_take_of_lt b,List.getElem?_drop] at a;exact a
theorem Blk.frozen (h:Blk w g t vs) (i:Nat):w.frozen? ⟨g,i,none⟩=false:=by
 unfold Blk at h;simp [World.frozen?,h]
theorem Blk.drew (h:Blk w g t vs):Blk w.drew g t vs:=h
theorem Blk.alloc (h:Blk w g t vs) (o:Obj):Blk (w.alloc o) g t vs:=(Below.heap_alloc w o g h.lt).trans h
theorem Blk.below {B:Nat} (h:Blk w g t vs) (hb:Below B w w') (hg:g<B):Blk w' g t vs:=(hb.block g hg).trans h
theorem Blk.ext (h:Blk w g t vs) (hb:Uc w w'):Blk w' g t vs:=h.below hb h.lt
theorem Blk.grown {row:Option Nat} (h:Blk w g t vs) (hb:w.grownBy w' row) (hg:some g≠row):Blk w' g t vs:=(hb.block g h.lt hg).trans h
theorem Blk.set_ (h:Blk w g t vs) (i:Nat) (u:Value):Blk (w.setCell ⟨g,i,none⟩ u) g t (vs.set i u):=by
 unfold Blk at h ⊢;simp [World.setCell,Array.getElem?_modify,h]
end
def putL (vs:List Value) (i:Nat) (us:List Value):List Value:=match us with
 | []=>vs
 | u::r=>putL (vs.set i u) (i+1) r
theorem zaq {g o:Nat} {t:TypeId}:∀(us:List Value) (i:Nat) (w:World) (vs:List Value),Blk w g t vs->Blk (yd w ⟨g,o,none⟩ i us) g t (putL vs (o+i) us):=by
 intro us
 induction us with
 | nil=>intro i w vs h;exact h
 | cons u r a =>
  intro i w vs h;simp only [yd];rw [qC];have:=a (i+1) _ _ (h.set_ (o+i) u)
  rwa [<-Nat.add_assoc] at this
theorem zjw {w:World} {g o:Nat} {t:TypeId} {vs us:List Value} (h:Blk w g t vs):Blk (wr w ⟨g,o,none⟩ us) g t (putL vs o us):=by
 have:=zaq (o:=o) us 0 w vs h;simpa [wr] using this
theorem qw9 {a:Addr}:∀(us:List Value) (i:Nat) (w:World),(yd w a i us).heap.size=w.heap.size/\(∀k,k≠a.block->(yd w a i us).heap[k]?=w.heap[k]?)/\(yd w a i us).tape=w.tape/\(yd w a i us).os=w.os/\(yd w a i us).output=w.output/\(yd w a i us).drawn=w.drawn:=by
 intro us
 induction us with
 | nil=>intro i w;exact ⟨rfl,λ_ _=>rfl,rfl,rfl,rfl,rfl⟩
 | cons u r c =>
  intro i w;obtain ⟨d,e,f,g,h,j⟩:=c (i+1) (w.setCell (a.add i) u);refine ⟨by rw [yd,d];simp,λk b=>?_,by rw [yd,f];simp,by rw [yd,g];rfl,by rw [yd,h];rfl,by rw [yd,j];simp⟩;rw [yd,e k b];exact Below.heap_setCell _ _ _ _ (by simpa using b)
@[simp] theorem size_wr (w:World) (a:Addr) (us:List Value):(wr w a us).heap.size=w.heap.size:=(qw9 us 0 w).1
theorem q6c (w:World) (a:Addr) (us:List Value):w.grownBy (wr w a us) (some a.block):=by
 obtain ⟨h,c,d,f,g,_⟩:=qw9 us 0 w;exact ⟨f,d,g,by show _<=(yd w a 0 us).heap.size;omega,λk _ b=>c k λe=>b (by rw [e])⟩
theorem zjl {w:World} {g o:Nat} {t:TypeId} {vs us:List Value} (h:Blk w g t vs) (hl:o+us.length<=vs.length):zhk w ⟨g,o,none⟩ us:=by
 intro i a;rw [qC];refine ⟨⟨vs[o+i],?_⟩,h.frozen _⟩;exact h.cell (o+i) (List.getElem?_eq_getElem (by omega))
theorem qD {w:World} {g o:Nat} {t:TypeId} {vs us:List Value} {K:Ub} (h:Blk w g t vs) (hl:o+us.length<=vs.length)
  (hK:∀w',Blk w' g t (putL vs o us)->w.grownBy w' (some g)->w'.heap.size=w.heap.size->K w'):stK ⟨g,o,none⟩ us w K :=
 ⟨zjl h hl,hK _ (zjw h) (q6c w ⟨g,o,none⟩ us) (size_wr _ _ _)⟩
theorem nwb {t:TypeId} {vs:List Value} {w:World} {K:Addr->Ub} (hK:∀w',Blk w' w.heap.size t vs->Uc w w'->w'.heap.size=w.heap.size+1->K ⟨w.heap.size,0,none⟩ w'):nw t vs w K :=
 hK _ (Blk.new w t vs) ((Below.refl _ w).alloc (le_refl _) _) (by simp)
theorem zng {T:Type} {cells:T->List Value} (h:∀x,(cells x).all Value.oneCell'=true):∀x,∀v∈cells x,v.oneCell'=true:=λx v a=>List.all_eq_true.1 (h x) v a
structure El (T:Type) where
 cells:T->List Value
 t:TypeId
 k:Nat
 pos:0<k:=by decide
 len:∀x,(cells x).length=k:=by exact λ_=>rfl
 one:∀x,∀v∈cells x,v.oneCell'=true:=by exact zng λ_=>rfl
def Slc.at_ (s:Slc) (k i:Nat):Addr:=(s.a.getD ⟨0,0,none⟩).add (i*k)
structure Rd {T:Type} (E:El T) (w:World) (s:Slc) (xs:List T):Prop where
 n:s.n=xs.length
 nc:s.n<=s.c
 cm:s.c<=maxLen
 some_:0<xs.length->s.a.isSome=true
 at_:∀(i:Nat) x,xs[i]?=some x->qG w (s.at_ E.k i) (E.cells x)
theorem Rd.nil {T:Type} (E:El T) (w:World):Rd E w ⟨none,0,0⟩ []:=⟨rfl,le_refl _,by simp,λh=>by simp at h,λi x h=>by simp at h⟩
theorem Rd.lt {T:Type} {E:El T} {w:World} {s:Slc} {xs:List T} (h:Rd E w s xs) {i:Nat} (hi:i<xs.length):(s.at_ E.k i).block<w.heap.size :=
 (h.at_ i xs[i] (by simp)).lt (by rw [E.len];exact E.pos)
theorem Rd.keep {T:Type} {E:El T} {w w':World} {s:Slc} {xs:List T} (h:Rd E w s xs) (hk:∀(b:Nat),b<w.heap.size->(∀a,s.a=some a->b=a.block)->w'.heap[b]?=w.heap[b]?):Rd E w' s xs:=by
 refine ⟨h.n,h.nc,h.cm,h.some_,λi x e=>?_⟩;have f:=h.at_ i x e;intro j v g;have c:=f j v g;have d:=World.block_lt_of_cell? w _ c;rw [World.cell?_of_block (hk _ d (λa k=>by simp [Slc.at_,k]))];exact c
theorem Rd.ext {T:Type} {E:El T} {w w':World} {s:Slc} {xs:List T} (h:Rd E w s xs) (hb:Uc w w'):Rd E w' s xs:=h.keep λb a _=>hb.block b a
theorem Rd.none_nil {T:Type} {E:El T} {w:World} {s:Slc} {xs:List T} (h:Rd E w s xs) (ha:s.a=none):xs=[]:=by
 cases xs with
 | nil=>rfl
 | cons x r=>have:=h.some_ (by simp);rw [ha] at this;cases this
theorem Rd.drew {T:Type} {E:El T} {w:World} {s:Slc} {xs:List T} (h:Rd E w s xs):Rd E w.drew s xs:=h.keep λ_ _ _=>rfl
theorem q4z {s:Slc} {i:Int} {k:Nat} {K:Addr->Prop} (ha:s.a.isSome=true) (h0:0<=i) (h1:i<s.n) (h:K (s.at_ k i.toNat)):ixK s i k K:=by
 obtain ⟨a,e⟩:=isSome_iff_exists.1 ha;unfold ixK;rw [e];refine ⟨⟨h0,h1⟩,?_⟩;simpa [Slc.at_,e] using h
theorem Rd.ix {T:Type} {E:El T} {w:World} {s:Slc} {xs:List T} (h:Rd E w s xs) {i:Int} {k:Nat} (hk:k=E.k) {K:Addr->Prop} (h0:0<=i) (h1:i<xs.length)
  (hK:qG w (s.at_ E.k i.toNat) (E.cells (xs[i.toNat]'(by omega)))->K (s.at_ E.k i.toNat)):ixK s i k K:=by
 subst hk;refine q4z (h.some_ (by omega)) h0 (by rw [h.n];exact h1) (hK (h.at_ _ _ ?_));simp
def Qg {T:Type} (E:El T) (xs:List T):List Value:=xs.flatMap E.cells
theorem vO {T:Type} (E:El T) (xs:List T):(Qg E xs).length=xs.length*E.k:=by
 unfold Qg
 induction xs with
 | nil=>simp
 | cons x r a=>simp [E.len,a,add_mul,Nat.add_comm]
theorem qxa {T:Type} (E:El T) (xs ys:List T):Qg E (xs++ys)=Qg E xs++Qg E ys:=by simp [Qg]
theorem qso {T:Type} (E:El T):∀(xs:List T) (i:Nat) (x:T) (j:Nat) (v:Value),xs[i]?=some x->(E.cells x)[j]?=some v->(Qg E xs)[i*E.k+j]?=some v:=by
 intro xs
 induction xs with
 | nil=>intro i x j v h;simp at h
 | cons y r b =>
  intro i x j v h a;have c:j<E.k:=by rw [<-E.len x];exact (List.getElem?_eq_some_iff.1 a).1
  have e:Qg E (y::r)=E.cells y++Qg E r:=by simp [Qg]
  rw [e];cases i with
  | zero =>
   simp only [List.getElem?_cons_zero,Option.some.injEq] at h;subst h;rw [Nat.zero_mul,Nat.zero_add,List.getElem?_append_left (by rw [E.len];exact c)];exact a
  | succ i =>
   rw [List.getElem?_append_right (by rw [E.len,add_mul];omega),E.len];have:(i+1)*E.k+j-E.k=i*E.k+j:=by rw [add_mul];omega
   rw [this];exact b i x j v h a
theorem zhm {T:Type} (E:El T) (xs:List T):∀u∈Qg E xs,u.oneCell'=true:=by
 intro u a;obtain ⟨x,_,b⟩:=List.mem_flatMap.1 a;exact E.one x u b
def Slc.v (s:Slc):Value:=.slice s.a s.n s.c
def Slc.blk (s:Slc):Option Nat:=s.a.map (·.block)
def Own {T:Type} (E:El T) (w:World) (base:Nat) (s:Slc) (xs:List T):Prop:=w.ownsRow base E.t E.k s.v xs.length (Qg E xs)
theorem V5 (s:Slc):s.v.ownBlock=s.blk:=by
 unfold Slc.v Slc.blk;cases s.a<;>rfl
theorem Own.form {T:Type} {E:El T} {w:World} {base:Nat} {s:Slc} {xs:List T} (h:Own E w base s xs) :
  (s=⟨none,0,0⟩/\xs=[])\/∃g cur,s=⟨some ⟨g,0,none⟩,xs.length,s.c⟩/\base<=g/\Blk w g E.t cur/\xs.length<=s.c/\s.c<=maxLen/\cur.length=s.c*E.k/\cur.take (xs.length*E.k)=Qg E xs:=by
 obtain ⟨_,h⟩:=h;obtain ⟨a,n,c⟩:=s;rcases h with ⟨e,i⟩ | ⟨g,j,cur,e,l,m,o,p,q,r⟩
 ·injection e with b d f
  subst b;subst d;subst f;exact .inl ⟨rfl,List.eq_nil_of_length_eq_zero i⟩
 ·injection e with b d f
  subst b;subst d;subst f;exact .inr ⟨g,cur.toList,rfl,l,by unfold Blk;simpa using m,o,p,by simpa using q,r⟩
theorem Own.of_blk {T:Type} {E:El T} {w:World} {base g c:Nat} {xs:List T} {cur:List Value} (hg:base<=g) (hb:Blk w g E.t cur) (h1:xs.length<=c) (h2:c<=maxLen) (h3:cur.length=c*E.k) (h4:cur.take (xs.length*E.k)=Qg E xs) :
  Own E w base ⟨some ⟨g,0,none⟩,xs.length,c⟩ xs :=
 ⟨vO E xs,.inr ⟨g,c,cur.toArray,rfl,hg,hb,h1,h2,by simpa using h3,by simpa using h4⟩⟩
theorem Own.nil {T:Type} (E:El T) (w:World) (base:Nat):Own E w base ⟨none,0,0⟩ []:=World.ownsRow_nil w base E.t E.k
theorem Own.rd {T:Type} {E:El T} {w:World} {base:Nat} {s:Slc} {xs:List T} (h:Own E w base s xs):Rd E w s xs:=by
 rcases h.form with ⟨rfl,rfl⟩ | ⟨g,cur,a,m,b,c,d,n,e⟩
 ·exact Rd.nil E w
 ·rw [a];refine ⟨rfl,c,d,λ_=>rfl,λi x f=>?_⟩;refine b.cells.sub _ λj v l=>?_;have:=qso E xs i x j v f l;rw [<-e] at this;rw [List.getElem?_take] at this;split at this
  ·exact this
  ·cases this
theorem Own.base {T:Type} {E:El T} {w:World} {base base':Nat} {s:Slc} {xs:List T} (h:Own E w base s xs) (hb:base'<=base):Own E w base' s xs:=by
 obtain ⟨b,h⟩:=h;refine ⟨b,?_⟩;rcases h with h | ⟨g,a,cur,e,c,r⟩
 ·exact .inl h
 ·exact .inr ⟨g,a,cur,e,by omega,r⟩
theorem Own.lt {T:Type} {E:El T} {w:World} {base:Nat} {s:Slc} {xs:List T} (h:Own E w base s xs):∀k,s.blk=some k->base<=k/\k<w.heap.size:=by
 rw [<-V5];exact World.ownsRow.lt h
theorem Own.kept {T:Type} {E:El T} {w w':World} {base:Nat} {s:Slc} {xs:List T} {row:Option Nat} (h:Own E w base s xs) (hg:w.grownBy w' row) (hne:s.blk=none\/s.blk≠row):Own E w' base s xs :=
 World.ownsRow.kept h hg (by rw [V5];exact hne)
theorem Own.ext {T:Type} {E:El T} {w w':World} {base:Nat} {s:Slc} {xs:List T} (h:Own E w base s xs) (hb:Uc w w'):Own E w' base s xs:=by
 obtain ⟨f,a⟩:=h;refine ⟨f,?_⟩;rcases a with a | ⟨g,b,cur,e,i,c,r⟩
 ·exact .inl a
 ·refine .inr ⟨g,b,cur,e,i,?_,r⟩;have:g<w.heap.size:=by
   rcases Nat.lt_or_ge g w.heap.size with d | d
   ·exact d
   ·rw [Array.getElem?_eq_none d] at c;cases c
  rw [hb.block g this];exact c
theorem Own.drew {T:Type} {E:El T} {w:World} {base:Nat} {s:Slc} {xs:List T} (h:Own E w base s xs):Own E w.drew base s xs:=h
structure SlT (P:Program) {T:Type} (E:El T) (st:TypeId) where
 ht:P.underlying st=some (.slice E.t):=by kernel_rfl
 i:TypeInfo:=(P.info? E.t).getD default
 hi:P.info? E.t=some i:=by kernel_rfl
 z:Value
 hz:i.zero=some z:=by kernel_rfl
 hs:i.size=E.k:=by kernel_rfl
 hzs:z.cells.size=E.k:=by exact rfl
theorem qr4 {P:Program} {T:Type} {E:El T} {st:TypeId} (TT:SlT P E st) (ty:TypeId) {w:World} {base:Nat} {s:Slc} {xs:List T} (hown:Own E w base s xs) (c:Nat) :
  (append_ #[st,st] ty #[s.v,.slice none 0 c]).run P w=.ok s.v w:=by
 rcases hown.form with ⟨rfl,rfl⟩ | ⟨g,cur,a,d,e,b,f,h,i⟩
 ·simp [Slc.v,append_,run_underlying TT.ht,sizeOf,typeInfo,TT.hi,Builtin.lenOf,Builtin.firstCells]
 ·rw [a];simp [Slc.v,append_,run_underlying TT.ht,sizeOf,typeInfo,TT.hi,Builtin.lenOf,Builtin.firstCells,b,storeCells]
theorem jW {P:Program} {T:Type} {E:El T} {st:TypeId} (TT:SlT P E st) {ty:TypeId} {w:World} {base:Nat} {s x:Slc} {xs ys:List T} {K:Slc->Ub} (hown:Own E w base s xs) (hx:Rd E w x ys)
  (hb:base<=w.heap.size) (hl:(xs.length+ys.length)*TT.i.bytes<=140737488355328) (hm:xs.length+ys.length<=maxLen)
  (hK:∀r w',Own E w' base r (xs++ys)->w.grownBy w' s.blk->(r.blk=s.blk\/r.blk=some w.heap.size)->K r w'):apK P #[st,st] ty s x w K:=by
 cases ha:x.a with
 | none =>
  have A:=hx.none_nil ha;subst A;have B:x.n=0:=by simpa using hx.n
  refine ⟨s,w,?_,hK s w (by simpa using hown) (World.grownBy.refl w _) (.inl rfl)⟩;rw [ha,B];exact qr4 TT ty hown x.c
 | some a =>
  have b:∀(j:Nat) (u:Value),(Qg E ys)[j]?=some u->w.cell? (a.add j)=some u:=by
   intro j u m;have C:j<ys.length*E.k:=by rw [<-vO];exact (List.getElem?_eq_some_iff.1 m).1
   have o:=E.pos;have D:=(Nat.div_lt_iff_lt_mul o).2 C;have F:j%E.k<E.k:=mod_lt _ o;have f:ys[j/E.k]?=some ys[j/E.k]:=by simp
   have p:(E.cells ys[j/E.k])[j%E.k]?=some ((E.cells ys[j/E.k])[j%E.k]'(by rw [E.len];exact F)):=List.getElem?_eq_getElem _;have e:j/E.k*E.k+j%E.k=j:=by rw [Nat.mul_comm];exact Nat.div_add_mod j E.k
   have q:=qso E ys _ _ _ _ f p;rw [e,m] at q;have d:=hx.at_ _ _ f _ _ p;rw [<-Option.some.inj q] at d;simp only [Slc.at_,ha] at d
   rwa [jU,e] at d
  obtain ⟨G,w',h,d,H,_,y⟩:=run_append_own_at w base st ty E.t TT.i TT.z E.k TT.i.bytes TT.ht TT.hi TT.hz TT.hs rfl TT.hzs E.pos s.v xs.length (Qg E xs) hown a ys.length x.c (Qg E ys) (vO E ys) b (zhm E ys) hm hl hb;have l:∃r:Slc,G=r.v:=by
   rcases d.2 with ⟨e,_⟩ | ⟨g,I,cur,e,_⟩
   ·exact ⟨⟨none,0,0⟩,e⟩
   ·exact ⟨⟨_,_,_⟩,e⟩
  obtain ⟨r,rfl⟩:=l;refine ⟨r,w',?_,hK r w' ?_ (by rw [<-V5];exact H) ?_⟩
  ·rw [ha,hx.n];exact h
  ·unfold Own;rw [List.length_append,qxa];exact d
  ·rw [V5,V5] at y;exact y
theorem vL:∀(us vs:List Value) (i:Nat),(putL vs i us).length=vs.length:=by
 intro us
 induction us with
 | nil=>intro vs i;rfl
 | cons u r a=>intro vs i;rw [putL,a];simp
theorem Yp:∀(us vs:List Value) (i m:Nat),i+us.length<=vs.length->(putL vs i us)[m]?=if i<=m/\m<i+us.length then us[m-i]? else vs[m]?:=by
 intro us
 induction us with
 | nil=>intro vs i m _;simp only [putL,List.length_nil];rw [if_neg (by omega)]
 | cons u r a =>
  intro vs i m b;simp only [List.length_cons] at b;rw [putL,a (vs.set i u) (i+1) m (by simp;omega)];by_cases h1:i+1<=m/\m<i+1+r.length
  ·rw [if_pos h1,if_pos (by simp;omega)];have:m-i=(m-(i+1))+1:=by omega
   rw [this,List.getElem?_cons_succ]
  ·rw [if_neg h1];by_cases h2:m=i
   ·subst h2;rw [if_pos (by simp),List.getElem?_set_self (by omega),Nat.sub_self,List.getElem?_cons_zero]
   ·rw [List.getElem?_set_ne (Ne.symm h2),if_neg (by simp;omega)]
theorem zi3 {T:Type} {E:El T} {xs:List T} {i:Nat} {x y:T} (hx:xs[i]?=some x) {j:Nat} {us cur:List Value} (hj:j+us.length<=E.k) (hy:E.cells y=putL (E.cells x) j us)
  (hc:cur.take (xs.length*E.k)=Qg E xs) (hl:xs.length*E.k<=cur.length):(putL cur (i*E.k+j) us).take (xs.length*E.k)=Qg E (xs.set i y):=by
 have h:=(List.getElem?_eq_some_iff.1 hx).1;have n:i*E.k+E.k<=xs.length*E.k:=by
  have:=Nat.mul_le_mul_right E.k (show i+1<=xs.length from h);rw [add_mul,Nat.one_mul] at this;exact this
 refine List.ext_getElem? λm=>?_;by_cases hm:m<xs.length*E.k
 ·rw [List.getElem?_take_of_lt hm,Yp us cur _ _ (by omega)];have o:=(Nat.div_lt_iff_lt_mul E.pos).2 hm;have p:m%E.k<E.k:=mod_lt _ E.pos;have e:m/E.k*E.k+m%E.k=m:=by rw [Nat.mul_comm];exact Nat.div_add_mod m E.k
  have c:cur[m]?=(Qg E xs)[m]?:=by rw [<-hc,List.getElem?_take_of_lt hm]
  have a:∀(d:List T) (z:T),d[m/E.k]?=some z->(Qg E d)[m]?=(E.cells z)[m%E.k]?:=by
   intro d z q;have l:(E.cells z)[m%E.k]?=some ((E.cells z)[m%E.k]'(by rw [E.len];exact p)):=List.getElem?_eq_getElem _;have:=qso E d _ _ _ _ q l;rw [e] at this;rw [this,l]
  by_cases hqi:m/E.k=i
  ·have f:(xs.set i y)[m/E.k]?=some y:=by rw [hqi,List.getElem?_set_self h]
   rw [a _ _ f,hy,Yp us (E.cells x) j _ (by rw [E.len];exact hj)];have b:xs[m/E.k]?=some x:=by rw [hqi];exact hx
   rw [c,a _ _ b];have s:m=i*E.k+m%E.k:=by rw [<-hqi];exact e.symm
   generalize m%E.k=r at *;by_cases hcase:j<=r/\r<j+us.length
   ·rw [if_pos (by omega),if_pos hcase];congr 1;omega
   ·rw [if_neg (by omega),if_neg hcase]
  ·have g:(xs.set i y)[m/E.k]?=xs[m/E.k]?:=List.getElem?_set_ne (Ne.symm hqi);have b:xs[m/E.k]?=some xs[m/E.k]:=by simp [o]
   rw [a _ _ (g.trans b),c,a _ _ b,if_neg];rintro ⟨t,u⟩;refine hqi (Nat.le_antisymm ?_ ?_)
   ·refine Nat.le_of_lt_succ ((Nat.div_lt_iff_lt_mul E.pos).2 ?_);rw [Nat.succ_mul];omega
   ·exact (Nat.le_div_iff_mul_le E.pos).2 (by omega)
 ·rw [List.getElem?_eq_none (by simp;omega),List.getElem?_eq_none (by rw [vO];simp;omega)]
theorem Own.st {T:Type} {E:El T} {w:World} {base:Nat} {s:Slc} {xs:List T} (h:Own E w base s xs) {i:Nat} {x y:T} (hx:xs[i]?=some x) {j:Nat} {us:List Value} (hj:j+us.length<=E.k)
  (hy:E.cells y=putL (E.cells x) j us) {K:Ub} (hK:∀w',Own E w' base s (xs.set i y)->w.grownBy w' s.blk->w'.heap.size=w.heap.size->K w'):stK ((s.at_ E.k i).add j) us w K:=by
 rcases h.form with ⟨rfl,rfl⟩ | ⟨g,cur,a,m,n,f,o,p,q⟩
 ·simp at hx
 ·have r:=(List.getElem?_eq_some_iff.1 hx).1;have t:i*E.k+E.k<=xs.length*E.k:=by
   have:=Nat.mul_le_mul_right E.k (show i+1<=xs.length from r);rw [add_mul,Nat.one_mul] at this;exact this
  have l:xs.length*E.k<=s.c*E.k:=Nat.mul_le_mul_right _ f;have u:(s.at_ E.k i).add j=⟨g,i*E.k+j,none⟩:=by
   rw [a];show ((⟨g,0,none⟩:Addr).add (i*E.k)).add j=_;rw [jU,qC,Nat.zero_add]
  rw [u];refine qD n (by omega) λw' b d e=>hK w' ?_ ?_ e
  ·have:=Own.of_blk (xs:=xs.set i y) m b (by simpa using f) o (by rw [vL];exact p) (by rw [List.length_set];exact zi3 hx hj hy q (by omega));rw [a];simpa using this
  ·rw [a];exact d
theorem Own.st0 {T:Type} {E:El T} {w:World} {base:Nat} {s:Slc} {xs:List T} (h:Own E w base s xs) {i:Nat} {x y:T} (hx:xs[i]?=some x) {us:List Value} (hy:E.cells y=us)
  {K:Ub} (hK:∀w',Own E w' base s (xs.set i y)->w.grownBy w' s.blk->w'.heap.size=w.heap.size->K w'):stK (s.at_ E.k i) us w K:=by
 have b:us.length=E.k:=by rw [<-hy,E.len]
 have a:E.cells y=putL (E.cells x) 0 us:=by
  refine List.ext_getElem? λm=>?_;rw [Yp us _ 0 m (by rw [E.len];omega),hy];by_cases hm:m<us.length
  ·rw [if_pos (by omega)];rfl
  ·rw [if_neg (by omega),List.getElem?_eq_none (by omega),List.getElem?_eq_none (by rw [E.len];omega)]
 have:=h.st hx (by omega) a hK
 rwa [add_zero] at this
theorem y9 {T:Type} {E:El T} {w:World} {g:Nat} {y:T} {vs:List Value} (hb:Blk w g E.t vs) (hy:E.cells y=vs):Rd E w ⟨some ⟨g,0,none⟩,1,1⟩ [y]:=by
 refine ⟨rfl,le_refl _,by simp [maxLen],λ_=>rfl,λi x a=>?_⟩;cases i with
 | zero =>
  simp only [List.getElem?_cons_zero,Option.some.injEq] at a;subst a;show qG w ((⟨g,0,none⟩:Addr).add (0*E.k)) _;rw [Nat.zero_mul,hy];exact hb.cells
 | succ i=>simp at a
theorem qb3 {T:Type} {E:El T} {w:World} {g base:Nat} (hb:Blk w g E.t []) (hg:base<=g):Own E w base ⟨some ⟨g,0,none⟩,0,0⟩ [] :=
 Own.of_blk hg hb (le_refl _) (by simp) (by simp) (by simp [Qg])
theorem lI {k:IntKind} {a:Addr} {w:World} {K:Int->Prop} {x:Int} (h:w.cell? a=some (.int k x)) (hK:K x):ldI k a w K:=⟨x,h,hK⟩
theorem jw {a:Addr} {w:World} {K:Bool->Prop} {x:Bool} (h:w.cell? a=some (.bool x)) (hK:K x):ldB a w K:=⟨x,h,hK⟩
theorem qgu {a:Addr} {w:World} {K:ByteArray->Prop} {x:ByteArray} (h:w.cell? a=some (.string x)) (hK:K x):qw1 a w K:=⟨x,h,hK⟩
theorem qS {a:Addr} {w:World} {K:Option Addr->Prop} {x:Option Addr} (h:w.cell? a=some (.pointer x)) (hK:K x):ldP a w K:=⟨x,h,hK⟩
theorem lSl {a:Addr} {w:World} {K:Slc->Prop} {x:Slc} (h:w.cell? a=some (.slice x.a x.n x.c)) (hK:K x):zW a w K:=⟨x,h,hK⟩
theorem km {a:Addr} {w:World} {K:Option Nat->Prop} {x:Option Nat} (h:w.cell? a=some (.map x)) (hK:K x):ldM a w K:=⟨x,h,hK⟩
theorem qz {r:Rep} {a:Addr} {w:World} {K:r.T->Prop} {x:r.T} (h:qG w a (r.cells x)) (hK:K x):ldS r a w K:=⟨x,h,hK⟩
theorem jS {t:TypeId} {zs vs:List Value} {w:World} {K:Addr->Ub} (hl:zs.length=vs.length)
  (hK:∀w',Blk w' w.heap.size t vs->Uc w w'->w'.heap.size=w.heap.size+1->K ⟨w.heap.size,0,none⟩ w'):nw t zs w λc w3=>stK c vs w3 λw4=>K c w4:=by
 refine nwb λl b d g=>?_;refine qD b (by omega) λh a f i=>hK h ?_ ?_ (by omega)
 ·have e:putL zs 0 vs=vs:=by
   refine List.ext_getElem? λm=>?_;rw [Yp vs zs 0 m (by omega)];by_cases hm:m<vs.length
   ·rw [if_pos (by omega)];rfl
   ·rw [if_neg (by omega),List.getElem?_eq_none (by omega),List.getElem?_eq_none (by omega)]
  rw [e] at a;exact a
 ·exact d.grown f (by omega) λk j=>by cases j;exact le_refl _
def mix {α:Type} (ys xs:List α) (k:Nat):List α:=ys.take k++xs.drop k
theorem zjs {α:Type} (ys xs:List α):mix ys xs 0=xs:=by simp [mix]
theorem zmk {α:Type} {ys xs:List α} (h:ys.length=xs.length):mix ys xs xs.length=ys:=by simp [mix,<-h]
theorem qkp {α:Type} {ys xs:List α} (h:ys.length=xs.length) (k:Nat):(mix ys xs k).length=xs.length:=by simp [mix];omega
theorem zdd {α:Type} {ys xs:List α} (h:ys.length=xs.length) {k:Nat} (hk:k<xs.length) (i:Nat):(mix ys xs k)[i]?=if i<k then ys[i]? else xs[i]?:=by
 unfold mix;have a:(ys.take k).length=k:=by simp;omega
 by_cases hi:i<k
 ·rw [List.getElem?_append_left (by omega),List.getElem?_take_of_lt hi,if_pos hi]
 ·rw [List.getElem?_append_right (by omega),a,List.getElem?_drop,if_neg hi];congr 1;omega
theorem q4o {α:Type} {ys xs:List α} (h:ys.length=xs.length) {k:Nat} (hk:k<xs.length) {y:α} (hy:ys[k]?=some y):(mix ys xs k).set k y=mix ys xs (k+1):=by
 unfold mix;have b:(ys.take k).length=k:=by simp;omega
 have a:ys[k]'(by omega)=y:=by
  rw [List.getElem?_eq_getElem (by omega)] at hy;exact Option.some.inj hy
 rw [List.set_append_right _ _ (by omega),b,Nat.sub_self,List.drop_eq_getElem_cons hk,List.set_cons_zero,List.take_succ_eq_append_getElem (by omega),a];simp
theorem zgt {α:Type} {ys xs:List α} (h:ys.length=xs.length) {k:Nat} (hk:k<xs.length) (he:ys[k]?=xs[k]?):mix ys xs k=mix ys xs (k+1):=by
 have a:ys[k]?=some (ys[k]'(by omega)):=List.getElem?_eq_getElem _;rw [<-q4o h hk a];refine (List.ext_getElem? λi=>?_);by_cases hi:i=k
 ·subst hi;rw [List.getElem?_set_self (by rw [qkp h];exact hk),zdd h hk,if_neg (by omega),<-he,a]
 ·rw [List.getElem?_set_ne (Ne.symm hi)]
structure Chg (S:Nat->Prop) (w w':World):Prop where
 os:w'.os=w.os
 tape:w'.tape=w.tape
 output:w'.output=w.output
 size:w.heap.size<=w'.heap.size
 block:∀k,k<w.heap.size->¬S k->w'.heap[k]?=w.heap[k]?
theorem Chg.refl (S:Nat->Prop) (w:World):Chg S w w:=⟨rfl,rfl,rfl,le_refl _,λ_ _ _=>rfl⟩
theorem Chg.trans {S S':Nat->Prop} {a b c:World} (h:Chg S a b) (k:Chg S' b c) (hs:∀i,i<a.heap.size->S' i->S i):Chg S a c :=
 ⟨k.os.trans h.os,k.tape.trans h.tape,k.output.trans h.output,Nat.le_trans h.size k.size,λi d f=>(k.block i (Nat.lt_of_lt_of_le d h.size) (λe=>f (hs i d e))).trans (h.block i d f)⟩
theorem Chg.mono {S S':Nat->Prop} {a b:World} (h:Chg S a b) (hs:∀i,i<a.heap.size->S i->S' i):Chg S' a b :=
 ⟨h.os,h.tape,h.output,h.size,λi c d=>h.block i c λe=>d (hs i c e)⟩
theorem Chg.below {S:Nat->Prop} {B:Nat} {a b:World} (h:Chg S a b) (hB:B<=a.heap.size) (hs:∀i,i<B->¬S i):Below B a b :=
 ⟨h.os,h.tape,h.output,h.size,λk c=>h.block k (by omega) (hs k c)⟩
theorem Chg.of_below {B:Nat} {a b:World} (h:Below B a b):Chg (λk=>B<=k) a b:=⟨h.os,h.tape,h.output,h.size,λk _ c=>h.block k (by omega)⟩
theorem Chg.of_ext {S:Nat->Prop} {a b:World} (h:Uc a b):Chg S a b:=⟨h.os,h.tape,h.output,h.size,λk c _=>h.block k c⟩
theorem Chg.of_grown {S:Nat->Prop} {a b:World} {row:Option Nat} (h:a.grownBy b row) (hs:∀k,row=some k->S k):Chg S a b :=
 ⟨h.os,h.tape,h.output,h.size,λk c d=>h.block k c λe=>d (hs k e.symm)⟩
theorem Chg.ext {a b:World} {S:Nat->Prop} (h:Chg S a b) (hs:∀i,i<a.heap.size->¬S i):Uc a b:=⟨h.os,h.tape,h.output,h.size,λk c=>h.block k c (hs k c)⟩
theorem Blk.chg {S:Nat->Prop} {w w':World} {g:Nat} {t:TypeId} {vs:List Value} (h:Blk w g t vs) (hc:Chg S w w') (hg:¬S g):Blk w' g t vs:=(hc.block g h.lt hg).trans h
theorem Own.chg {T:Type} {E:El T} {S:Nat->Prop} {w w':World} {base:Nat} {s:Slc} {xs:List T} (h:Own E w base s xs) (hc:Chg S w w') (hg:∀g,s.blk=some g->¬S g):Own E w' base s xs:=by
 rcases h.form with ⟨rfl,rfl⟩ | ⟨g,cur,b,c,a,d,e,f,i⟩
 ·exact Own.nil _ _ _
 ·rw [b];exact Own.of_blk c (a.chg hc (hg g (by rw [b];rfl))) d e f i
theorem Rd.chg {T:Type} {E:El T} {S:Nat->Prop} {w w':World} {s:Slc} {xs:List T} (h:Rd E w s xs) (hc:Chg S w w') (hg:∀a,s.a=some a->¬S a.block):Rd E w' s xs:=by
 refine ⟨h.n,h.nc,h.cm,h.some_,λi x e=>?_⟩;have k:=(List.getElem?_eq_some_iff.1 e).1;obtain ⟨a,f⟩:=isSome_iff_exists.1 (h.some_ (by omega));have b:=h.at_ i x e;intro j v g;have c:=b j v g;have d:=World.block_lt_of_cell? w _ c;rw [World.cell?_of_block (hc.block _ d (by simpa [Slc.at_,f] using hg a f))];exact c
theorem Own.blk_t {T:Type} {E:El T} {w:World} {base:Nat} {s:Slc} {xs:List T} (h:Own E w base s xs) {g:Nat} (hg:s.blk=some g):∃cs,Blk w g E.t cs:=by
 rcases h.form with ⟨rfl,rfl⟩ | ⟨c,cur,b,d,a,e,f,i,j⟩
 ·cases hg
 ·rw [b] at hg;cases hg;exact ⟨_,a⟩
theorem Blk.ne_t {w:World} {g g':Nat} {t t':TypeId} {cs cs':List Value} (h:Blk w g t cs) (h':Blk w g' t' cs') (hne:t≠t'):g≠g':=by
 rintro rfl;unfold Blk at h h';rw [h] at h';injection h' with h'
 injection h' with _ a
 exact hne a
def u8 (x:Int):UInt8:=UInt8.ofNat x.toNat
theorem qy9 {x:Int} (h0:0<=x) (h1:x<256):((u8 x).toNat:Int)=x:=by
 unfold u8;rw [UInt8.toNat_ofNat'];omega
theorem zht (x:Int):IntKind.u8.wrap x=((u8 (x%256)).toNat:Int):=by
 rw [qy9 (by omega) (by omega),IntKind.wrap_u8]
theorem qM {x:Int} (h:-9223372036854775808<=x/\x<=9223372036854775807):i64.wrap x=x:=by
 have:=IntWalk.i64_in x h;exact this
theorem Zd {y d:Nat} {K:Nat->Prop} (h:K d):bnd none y d K:=h
theorem yB {i:Int} {y d:Nat} {K:Nat->Prop} (h0:0<=i) (h1:i<=y) (h:K i.toNat):bnd (some i) y d K:=⟨⟨h0,h1⟩,h⟩
theorem Rd.part {T:Type} {E:El T} {w:World} {s:Slc} {xs:List T} (h:Rd E w s xs) {l m:Nat} (hl:l<=m) (hm:m<=xs.length) :
  Rd E w ⟨cut s.a l s.c E.k,m-l,s.c-l⟩ ((xs.take m).drop l):=by
 have q:=h.n;have g:=h.nc;have j:=h.cm;have b:((xs.take m).drop l).length=m-l:=by simp;omega
 refine ⟨b.symm,by show m-l<=s.c-l;omega,by show s.c-l<=maxLen;omega,λo=>?_,λi x d=>?_⟩
 ·obtain ⟨a,f⟩:=isSome_iff_exists.1 (h.some_ (by omega));unfold cut;rw [f];split<;>rfl
 ·have r:i<m-l:=by rw [<-b];exact (List.getElem?_eq_some_iff.1 d).1
  rw [List.getElem?_drop,List.getElem?_take_of_lt (by omega)] at d;have p:=h.at_ _ _ d;obtain ⟨a,f⟩:=isSome_iff_exists.1 (h.some_ (by omega));have e:(⟨cut s.a l s.c E.k,m-l,s.c-l⟩:Slc).at_ E.k i=s.at_ E.k (l+i):=by
   unfold Slc.at_ cut;rw [f,if_neg (by omega)];simp only [Option.map_some,getD_some];rw [jU,add_mul]
  rw [e];exact p
theorem Rd.slK {T:Type} {E:El T} {w:World} {s:Slc} {xs:List T} (h:Rd E w s xs) {lo hi:Option Int} {k:Nat} (hk:k=E.k) {l m:Nat} {K:Slc->Prop} (hlo:lo=none/\l=0\/lo=some (l:Int)) (hhi:hi=none/\m=xs.length\/hi=some (m:Int))
  (hl:l<=m) (hm:m<=xs.length) (hK:Rd E w ⟨cut s.a l s.c E.k,m-l,s.c-l⟩ ((xs.take m).drop l)->K ⟨cut s.a l s.c E.k,m-l,s.c-l⟩):slK s lo hi k K:=by
 subst hk;have f:=h.n;have g:=h.nc;have d:K ⟨cut s.a l s.c E.k,m-l,s.c-l⟩:=hK (h.part hl hm);unfold Vc.slK;have b:bnd lo m 0 λe=>K ⟨cut s.a e s.c E.k,m-e,s.c-e⟩:=by
  rcases hlo with ⟨rfl,rfl⟩ | rfl
  ·exact Zd d
  ·exact yB (by omega) (by omega) (by simpa using d)
 rcases hhi with ⟨rfl,rfl⟩ | rfl
 ·refine Zd ?_;rw [f];exact b
 ·exact yB (by omega) (by omega) (by simpa using b)
theorem qxm {P:Program} {T:Type} {E:El T} {st it:TypeId} {kk:IntKind} (TT:SlT P E st) (ty:TypeId) (hit:P.underlying it=some (.int kk)) (w:World) (n:Nat) (h0:0<n) (h63:n<=maxLen) (h48:n*TT.i.bytes<=140737488355328) :
  (append_ #[st,it] ty #[.slice none 0 0,.int .i64 n]).run P w =
   .ok (.slice (some ⟨w.heap.size,0,none⟩) n (grownCap w n 0 E.t)) (w.drew.alloc (.cells (Builtin.zeroCells TT.z.cells n++Builtin.zeroCells TT.z.cells (grownCap w n 0 E.t-n)) E.t)):=by
 have f:n≠0:=by omega
 have g:i64.wrap (n:Int)=n:=qM (by simp only [maxLen] at h63;omega);have h:¬(281474976710656<(n:Int)*(TT.i.bytes:Int)):=by
  omega
 have a:¬(9223372036854775807<(n:Int)):=by simp only [maxLen] at h63;omega
 have b:¬(281474976710656<Builtin.nextslicecap n 0*TT.i.bytes):=by rw [nextslicecap_zero h0];omega
 have j:=E.pos;have k:¬(TT.i.size=0):=by rw [TT.hs];omega
 have c:¬((n:Int)<0):=by omega
 have d:(asIntOf (Ua (n:Int))).run P w=.ok (.i64,(n:Int)) w:=rfl;simp [append_,run_underlying TT.ht,run_underlying hit,sizeOf,typeInfo,zeroValue,TT.hi,TT.hz,asInt,d,g,h,f,a,b,c,Question.forced,run_firstCells_none,newRow,grownCap];have:0<n*TT.i.size:=Nat.mul_pos h0 (by omega);omega
theorem q4k {P:Program} {T:Type} {E:El T} {st it:TypeId} {kk:IntKind} (TT:SlT P E st) {ty:TypeId} (hit:P.underlying it=some (.int kk)) {w:World} {n:Nat} {m:Int} {K:Slc->Ub} (hm:m=n) (h0:0<n) (h63:n<=maxLen) (h48:n*TT.i.bytes<=140737488355328)
  (hK:∀cap w',n<=cap->cap<=maxLen->Own E w' w.heap.size ⟨some ⟨w.heap.size,0,none⟩,0,cap⟩ []->Uc w w'->K ⟨some ⟨w.heap.size,0,none⟩,n,cap⟩ w'):apM P #[st,it] ty ⟨none,0,0⟩ m .i64 w K:=by
 subst hm;refine ⟨⟨some ⟨w.heap.size,0,none⟩,n,grownCap w n 0 E.t⟩,_,qxm TT ty hit w n h0 h63 h48,hK _ _ (grownCap_ge w n 0 E.t) (grownCap_le_maxLen w n 0 E.t h63) ?_ ?_⟩
 ·have b:=grownCap_ge w n 0 E.t;generalize hA:Builtin.zeroCells TT.z.cells n++Builtin.zeroCells TT.z.cells (grownCap w n 0 E.t-n)=A;have a:A.size=grownCap w n 0 E.t*E.k:=by
   rw [<-hA];simp only [Array.size_append,size_zeroCells,TT.hzs,<-add_mul];congr 1;omega
  refine Own.of_blk (cur:=A.toList) (le_refl _) ?_ (Nat.zero_le _) (grownCap_le_maxLen w n 0 E.t h63) ?_ (by simp [Qg])
  ·have:=Blk.new w.drew E.t A.toList
   rwa [Array.toArray_toList] at this
  ·exact a
 ·exact (Below.refl _ w).drew.alloc (le_refl _) _
theorem get_of {α:Type} {xs:List α} {k:Nat} (hk:k<xs.length):∃x,xs[k]?=some x/\∀h,xs[((k:Int)).toNat]'h=x:=⟨xs[k],List.getElem?_eq_getElem hk,λ_=>rfl⟩
theorem cut_block {x:Option Addr} {l m k:Nat} {a:Addr} (h:cut x l m k=some a):∃b,x=some b/\a.block=b.block:=by
 unfold cut at h;split at h
 ·exact ⟨a,h,rfl⟩
 ·obtain ⟨b,c,rfl⟩:=Option.map_eq_some_iff.1 h;exact ⟨b,c,by simp⟩
theorem slk {s:Slc} {k:Nat}:s.blk=some k↔∃a,s.a=some a/\a.block=k:=by
 unfold Slc.blk;rw [Option.map_eq_some_iff]
theorem callR_plain {C:Cx} {g:Nat} {first cap:Array Value} {args:List Value} {ks:List Kind} {w:World} {K:Cur ks} (hp:C.plain g=true) (h:qw C.P g (first.toList++args++cap.toList) ks w K) :
  j7 C (.func (.func g) first cap) args ks w K:=by
 unfold j7 qpd;simp only [hp];exact h
theorem rd_lits {T:Type} {E:El T} {w:World} {g:Nat} {ys:List T} {vs:List Value} (hb:Blk w g E.t vs) (hm:ys.length<=maxLen) (hy:Qg E ys=vs):Rd E w ⟨some ⟨g,0,none⟩,ys.length,ys.length⟩ ys :=
 (Own.of_blk (le_refl _) hb (le_refl _) hm (by rw [<-hy,vO]) (by rw [<-hy,List.take_of_length_le (by rw [vO];exact le_refl _)])).rd
theorem Chg.gg {w1 w2:World} {k:Nat} (h:w1.grownBy w2 (some k)):Chg (λi=>i=k) w1 w2:=Chg.of_grown h λi a=>by cases a;rfl
theorem Rd.slK3 {T:Type} {E:El T} {w:World} {s:Slc} {xs:List T} (h:Rd E w s xs) {lo:Option Int} {hi mx:Int} {k:Nat} (hk:k=E.k) {l m:Nat} {K:Slc->Prop} (hlo:lo=none/\l=0\/lo=some (l:Int)) (hhi:hi=(m:Int)) (hmx:mx=(m:Int))
  (hl:l<=m) (hm:m<=xs.length) (hK:Rd E w ⟨cut s.a l m E.k,m-l,m-l⟩ ((xs.take m).drop l)->K ⟨cut s.a l m E.k,m-l,m-l⟩):slK3 s lo hi mx k K:=by
 subst hk hhi hmx;have r:=h.n;have j:=h.nc;have o:=h.cm;have b:((xs.take m).drop l).length=m-l:=by simp;omega
 have d:Rd E w ⟨cut s.a l m E.k,m-l,m-l⟩ ((xs.take m).drop l):=by
  refine ⟨b.symm,le_refl _,by show m-l<=maxLen;omega,λp=>?_,λi x f=>?_⟩
  ·rw [b] at p;obtain ⟨a,g⟩:=isSome_iff_exists.1 (h.some_ (by omega));show (cut s.a l m E.k).isSome=true;unfold cut;rw [g];split<;>rfl
  ·have hi:i<m-l:=by rw [<-b];exact (List.getElem?_eq_some_iff.1 f).1
   rw [List.getElem?_drop,List.getElem?_take_of_lt (by omega)] at f;have q:=h.at_ _ _ f;obtain ⟨a,g⟩:=isSome_iff_exists.1 (h.some_ (by omega));have e:(⟨cut s.a l m E.k,m-l,m-l⟩:Slc).at_ E.k i=s.at_ E.k (l+i):=by
    unfold Slc.at_ cut;rw [g,if_neg (by omega)];simp only [Option.map_some,getD_some];rw [jU,add_mul]
   rw [e];exact q
 unfold Vc.slK3;refine yB (by omega) (by omega) ?_;refine yB (by omega) (by simp) ?_;have c:=hK d;rcases hlo with ⟨rfl,rfl⟩ | rfl
 ·exact Zd (by simpa using c)
 ·exact yB (by omega) (by simp;omega) (by simpa using c)
theorem qrb {T:Type} (E:El T) (x:T) (n m:Nat) (hm:m<n*E.k):(Qg E (List.replicate n x))[m]?=(E.cells x)[m%E.k]?:=by
 have b:=(Nat.div_lt_iff_lt_mul E.pos).2 hm;have c:m%E.k<E.k:=mod_lt _ E.pos;have e:m/E.k*E.k+m%E.k=m:=by rw [Nat.mul_comm];exact Nat.div_add_mod m E.k
 have a:(E.cells x)[m%E.k]?=some ((E.cells x)[m%E.k]'(by rw [E.len];exact c)):=List.getElem?_eq_getElem _;have:=qso E (List.replicate n x) (m/E.k) x (m%E.k) _ (by rw [List.getElem?_replicate,if_pos b]) a;rw [e] at this;rw [this,a]
theorem qyc {P:Program} {T:Type} {E:El T} {st:TypeId} (TT:SlT P E st) {x0:T} (hz:(E.cells x0).toArray=TT.z.cells) {kl kc:IntKind} {l c:Int} {n:Nat} (hl:l=n) (hc:c=n) (hb:TT.i.bytes*n<=281474976710656) (hm:n<=maxLen) {w:World} {K:Slc->Ub}
  (hK:∀w',Own E w' w.heap.size ⟨some ⟨w.heap.size,0,none⟩,n,n⟩ (List.replicate n x0)->Uc w w'->K ⟨some ⟨w.heap.size,0,none⟩,n,n⟩ w'):za5 P st (.int kl l) (.int kc c) w K:=by
 subst hl hc;obtain ⟨w',f,b,a⟩:=run_make_full w w.heap.size st E.t TT.i TT.z E.k TT.ht TT.hi TT.hz TT.hs kl kc n hb hm (le_refl _);refine ⟨_,w',f,hK w' ?_ ⟨a.os,a.tape,a.output,a.size,λk g=>a.block k g (by simp)⟩⟩;unfold Own;rw [List.length_replicate];have e:Qg E (List.replicate n x0)=(madeCells TT.z.cells (n*E.k)).toList:=by
  refine List.ext_getElem? λm=>?_;by_cases hmm:m<n*E.k
  ·rw [qrb E x0 n m hmm];have d:=TT.hzs;have h:m%E.k<E.k:=mod_lt _ E.pos;have b:(E.cells x0)[m%E.k]?=TT.z.cells[m%E.k]?:=by rw [<-hz];simp
   rw [b];simp [madeCells,hmm,d,h]
  ·rw [List.getElem?_eq_none (by rw [vO,List.length_replicate];omega),List.getElem?_eq_none (by simp [size_madeCells];omega)]
 rw [e];exact b
theorem qpe (n x:Nat):BitVec.ofInt n (x:Int)=BitVec.ofNat n x:=by
 simp
def q7t:IntKind->Nat
 | .i8=>7 | .i16=>15 | .i32=>31 | .i64=>63 | .u8=>8 | .u16=>16 | .u32=>32 | .u64=>64
theorem xN (k:IntKind) {x:Nat} (h:x<2^q7t k):k.wrap (x:Int)=x:=by
 cases k<;>simp only [q7t] at h
 ·exact IntWalk.i8_in _ (by omega)
 ·exact IntWalk.i16_in _ (by omega)
 ·exact IntWalk.i32_in _ (by omega)
 ·exact IntWalk.i64_in _ (by omega)
 ·exact IntWalk.u8_in _ (by omega)
 ·exact IntWalk.u16_in _ (by omega)
 ·exact IntWalk.u32_in _ (by omega)
 ·exact IntWalk.u64_in _ (by omega)
theorem zk2 (k:IntKind):q7t k<=k.bits:=by cases k<;>decide
theorem qun (k:IntKind) {x:Nat} (h:x<2^q7t k):x%2^k.bits=x:=Nat.mod_eq_of_lt (Nat.lt_of_lt_of_le h (Nat.pow_le_pow_right (by decide) (zk2 k)))
theorem zc5 (k:IntKind) {a b:Nat} (ha:a<2^q7t k) (hb:b<2^q7t k):jN .or k (a:Int) (b:Int)=((a ||| b:Nat):Int):=by
 show k.wrap ((BitVec.ofInt k.bits (a:Int) ||| BitVec.ofInt k.bits (b:Int)).toNat:Int)=_;rw [qpe,qpe,BitVec.toNat_or,BitVec.toNat_ofNat,BitVec.toNat_ofNat,qun k ha,qun k hb];exact xN k (Nat.or_lt_two_pow ha hb)
theorem zix (k:IntKind) {a b:Nat} (ha:a<2^q7t k) (hb:b<2^q7t k):jN .and k (a:Int) (b:Int)=((a &&& b:Nat):Int):=by
 show k.wrap ((BitVec.ofInt k.bits (a:Int) &&& BitVec.ofInt k.bits (b:Int)).toNat:Int)=_;rw [qpe,qpe,BitVec.toNat_and,BitVec.toNat_ofNat,BitVec.toNat_ofNat,qun k ha,qun k hb];exact xN k (Nat.and_lt_two_pow _ hb)
theorem q6b (a k:Nat):(a:Int).fdiv (2^k)=((a/2^k:Nat):Int):=by
 have e:((2:Int)^k)=((2^k:Nat):Int):=by simp
 rw [e,Int.fdiv_eq_ediv_of_nonneg _ (Int.natCast_nonneg _)];rfl
theorem qop (a k:Nat):(a:Int)*2^k=((a*2^k:Nat):Int):=by simp
theorem zn4 {a b i:Nat} (h:b<2^i):b ||| 2^i*a=b+2^i*a:=by
 rw [Nat.or_comm,<-Nat.two_pow_add_eq_or_of_lt h,Nat.add_comm]
def le:List UInt8->Nat
 | []=>0
 | b::r=>b.toNat+256*le r
theorem zn0 {w:World} {a:Addr} {b:UInt8} {K:Int->Prop} (h:qG w a [.int .u8 (b.toNat:Int)]) (hK:K (b.toNat:Int)):ldI .u8 a w K:=lI (by simpa using h 0 _ rfl) hK
end Go.Vc
set_option maxRecDepth 100000
namespace Go.Proofs.YtjhgepnpnapnoaaGreatDoor
open Go.Vc Go.RowKit
def qo:El UInt8:={ cells:=λb=>[.int .u8 b.toNat],t:=qF,k:=1 }
noncomputable def qN:SlT PG qo qj:={ z:=(.int .u8 0) }
theorem jV:qN.i.bytes=1:=by kernel_rfl
def jr:El Int:={ cells:=λx=>[(Ua x)],t:=zJ,k:=1 }
noncomputable def qb1:SlT PG jr jB:={ z:=(Ua 0) }
theorem qhb:qb1.i.bytes=8:=by kernel_rfl
def q9b:El Slc:={ cells:=λx=>[(.slice x.a x.n x.c)],t:=zA,k:=1 }
noncomputable def zgr:SlT PG q9b zm:={ z:=(.slice none 0 0) }
def znx:El zl:={ cells:=zl.rep.cells,t:=zi,k:=5 }
def qR:El qm:={ cells:=qm.rep.cells,t:=qJ,k:=14 }
noncomputable def jY:SlT PG qR zu:={ z:=(.agg #[(Ua 0),(Ua 0),(.bool false),(Ua 0),(Ua 0),(Ua 0),(Ua 0),(Ua 0),(Ua 0),(Ua 0),(Ua 0),(Ua 0),(Ua 0),(Ua 0)]) }
theorem Q4:jY.i.bytes=112:=by kernel_rfl
def q4y:El Int:={ cells:=λx=>[(.int .i32 x)],t:=Qe,k:=1 }
def qp8:El jz:={ cells:=jz.rep.cells,t:=qmy,k:=5 }
def kY:El ByteArray:={ cells:=λx=>[(.string x)],t:=zk,k:=1 }
noncomputable def qja:SlT PG kY vV:={ z:=(.string (⟨#[]⟩:ByteArray)) }
theorem qs8:qja.i.bytes=16:=by kernel_rfl
def yS:El Slc:={ cells:=λx=>[(.slice x.a x.n x.c)],t:=qj,k:=1 }
noncomputable def qmr:SlT PG yS X7:={ z:=(.slice none 0 0) }
theorem qzp:qmr.i.bytes=24:=by kernel_rfl
theorem apB {w:World} {b:Nat} {s x:Slc} {xs ys:List UInt8} {K:Slc->Ub} (hown:Go.Vc.Own qo w b s xs) (hx:Rd qo w x ys) (hb:b<=w.heap.size) (hl:xs.length+ys.length<=1000000000000)
  (hK:∀r w',Go.Vc.Own qo w' b r (xs++ys)->Chg (λk=>s.blk=some k) w w'->(r.blk=s.blk\/r.blk=some w.heap.size)->K r w'):apK PG #[qj,qj] qj s x w K :=
 jW qN hown hx hb (by rw [jV];omega) (by simp only [maxLen];omega) λr w' a c d=>hK r w' a (Chg.of_grown c λk e=>e) d
theorem zmx {w:World} {b:Nat} {s:Slc} {xs:List UInt8} {c:UInt8} {v:Int} {K:Slc->Ub} (hv:v=(c.toNat:Int)) (hown:Go.Vc.Own qo w b s xs) (hb:b<=w.heap.size) (hl:xs.length<=900000000000)
  (hK:∀r w',Go.Vc.Own qo w' b r (xs++[c])->Chg (λk=>s.blk=some k) w w'->(r.blk=s.blk\/∃k,r.blk=some k/\w.heap.size<=k)->K r w') :
  nw qF [(.int .u8 v)] w λt w1=>apK PG #[qj,qj] qj s (⟨(some t),1,1⟩:Slc) w1 K:=by
 subst hv;refine nwb λw1 d a f=>?_;have g:=y9 (E:=qo) d rfl;refine apB (hown.ext a) g (by omega) (by simp;omega) λr h j l m=>hK r h j ((Chg.of_ext a).trans l λi _ n=>n) ?_;rcases m with e | e
 ·exact .inl e
 ·exact .inr ⟨_,e,by omega⟩
theorem Xp {s:Slc} {xs:List UInt8} {w:World} {K:Slc->Ub} (h:Rd qo w s xs) (hl:xs.length<=900000000000)
  (hK:∀r w',Go.Vc.Own qo w' w.heap.size r xs->Uc w w'->K r w'):zI s w K:=by
 refine qbr _ ?_;cases ha:s.a with
 | none =>
  have:=h.none_nil ha;subst this;exact cT rfl (hK _ _ (Go.Vc.Own.nil _ _ _) (Below.refl _ _))
 | some a =>
  refine cF rfl ?_;refine nwb λl c b f=>?_;refine apB (qb3 c (Nat.le_refl _)) (h.ext b) (by omega) (by simp;omega) λr g d j m=>?_;exact hK r g d (b.trans (j.below (by omega) λi n k=>by have e:w.heap.size=i:=Option.some.inj k;omega))
theorem zeh {n:Int} {w:World} {K:Slc->Ub} (h0:0<=n) (hn:n<=900000000000) (hK:∀r w',Go.Vc.Own qo w' w.heap.size r []->Uc w w'->K r w'):y3 (⟨none,0,0⟩:Slc) n w K:=by
 refine qdn _ _ ?_;refine jpO λJ b=>?_;refine cF (by simpa using h0) (b _ _ ?_);have c:i64.wrap (n-(i64.wrap (((0:Nat):Int)-((0:Nat):Int))))=n:=by
  rw [qM (x:=((0:Nat):Int)-((0:Nat):Int)) (by omega),qM (by omega)];omega
 simp only;refine cO (λh=>?_) (λh=>?_)
 ·have h:=oTq h;refine yB (by omega) (by omega) (Zd ?_);refine q4k qN (kk:=.i64) (by kernel_rfl) (n:=n.toNat) (by omega) (by omega) (by simp only [maxLen];omega) (by rw [jV];omega) λa w' g i d f=>?_;refine yB (by omega) (by simp) (Zd ?_);have e:cut (some ⟨w.heap.size,0,none⟩) 0 a 1=some ⟨w.heap.size,0,none⟩:=by
   unfold cut;split
   ·rfl
   ·simp
  rw [e];exact hK _ _ d f
 ·exact hK _ _ (Go.Vc.Own.nil _ _ _) (Below.refl _ _)
def znh:El Slc where
 cells s:=[.slice s.a s.n s.c]
 t:=qj
 k:=1
 pos:=by decide
 len _:=rfl
 one x v hv:=by
  simp only [List.mem_cons,List.mem_nil_iff,or_false] at hv;rcases hv with rfl
  rfl
def zm3 (w:World) (ss:List Slc) (xss:List (List UInt8)):Prop:=ss.length=xss.length/\∀(i:Nat) s xs,ss[i]?=some s->xss[i]?=some xs->Rd qo w s xs
theorem q4i (xss:List (List UInt8)) (k:Nat):(xss.take k).flatten.length<=xss.flatten.length:=by
 conv=>rhs;rw [<-List.take_append_drop k xss]
 rw [List.flatten_append,List.length_append];omega
theorem qqg {xss:List (List UInt8)} {k:Nat} {xs:List UInt8} (h:xss[k]?=some xs):(xss.take (k+1)).flatten=(xss.take k).flatten++xs:=by
 rw [List.take_add_one,h];simp
theorem qsx {p:Slc} {ss:List Slc} {xss:List (List UInt8)} {w:World} {K:Slc->Ub} (hp:Rd znh w p ss) (hss:zm3 w ss xss) (hl:xss.flatten.length<=900000000000) (hn:ss.length<=1000000)
  (hK:∀r w',Go.Vc.Own qo w' w.heap.size r xss.flatten->Uc w w'->K r w'):xL p w K:=by
 refine YZ _ ?_;have c:=hp.n;obtain ⟨o,hss⟩:=hss;refine lpR (λ(s:Int×Int×Unit) w2=>∃k:Nat,s.2.1=k/\k<=ss.length/\s.1=((xss.take k).flatten.length:Nat)/\w2=w) (λs=>ss.length-s.2.1.toNat) ⟨0,rfl,by omega,rfl,rfl⟩ ?_;rintro ⟨t,i,_⟩ w2 ⟨k,rfl,D,rfl,rfl⟩ I hI;dsimp only at *;have d:=q4i xss;refine cO (λa=>?_) (λb=>?_)
 ·have a:=oTq a;have e:k<ss.length:=by omega
  have q:=List.getElem?_eq_getElem e;have h:xss[k]?=some (xss[k]'(by omega)):=List.getElem?_eq_getElem _;refine hp.ix rfl (by omega) (by omega) λu=>?_;refine lSl (x:=ss[k]) (by simpa using u 0 _ rfl) ?_;have v:=hss k _ _ q h;have y:=v.n;have j:=qqg h;have l:=d (k+1);rw [j,List.length_append] at l;rw [y,qM (by omega)];rw [qM (by omega)];exact hI _ _ ⟨k+1,by simp,by omega,by rw [j];simp,rfl⟩ (by simp;omega)
 ·have b:=oFq b;have:k=ss.length:=by omega
  subst this;have l:=d ss.length;refine zeh (by omega) (by omega) λg G z A=>?_;refine lpR (λ(s:Slc×Int×Unit) w4=>∃k:Nat,s.2.1=k/\k<=ss.length/\Go.Vc.Own qo w4 w2.heap.size s.1 ((xss.take k).flatten)/\Uc w2 w4) (λs=>ss.length-s.2.1.toNat) ⟨0,rfl,by omega,by simpa using z,A⟩ ?_;rintro ⟨t,i,_⟩ w4 ⟨k,rfl,D,m,f⟩ I2 hI2;dsimp only at *;refine cO (λa=>?_) (λb=>?_)
  ·have a:=oTq a;have e:k<ss.length:=by omega
   have q:=List.getElem?_eq_getElem e;have h:xss[k]?=some (xss[k]'(by omega)):=List.getElem?_eq_getElem _;refine (hp.ext f).ix rfl (by omega) (by omega) λu=>?_;refine lSl (x:=ss[k]) (by simpa using u 0 _ rfl) ?_;have v:=(hss k _ _ q h).ext f;have j:=qqg h;have l:=d (k+1);rw [j,List.length_append] at l;refine apB m v f.size (by omega) λr H B C E=>?_;rw [qM (by omega)];exact hI2 _ _ ⟨k+1,by simp,by omega,by rw [j];exact B,f.trans (C.below f.size λi J F=>by have:=(m.lt i F).1;omega)⟩ (by simp;omega)
  ·have b:=oFq b;have:k=ss.length:=by omega
   subst this;rw [o,List.take_length] at m;exact hK _ _ m f
set_option maxRecDepth 400000
def qX (bs:List UInt8):ByteArray:=⟨bs.toArray⟩
theorem kN (l:List UInt8):(qX l).toList=l:=by rw [ByteArray.toList_eq];rfl
end Go.Proofs.YtjhgepnpnapnoaaGreatDoor
namespace Go.Vc
open Go.RowKit
theorem qgq {P:Program} {T:Type} {E:El T} {st ty:TypeId} (TT:SlT P E st) {w:World} {base:Nat} {s:Slc} {xs:List T} {y:T} {vs:List Value} {K:Slc->Ub} (hown:Own E w base s xs) (hy:E.cells y=vs)
  (hb:base<=w.heap.size) (hl:(xs.length+1)*TT.i.bytes<=140737488355328) (hm:xs.length+1<=maxLen)
  (hK:∀r w',Own E w' base r (xs++[y])->Chg (λk=>s.blk=some k) w w'->(∀k,r.blk=some k->s.blk=some k\/w.heap.size<=k)->K r w') :
  nw E.t vs w λa w1=>apK P #[st,st] ty s ⟨some a,1,1⟩ w1 λr w2=>K r w2:=by
 refine nwb λw1 e b f=>?_;refine jW TT (hown.ext b) (y9 e hy) (by omega) (by simpa using hl) (by simpa using hm) λr w2 g h c=>hK r w2 g ?_ ?_
 ·exact (Chg.of_ext b).trans (Chg.of_grown h λk d=>d) λi _ j=>j
 ·intro k d;rcases c with c | c
  ·exact .inl (c ▸ d)
  ·rw [c] at d;cases d;omega
theorem xr {a:Addr} {K:Addr->Prop} (h:K a):qH (some a) K:=h
theorem i64_in {x:Int} (h:-9223372036854775808<=x/\x<=9223372036854775807):i64.wrap x=x:=qM h
theorem qI {w:World} {T:Type} {E:El T} {b g:Nat} {s:Slc} {xs:List T} {t:TypeId} {vs:List Value} (h:Own E w b s xs) (h':Blk w g t vs) (hne:E.t≠t):∀k,s.blk=some k->k≠g:=λk c=>by
 obtain ⟨d,a⟩:=h.blk_t c;exact a.ne_t h' hne
theorem JN {w:World} {T T':Type} {E:El T} {E':El T'} {b b':Nat} {s s':Slc} {xs:List T} {ys:List T'} (h:Own E w b s xs) (h':Own E' w b' s' ys) (hne:E.t≠E'.t):∀k,s.blk=some k->s'.blk≠some k:=λk d e=>by
 obtain ⟨g,c⟩:=h.blk_t d;obtain ⟨f,a⟩:=h'.blk_t e;exact c.ne_t a hne rfl
theorem q44 {S:Nat->Prop} {w w':World} {k:Nat} (h:Chg (λi=>i=k) w w') (hk:S k):Chg S w w':=h.mono λi _ a=>by rw [a];exact hk
end Go.Vc
namespace Go.Proofs
open Go.Shelf
def Tryz.lays156_ren:Go.Shelf.Ren:=⟨λ| 156=>336 | 165=>383 | 166=>384 | 169=>46 | 240=>86 | 241=>412 | 276=>142 | 277=>431 | n=>n,λ| 31=>309 | 9=>9 | 3=>3 | 4=>4 | 0=>0 | 20=>20 | 72=>96 | 76=>103 | 70=>94 | 37=>26 | 75=>101 | 127=>171 | 164=>236 | 5=>5 | 80=>48 | n=>n,λ| n=>n⟩
theorem Tryz.lays156:Go.Proofs.Lays.n156 Tryz.prog Tryz.lays156_ren:={
 mixed:=by kernel_rfl
 f156:=Tryz.func336.trans (congrArg some (by kernel_rfl))
 f165:=Tryz.func383.trans (congrArg some (by kernel_rfl))
 f166:=Tryz.func384.trans (congrArg some (by kernel_rfl))
 f169:=Tryz.func46.trans (congrArg some (by kernel_rfl))
 f240:=Tryz.func86.trans (congrArg some (by kernel_rfl))
 f241:=Tryz.func412.trans (congrArg some (by kernel_rfl))
 f276:=Tryz.func142.trans (congrArg some (by kernel_rfl))
 f277:=Tryz.func431.trans (congrArg some (by kernel_rfl))
 t0:=Tryz.underlying0
 a0:=Tryz.isAgg0
 z0:=Tryz.sizeOf0
 v0:=Tryz.zeroValue0
 t3:=Tryz.underlying3
 a3:=Tryz.isAgg3
 z3:=Tryz.sizeOf3
 v3:=Tryz.zeroValue3
 t4:=Tryz.underlying4
 a4:=Tryz.isAgg4
 z4:=Tryz.sizeOf4
 v4:=Tryz.zeroValue4
 t9:=Tryz.underlying9
 a9:=Tryz.isAgg9
 z9:=Tryz.sizeOf9
 v9:=Tryz.zeroValue9
 t20:=Tryz.underlying20
 a20:=Tryz.isAgg20
 z20:=Tryz.sizeOf20
 v20:=Tryz.zeroValue20
 t31:=Tryz.underlying309
 a31:=Tryz.isAgg309
 z31:=Tryz.sizeOf309
 v31:=Tryz.zeroValue309
 t37:=Tryz.underlying26
 a37:=Tryz.isAgg26
 z37:=Tryz.sizeOf26
 v37:=Tryz.zeroValue26
 t70:=Tryz.underlying94
 a70:=Tryz.isAgg94
 z70:=Tryz.sizeOf94
 v70:=Tryz.zeroValue94
 t72:=Tryz.underlying96
 a72:=Tryz.isAgg96
 z72:=Tryz.sizeOf96
 v72:=Tryz.zeroValue96
 t75:=Tryz.underlying101
 a75:=Tryz.isAgg101
 z75:=Tryz.sizeOf101
 v75:=Tryz.zeroValue101
 t76:=Tryz.underlying103
 a76:=Tryz.isAgg103
 z76:=Tryz.sizeOf103
 v76:=Tryz.zeroValue103
 t127:=Tryz.underlying171
 a127:=Tryz.isAgg171
 z127:=Tryz.sizeOf171
 v127:=Tryz.zeroValue171
 t164:=Tryz.underlying236
 a164:=Tryz.isAgg236
 z164:=Tryz.sizeOf236
 v164:=Tryz.zeroValue236 }
theorem Tryz.Builder_Extra_156:Builder.Extra Tryz.prog Tryz.lays156_ren:={
 sizeBuilder:=by kernel_rfl
 liesBuilder:=by kernel_rfl
 t5:=Tryz.underlying5
 a5:=Tryz.isAgg5
 z5:=Tryz.sizeOf5
 v5:=Tryz.zeroValue5
 infoByte:=by kernel_rfl
 cellsByte:=by kernel_rfl
 sizeByte:=by kernel_rfl
 neB5:=by decide }
open Go.RowKit in
theorem Tryz.strings_Join_none (a:Option Addr) (c:Nat) (sep:ByteArray) (w:World) :
  Calls Tryz.prog 336 #[.slice a 0 c,.string sep] w λe w'=>e=.returned (.string ⟨#[]⟩)/\w'=w:=Any.strings_Join_none Tryz.lays156 Tryz.Builder_Extra_156 a c sep w
open Go.RowKit in
theorem Tryz.strings_Join (bk o c:Nat) (xs:List ByteArray) (sep:ByteArray) (w:World) (hcells:∀(j:Nat) x,xs[j]?=some x->w.cell? ⟨bk,o+j,none⟩=some (.string x)) (hbk:bk<w.heap.size) (hN:xs.length<=140737488355328) (hcap:xs.length<=c) (hlen:(Lib.join (xs.map (·.data.toList)) sep.data.toList).length<=140737488355328) :
  Calls Tryz.prog 336 #[.slice (some ⟨bk,o,none⟩) xs.length c,.string sep] w λe w'=>e=.returned (.string ⟨(Lib.join (xs.map (·.data.toList)) sep.data.toList).toArray⟩)/\Uc w w':=Any.strings_Join Tryz.lays156 Tryz.Builder_Extra_156 bk o c xs sep w hcells hbk hN hcap hlen
def Tryz.lays137_ren:Go.Shelf.Ren:=⟨λ| 137=>301 | 217=>361 | 266=>396 | n=>n,λ| 9=>9 | 5=>5 | 3=>3 | n=>n,λ| n=>n⟩
theorem Tryz.lays137:Go.Proofs.Lays.n137 Tryz.prog Tryz.lays137_ren:={
 mixed:=by kernel_rfl
 f137:=Tryz.func301.trans (congrArg some (by kernel_rfl))
 f217:=Tryz.func361.trans (congrArg some (by kernel_rfl))
 f266:=Tryz.func396.trans (congrArg some (by kernel_rfl))
 t3:=Tryz.underlying3
 a3:=Tryz.isAgg3
 z3:=Tryz.sizeOf3
 v3:=Tryz.zeroValue3
 t5:=Tryz.underlying5
 a5:=Tryz.isAgg5
 z5:=Tryz.sizeOf5
 v5:=Tryz.zeroValue5
 t9:=Tryz.underlying9
 a9:=Tryz.isAgg9
 z9:=Tryz.sizeOf9
 v9:=Tryz.zeroValue9 }
open Go.RowKit in
theorem Tryz.strings_IndexByte (s:ByteArray) (c:Int) (w:World) :
  Calls Tryz.prog 301 #[.string s,.int .u8 c] w λe w'=>e=.returned (Ua (Lib.indexByte s.data.toList c.toNat.toUInt8))/\w'=w:=Any.strings_IndexByte Tryz.lays137 s c w
def Tryz.laysM171_ren:Go.Shelf.Ren:=⟨λ| 171=>189 | 243=>277 | 246=>348 | 283=>389 | 284=>390 | 285=>391 | 286=>392 | 129=>208 | 317=>415 | 318=>416 | 319=>417 | 320=>418 | 337=>432 | 338=>433 | n=>n,λ| 3=>3 | 9=>9 | 2=>2 | 4=>4 | 171=>415 | 0=>0 | 53=>288 | 37=>26 | 5=>5 | 173=>417 | 212=>432 | 51=>286 | 20=>20 | 213=>433 | 46=>54 | 232=>478 | 233=>479 | n=>n,λ| 17=>3 | 18=>4 | 19=>5 | n=>n⟩
theorem Tryz.laysM171:Go.Proofs.LaysM.n171 Tryz.prog Tryz.laysM171_ren:={
 mixed:=by kernel_rfl
 f129:=Tryz.func208.trans (congrArg some (by kernel_rfl))
 f171:=Tryz.func189.trans (congrArg some (by kernel_rfl))
 f243:=Tryz.func277.trans (congrArg some (by kernel_rfl))
 f246:=Tryz.func348.trans (congrArg some (by kernel_rfl))
 f283:=Tryz.func389.trans (congrArg some (by kernel_rfl))
 f284:=Tryz.func390.trans (congrArg some (by kernel_rfl))
 f285:=Tryz.func391.trans (congrArg some (by kernel_rfl))
 f286:=Tryz.func392.trans (congrArg some (by kernel_rfl))
 f317:=Tryz.func415.trans (congrArg some (by kernel_rfl))
 f318:=Tryz.func416.trans (congrArg some (by kernel_rfl))
 f319:=Tryz.func417.trans (congrArg some (by kernel_rfl))
 f320:=Tryz.func418.trans (congrArg some (by kernel_rfl))
 f337:=Tryz.func432.trans (congrArg some (by kernel_rfl))
 f338:=Tryz.func433.trans (congrArg some (by kernel_rfl))
 t0:=Tryz.underlying0
 a0:=Tryz.isAgg0
 z0:=Tryz.sizeOf0
 v0:=Tryz.zeroValue0
 t2:=Tryz.underlying2
 a2:=Tryz.isAgg2
 z2:=Tryz.sizeOf2
 v2:=Tryz.zeroValue2
 t3:=Tryz.underlying3
 a3:=Tryz.isAgg3
 z3:=Tryz.sizeOf3
 v3:=Tryz.zeroValue3
 t4:=Tryz.underlying4
 a4:=Tryz.isAgg4
 z4:=Tryz.sizeOf4
 v4:=Tryz.zeroValue4
 t5:=Tryz.underlying5
 a5:=Tryz.isAgg5
 z5:=Tryz.sizeOf5
 v5:=Tryz.zeroValue5
 t9:=Tryz.underlying9
 a9:=Tryz.isAgg9
 z9:=Tryz.sizeOf9
 v9:=Tryz.zeroValue9
 t20:=Tryz.underlying20
 a20:=Tryz.isAgg20
 z20:=Tryz.sizeOf20
 v20:=Tryz.zeroValue20
 t37:=Tryz.underlying26
 a37:=Tryz.isAgg26
 z37:=Tryz.sizeOf26
 v37:=Tryz.zeroValue26
 t46:=Tryz.underlying54
 a46:=Tryz.isAgg54
 z46:=Tryz.sizeOf54
 v46:=Tryz.zeroValue54
 t51:=Tryz.underlying286
 a51:=Tryz.isAgg286
 z51:=Tryz.sizeOf286
 v51:=Tryz.zeroValue286
 t53:=Tryz.underlying288
 a53:=Tryz.isAgg288
 z53:=Tryz.sizeOf288
 v53:=Tryz.zeroValue288
 t171:=Tryz.underlying415
 a171:=Tryz.isAgg415
 z171:=Tryz.sizeOf415
 v171:=Tryz.zeroValue415
 t173:=Tryz.underlying417
 a173:=Tryz.isAgg417
 z173:=Tryz.sizeOf417
 v173:=Tryz.zeroValue417
 t212:=Tryz.underlying432
 a212:=Tryz.isAgg432
 z212:=Tryz.sizeOf432
 v212:=Tryz.zeroValue432
 t213:=Tryz.underlying433
 a213:=Tryz.isAgg433
 z213:=Tryz.sizeOf433
 t232:=Tryz.underlying478
 a232:=Tryz.isAgg478
 z232:=Tryz.sizeOf478
 v232:=Tryz.zeroValue478
 t233:=Tryz.underlying479
 a233:=Tryz.isAgg479
 z233:=Tryz.sizeOf479
 v233:=Tryz.zeroValue479
 g17:=by kernel_rfl
 g18:=by kernel_rfl
 g19:=by kernel_rfl
 i0:=by kernel_rfl
 i2:=by kernel_rfl
 i3:=by kernel_rfl
 i4:=by kernel_rfl
 i5:=by kernel_rfl
 i9:=by kernel_rfl
 i20:=by kernel_rfl
 i37:=by kernel_rfl
 i46:=by kernel_rfl
 i51:=by kernel_rfl
 i53:=by kernel_rfl
 i171:=by kernel_rfl
 i173:=by kernel_rfl
 i212:=by kernel_rfl
 i232:=by kernel_rfl
 i233:=by kernel_rfl
 m17:=by kernel_rfl
 m18:=by kernel_rfl
 m19:=by kernel_rfl }
open Go.RowKit Go.Sort Go.Lib in
theorem Tryz.strconv_Itoa (n : Int) (h0 : -9223372036854775808 <= n) (h1 : n <= 9223372036854775807) (w : World) (htab : Lib.TabIs Tryz.prog w "internal/strconv.uint64pow10" .u64 Lib.pow10Tab) :
  Calls Tryz.prog 189 #[.int .i64 n] w λe w'=>e=.returned (.string ⟨(Lib.itoa n).toArray⟩)/\∃k os,w'=grow (w.drewN k) os:=Any.strconv_Itoa Tryz.laysM171 n h0 h1 w htab
def Tryz.lays143_ren:Go.Shelf.Ren:=⟨λ| 143=>372 | 219=>401 | 217=>361 | 225=>304 | 224=>303 | 267=>421 | 266=>396 | 314=>434 | n=>n,λ| 9=>9 | 3=>3 | 4=>4 | 5=>5 | 46=>54 | 146=>422 | 51=>286 | n=>n,λ| 1=>2 | n=>n⟩
theorem Tryz.lays143:Go.Proofs.Lays.n143 Tryz.prog Tryz.lays143_ren:={
 mixed:=by kernel_rfl
 f143:=Tryz.func372.trans (congrArg some (by kernel_rfl))
 f217:=Tryz.func361.trans (congrArg some (by kernel_rfl))
 f219:=Tryz.func401.trans (congrArg some (by kernel_rfl))
 f224:=Tryz.func303.trans (congrArg some (by kernel_rfl))
 f225:=Tryz.func304.trans (congrArg some (by kernel_rfl))
 f266:=Tryz.func396.trans (congrArg some (by kernel_rfl))
 f267:=Tryz.func421.trans (congrArg some (by kernel_rfl))
 f314:=Tryz.func434.trans (congrArg some (by kernel_rfl))
 t3:=Tryz.underlying3
 a3:=Tryz.isAgg3
 z3:=Tryz.sizeOf3
 v3:=Tryz.zeroValue3
 t4:=Tryz.underlying4
 a4:=Tryz.isAgg4
 z4:=Tryz.sizeOf4
 v4:=Tryz.zeroValue4
 t5:=Tryz.underlying5
 a5:=Tryz.isAgg5
 z5:=Tryz.sizeOf5
 v5:=Tryz.zeroValue5
 t9:=Tryz.underlying9
 a9:=Tryz.isAgg9
 z9:=Tryz.sizeOf9
 v9:=Tryz.zeroValue9
 t46:=Tryz.underlying54
 a46:=Tryz.isAgg54
 z46:=Tryz.sizeOf54
 v46:=Tryz.zeroValue54
 t51:=Tryz.underlying286
 a51:=Tryz.isAgg286
 z51:=Tryz.sizeOf286
 v51:=Tryz.zeroValue286
 t146:=Tryz.underlying422
 a146:=Tryz.isAgg422
 z146:=Tryz.sizeOf422
 v146:=Tryz.zeroValue422
 g1:=by kernel_rfl }
open Go.RowKit Go.Lib in
theorem Tryz.strings_Index_one (s:ByteArray) (c:UInt8) (w:World) :
  Calls Tryz.prog 372 #[.string s,.string ⟨#[c]⟩] w λe w'=>e=.returned (Ua (Lib.indexByte s.data.toList c))/\w'=w:=Any.strings_Index_one Tryz.lays143 s c w
def Tryz.lays138_ren:Go.Shelf.Ren:=⟨λ| 138=>371 | 195=>399 | 218=>400 | 143=>372 | 219=>401 | 217=>361 | 225=>304 | 224=>303 | 267=>421 | 266=>396 | 314=>434 | n=>n,λ| 9=>9 | 3=>3 | 4=>4 | 5=>5 | 0=>0 | 46=>54 | 146=>422 | 51=>286 | n=>n,λ| 1=>2 | n=>n⟩
theorem Tryz.lays138:Go.Proofs.Lays.n138 Tryz.prog Tryz.lays138_ren:={
 mixed:=by kernel_rfl
 f138:=Tryz.func371.trans (congrArg some (by kernel_rfl))
 f143:=Tryz.func372.trans (congrArg some (by kernel_rfl))
 f195:=Tryz.func399.trans (congrArg some (by kernel_rfl))
 f217:=Tryz.func361.trans (congrArg some (by kernel_rfl))
 f218:=Tryz.func400.trans (congrArg some (by kernel_rfl))
 f219:=Tryz.func401.trans (congrArg some (by kernel_rfl))
 f224:=Tryz.func303.trans (congrArg some (by kernel_rfl))
 f225:=Tryz.func304.trans (congrArg some (by kernel_rfl))
 f266:=Tryz.func396.trans (congrArg some (by kernel_rfl))
 f267:=Tryz.func421.trans (congrArg some (by kernel_rfl))
 f314:=Tryz.func434.trans (congrArg some (by kernel_rfl))
 t0:=Tryz.underlying0
 a0:=Tryz.isAgg0
 z0:=Tryz.sizeOf0
 v0:=Tryz.zeroValue0
 t3:=Tryz.underlying3
 a3:=Tryz.isAgg3
 z3:=Tryz.sizeOf3
 v3:=Tryz.zeroValue3
 t4:=Tryz.underlying4
 a4:=Tryz.isAgg4
 z4:=Tryz.sizeOf4
 v4:=Tryz.zeroValue4
 t5:=Tryz.underlying5
 a5:=Tryz.isAgg5
 z5:=Tryz.sizeOf5
 v5:=Tryz.zeroValue5
 t9:=Tryz.underlying9
 a9:=Tryz.isAgg9
 z9:=Tryz.sizeOf9
 v9:=Tryz.zeroValue9
 t46:=Tryz.underlying54
 a46:=Tryz.isAgg54
 z46:=Tryz.sizeOf54
 v46:=Tryz.zeroValue54
 t51:=Tryz.underlying286
 a51:=Tryz.isAgg286
 z51:=Tryz.sizeOf286
 v51:=Tryz.zeroValue286
 t146:=Tryz.underlying422
 a146:=Tryz.isAgg422
 z146:=Tryz.sizeOf422
 v146:=Tryz.zeroValue422
 g1:=by kernel_rfl }
open Go.RowKit Go.Lib in
theorem Tryz.strings_Count_one (s:ByteArray) (c:UInt8) (w:World) :
  Calls Tryz.prog 371 #[.string s,.string ⟨#[c]⟩] w λe w'=>e=.returned (Ua (Lib.countByte s.data.toList c))/\w'=w:=Any.strings_Count_one Tryz.lays138 s c w
def Tryz.lays187_ren:Go.Shelf.Ren:=⟨λ| 187=>367 | 255=>397 | n=>n,λ| 37=>26 | 5=>5 | 3=>3 | n=>n,λ| n=>n⟩
theorem Tryz.lays187:Go.Proofs.Lays.n187 Tryz.prog Tryz.lays187_ren:={
 mixed:=by kernel_rfl
 f187:=Tryz.func367.trans (congrArg some (by kernel_rfl))
 f255:=Tryz.func397.trans (congrArg some (by kernel_rfl))
 t3:=Tryz.underlying3
 a3:=Tryz.isAgg3
 z3:=Tryz.sizeOf3
 v3:=Tryz.zeroValue3
 t5:=Tryz.underlying5
 a5:=Tryz.isAgg5
 z5:=Tryz.sizeOf5
 v5:=Tryz.zeroValue5
 t37:=Tryz.underlying26
 a37:=Tryz.isAgg26
 z37:=Tryz.sizeOf26
 v37:=Tryz.zeroValue26 }
theorem Tryz.bytes_IndexByte (b o n c:Nat) (xs:List Int) (cv:Int) (w:World) (hx:xs.length=n) (hc:∀i,i<n->w.cell? ⟨b,o+i,none⟩=some (.int .u8 (xs.getD i 0))) :
  Calls Tryz.prog 367 #[.slice (some ⟨b,o,none⟩) n c,.int .u8 cv] w λe w'=>e=.returned (Ua (Lib.indexByte (Lib.bytesOf xs) cv.toNat.toUInt8))/\w'=w:=Any.bytes_IndexByte Tryz.lays187 b o n c xs cv w hx hc
end Go.Proofs
namespace Go.Proofs.YtjhgepnpnapnoaaGreatDoor
open Go.Vc Go.RowKit
set_option maxRecDepth 400000
open Lib (itoa)
theorem Qa (l:List UInt8):(qX l).toList=l:=by rw [ByteArray.toList_eq];rfl
theorem q0p (l:List UInt8):(qX l).data.toList=l:=rfl
theorem zip (s:ByteArray):qX s.data.toList=s:=by simp [qX]
theorem qT (l:List UInt8):(qX l).size=l.length:=by show l.toArray.size=_;simp
theorem jH (a b:List UInt8):qX a++qX b=qX (a++b):=by
 have:(qX a++qX b).data=(qX (a++b)).data:=by rw [ByteArray.data_append];simp [qX]
 calc qX a++qX b=⟨(qX a++qX b).data⟩:=rfl
  _=qX (a++b):=by rw [this]
theorem qxh {w:World} {s:Slc} {bs:List UInt8} (h:Rd qo w s bs):(convert qj zk (.slice s.a s.n s.c)).run PG w=.ok (.string (qX bs)) w:=by
 cases ha:s.a with
 | none =>
  have:bs=[]:=by
   cases bs with
   | nil=>rfl
   | cons x r=>have:=h.some_ (by simp);rw [ha] at this;cases this
  subst this;exact run_convert_bytes_nil w qj qF (by kernel_rfl) (by kernel_rfl) _ _ zk (by kernel_rfl)
 | some a =>
  have g:=h.n;have i:(loadCells a bs.length).run PG w=.ok ((bs.map λb=>Value.int .u8 b.toNat)).toArray w:=by
   have:=run_loadCells_list (P:=PG) w a (bs.map λb=>Value.int .u8 b.toNat) (λj v d=>by
    rw [List.getElem?_map] at d;cases f:bs[j]? with
    | none=>rw [f] at d;cases d
    | some b =>
     rw [f] at d;cases d;have:=h.at_ j b f 0 (.int .u8 b.toNat) rfl;simp only [Slc.at_,ha,add_zero] at this
     rwa [show j*qo.k=j from Nat.mul_one j] at this)
   simpa using this
  have f:=run_bytesToString w a s.n s.c (bs.map λb=>(b.toNat:Int)) (by rw [g,i];simp);rw [run_convert_bytes_string w qj zk qF _ s.n s.c (by kernel_rfl) (by kernel_rfl) (by kernel_rfl),f,foldl_push_bytes];have e:(bs.map λb=>(b.toNat:Int)).map (λn=>UInt8.ofNat n.toNat)=bs:=by
   rw [List.map_map]
   conv=>rhs;rw [<-List.map_id bs]
   refine List.map_congr_left λb _=>?_;simp
  rw [e];simp [qX,ByteArray.empty,ByteArray.emptyWithCapacity];rfl
section
variable {w:World}
theorem kw {s:Slc} {bs:List UInt8} (h:Rd qo w s bs) {K:ByteArray->Ub} (hK:K (qX bs) w):zO PG (convert qj zk (.slice s.a s.n s.c)) Kind.string w K:=⟨_,w,qxh h,hK⟩
theorem qkb {bs:List UInt8} (hl:bs.length<=1000000000) {K:Slc->Ub} (hK:∀q w',Rd qo w' q bs->(∀k,q.blk=some k->w.heap.size<=k)->Uc w w'->q.a.isSome=true->K q w') :
  zO PG (convert zk qj (.string (qX bs))) Kind.slice w K:=by
 have g:=Lib.run_convert_string_bytes (P:=PG) w zk qj qF (qX bs) (u:=.string) (by kernel_rfl) (by kernel_rfl) (by kernel_rfl);have b:=qT bs;refine ⟨⟨some ⟨w.heap.size,0,none⟩,(qX bs).size,grownCap w (qX bs).size 0 qF⟩,_,g,hK _ _ ⟨b,grownCap_ge w _ 0 qF,grownCap_le_maxLen w _ 0 qF (by rw [b];unfold maxLen;omega),λ_=>rfl,λi x f=>?_⟩ (λk c=>by cases c;exact Nat.le_refl _) ⟨rfl,rfl,rfl,by rw [Lib.bytesWorld_size];omega,λk c=>Lib.bytesWorld_at_old w _ _ k c⟩ rfl⟩;have h:=(List.getElem?_eq_some_iff.1 f).1;intro j v d
 match j,d with
 | 0,d =>
  cases d;have:=Lib.bytesWorld_cell w qF (qX bs) i (by rw [b];exact h);rw [q0p] at this;have e:bs.getD i 0=x:=by rw [List.getD_eq_getElem?_getD,f];rfl
  rw [e] at this;show World.cell? _ (((⟨w.heap.size,0,none⟩:Addr).add (i*1)).add 0)=_;rw [Nat.mul_one,qC,Nat.zero_add];exact this
theorem qro {bs:List UInt8} {i:Int} {k:Nat} {b:UInt8} {K:Int->Prop} (hi:i=k) (hb:bs[k]?=some b) (hK:K b.toNat):ixS (qX bs) i K:=by
 subst hi;have a:=(List.getElem?_eq_some_iff.1 hb).1;refine ⟨⟨by omega,by rw [qT];omega⟩,?_⟩;have e:(qX bs).data.getD ((k:Int)).toNat 0=b:=by
  show bs.toArray.getD _ _=_;rw [Int.toNat_natCast,Array.getD_eq_getD_getElem?,List.getElem?_toArray,hb];rfl
 rw [e];exact hK
theorem q57 (bs:List UInt8) (l h:Nat):(qX bs).extract l h=qX ((bs.take h).drop l):=by
 have:((qX bs).extract l h).data=(qX ((bs.take h).drop l)).data:=by
  simp [qX,List.drop_take]
 calc (qX bs).extract l h=⟨((qX bs).extract l h).data⟩:=rfl
  _=_:=by rw [this]
theorem q0b {bs:List UInt8} {lo hi:Option Int} {l h:Nat} {K:ByteArray->Prop} (hlo:lo=none/\l=0\/lo=some (l:Int)) (hhi:hi=none/\h=bs.length\/hi=some (h:Int)) (h1:l<=h) (h2:h<=bs.length)
  (hK:K (qX ((bs.take h).drop l))):slS (qX bs) lo hi K:=by
 have b:K ((qX bs).extract l h):=by rw [q57];exact hK
 have a:bnd lo h 0 λc=>K ((qX bs).extract c h):=by
  rcases hlo with ⟨rfl,rfl⟩ | rfl
  ·exact Zd b
  ·exact yB (by omega) (by omega) (by simpa using b)
 rcases hhi with ⟨rfl,rfl⟩ | rfl
 ·exact a
 ·exact yB (by omega) (by rw [qT];omega) (by simpa using a)
def Tab (w : World) : Prop := Lib.TabIs PG w "internal/strconv.uint64pow10" .u64 Lib.pow10Tab
theorem zj0 {g:Nat} {cs:Array Value} {n:String} (hg:PG.globalNamed n=some g) (h:w.var? PG n=some cs):g<w.heap.size:=by
 unfold World.var? at h;rw [hg] at h;dsimp only [Option.bind_some] at h;rcases Nat.lt_or_ge g w.heap.size with a | hge
 ·exact a
 ·rw [Array.getElem?_eq_none hge] at h;cases h
theorem Tab.ext {w':World} (h:Tab w) (hb:Uc w w'):Tab w' :=
 var?_below (g:=3) hb (by kernel_rfl) (zj0 (by kernel_rfl) h) h
theorem qt2 {n:Int} (h0:-9223372036854775808<=n) (h1:n<=9223372036854775807):(itoa n).length<=20:=by
 have a:∀(m u:Nat),1<=m->u<10^m->(Lib.decDigits u).length<=m:=by
  intro m
  induction m with
  | zero=>intro u h;omega
  | succ m b =>
   intro u _ h;rw [Lib.decDigits];split
   ·simp
   ·have:m≠0:=λe=>by subst e;omega
    have:=b (u/10) (by omega) (by rw [Nat.pow_succ] at h;omega);rw [List.length_append,List.length_singleton];omega
 unfold itoa;split
 ·rw [List.length_cons];have:=a 19 n.natAbs (by omega) (by omega);omega
 ·have:=a 19 n.toNat (by omega) (by omega);omega
theorem quu (hT:Tab w) {n:Int} (h0:-9223372036854775808<=n) (h1:n<=9223372036854775807) {K:ByteArray->Ub} (hK:∀w',Uc w w'->K (qX (itoa n)) w'):yA n w K:=by
 refine Calls.mono (Tryz.strconv_Itoa n h0 h1 w hT) ?_;rintro e w' ⟨rfl,k,a,rfl⟩;refine ⟨_,rfl,hK _ ⟨rfl,rfl,rfl,by show _<=((w.drewN k).heap++a).size;simp,λj b=>?_⟩⟩;show ((w.drewN k).heap++a)[j]?=_;rw [Array.getElem?_append_left (by simpa using b)];rfl
theorem qk0 {bs:List UInt8} {c:UInt8} {i:Int} (hi:i=c.toNat) {K:Int->Ub} (hK:K (Lib.indexByte bs c) w):k6 (qX bs) i w K:=by
 subst hi;refine Calls.mono (Tryz.strings_IndexByte (qX bs) c.toNat w) ?_;rintro e a ⟨rfl,rfl⟩;refine ⟨_,rfl,?_⟩;rw [show ((c.toNat:Int)).toNat.toUInt8=c by simp];exact hK
end
end Go.Proofs.YtjhgepnpnapnoaaGreatDoor
namespace Go.Proofs.YtjhgepnpnapnoaaGreatDoor
open Go.Vc Go.ChangeShapes Go.WideShapes Go.ChangeAt Go.RowKit
set_option maxRecDepth 100000
theorem own:ownKnob Tryz.prog.godebug=none:=by kernel_rfl
theorem zhf:(List.range Tryz.prog.types.size).all (rowFine Tryz.prog)=true:=by kernel_rfl
theorem zjj:Tryz.prog.globals.all (λg=>decide (g.type<Tryz.prog.types.size))=true:=by kernel_rfl
theorem zgx:Tryz.prog.funcs.all (λf=>f.params.all λt=>decide (t<Tryz.prog.types.size))=true:=by kernel_rfl
theorem zlg:laidOutB Tryz.prog=true:=by
 unfold laidOutB;rw [zjj,zgx];rfl
def zm2 (P:Program) (t:TypeId):TypeId:=match P.underlying t with
 | some (.array _ e)=>e
 | _=>0
def q5u : List (String × DataW Unit) := [("math/bits.deBruijn32tab", Rows.laid_math_bits_deBruijn32tab), ("math/bits.deBruijn64tab", Rows.laid_math_bits_deBruijn64tab), ("internal/strconv.uint64pow10", Rows.laid_internal_strconv_uint64pow10), ("unicode/utf8.acceptRanges", Rows.laid_unicode_utf8_acceptRanges), ("unicode/utf8.first", Rows.laid_unicode_utf8_first)]
theorem q63 (os:Os):(World.laidAll Tryz.prog os q5u).Shaped Tryz.prog:=World.shaped_of_ZipB (by kernel_rfl) (by kernel_rfl)
theorem zif (os:Os) (args:Array Value):laidMetH Tryz.prog q5u ((World.laidAll Tryz.prog os q5u).forCall (λ_ _=>0) ⟨#[],args,[]⟩).memory:=by
 exact laidMet_laidAll _ (by kernel_rfl) (by kernel_rfl)
theorem q1g {P:Program} {W:World} {name:String} {k:IntKind} {zs:List Int} {rest:List (String×DataW Unit)} {g:Nat} {t e:TypeId} {n:Nat} {ps:List MemPlace}
  (hg:P.globalNamed name=some g) (hty:(P.globals[g]?).map (·.type)=some t) (ht:P.underlying t=some (.array n e)) (he:P.underlying e=some (.int k)) (hce:P.cellsOf e=1) (hct:P.cellsOf t=n)
  (h:DataW.LaidVars P W ((name,Lib.tabData k zs)::rest) ps):Lib.TabIs P W name k zs:=by
 obtain ⟨i,j,l,d,p,q,b,c,a,f,_,_⟩:=h;obtain rfl:=Option.some.inj (hg.symm.trans b);obtain rfl:=Option.some.inj (hty.symm.trans c);unfold Lib.TabIs;rw [a,<-Lib.cells_of_tab ht he hce hct f]
theorem q2j {P:Program} {W:World} {x:String×DataW Unit} {rest:List (String×DataW Unit)} {ps:List MemPlace} (h:DataW.LaidVars P W (x::rest) ps):∃q,DataW.LaidVars P W rest q:=by
 obtain ⟨_,_,_,_,_,q,_,_,_,_,h,_⟩:=h;exact ⟨q,h⟩
theorem q8i {W:World} (h:laidMetH Tryz.prog q5u W):Tab W:=by
 obtain ⟨a,h,_⟩:=h;obtain ⟨_,h⟩:=q2j h;obtain ⟨_,h⟩:=q2j h;have e:(Rows.laid_internal_strconv_uint64pow10:DataW Unit)=Lib.tabData .u64 Lib.pow10Tab:=by kernel_rfl
 exact q1g (g:=3) (t:=(Tryz.prog.globals[3]?).map (·.type) |>.getD 0) (e:=zm2 Tryz.prog ((Tryz.prog.globals[3]?).map (·.type) |>.getD 0)) (n:=20) (by kernel_rfl) (by kernel_rfl) (by kernel_rfl) (by kernel_rfl) (by kernel_rfl) (by kernel_rfl) h
end Go.Proofs.YtjhgepnpnapnoaaGreatDoor
namespace Go.Proofs.YtjhgepnpnapnoaaGreatDoor
open Go.Vc Go.RowKit
open _root_.List (append_assoc append_nil drop_zero getD_cons_zero length_append length_cons length_drop length_nil length_set mem_cons take_length)
open _root_.Nat (le_refl zero_le)
structure EvP where
 k:Int
 r:Int
 b:Int
 pv:Int
 i:List UInt8
 ps:List Int
 d:List UInt8
structure PS where
 st:Int
 ends:Bool
 priv:Int
 inter:List UInt8
 wrong:Bool
 first:Bool
 params:List Int
 some_:Bool
 last:Int
 data:List UInt8
def ps0:PS:=⟨0,false,0,[],false,true,[],false,0,[]⟩
def evK (k b:Int):EvP:=⟨k,0,b,0,[],[],[]⟩
def q8g (r:Int):EvP:=⟨1,r,0,0,[],[],[]⟩
def xH (k:Int) (d:List UInt8):EvP:=⟨k,0,0,0,[],[],d⟩
def qyo (c:Int):Bool:=decide (c<32) && (c !=24 && (c !=26 && c !=27))
def JD (c:Int):Bool:=c==24 || (c==26 || (c==27 || c==127))
namespace PS
def begin_ (p:PS) (s:Int):PS:={ p with st:=s,priv:=0,wrong:=false,first:=true,some_:=false,last:=0,inter:=[],params:=[] }
def close (p:PS) (b:Int):List EvP:=if p.st=5 then [evK 8 b] else if p.st=6 then [evK 11 b] else []
def ground (p:PS) (c:Int):PS×List EvP:=(p,if qyo c then [evK 2 c] else if c=127 then [] else [q8g c])
def keep (p:PS) (c:Int):PS:=if p.inter.length=2 then { p with wrong:=true } else { p with inter:=p.inter++[UInt8.ofNat c.toNat] }
def opens (p:PS) (c:Int):Option (PS×List EvP) :=
 if c=91 then some (p.begin_ 2,[])
 else if c=80 then some (p.begin_ 3,[])
 else if c=93 then some ({ p with st:=4,data:=[] },[])
 else if c=95 then some ({ p with st:=6 },[evK 9 0])
 else if c=88\/c=94 then some ({ p with st:=7 },[])
 else none
def escEnd (p:PS) (c:Int):PS×List EvP:=({ p with st:=0 },if p.wrong then [] else [⟨3,0,c,0,p.inter,[],[]⟩])
def escape (p:PS) (c:Int):PS×List EvP :=
 if qyo c then (p,[evK 2 c])
 else if c<=47 then (p.keep c,[])
 else if c=127 then (p,[])
 else if p.inter≠[] then p.escEnd c
 else (p.opens c).getD (p.escEnd c)
def next (p:PS):PS:={ p with params:=if p.params.length<16 then p.params++[p.last] else p.params,last:=0 }
def final (p:PS) (c:Int):PS×List EvP :=
 let p1:PS:={ p with st:=if p.st≠3 then 0 else if p.wrong then 7 else 5 }
 if p.wrong then (p1,[])
 else
  let p2:=if p.some_ then p1.next else p1
  (p2,[⟨if p.st=3 then 6 else 4,0,c,p.priv,p.inter,p2.params,[]⟩])
def head (p0:PS) (c:Int):PS×List EvP :=
 let p:PS:={ p0 with first:=p0.first && (qyo c || c==127) }
 if qyo c then (p,if p.st=2 then [evK 2 c] else [])
 else if c<=47 then (p.keep c,[])
 else if c=127 then (p,[])
 else if c<=57 then ({ p with wrong:=p.wrong || decide (p.inter≠[]),some_:=true,last:=if 65535<10*p.last+(c-48) then 65535 else 10*p.last+(c-48) },[])
 else if c=59 then (({ p with wrong:=p.wrong || decide (p.inter≠[]),some_:=true }:PS).next,[])
 else if 60<=c/\c<=63/\p0.first=true then ({ p with priv:=c },[])
 else if c<=63 then ({ p with wrong:=true },[])
 else p.final c
def text (p:PS) (c:Int):PS×List EvP :=
 if c=7 then ({ p with st:=0 },[xH 5 p.data])
 else if 32<=c/\c≠127/\p.data.length<1024 then ({ p with data:=p.data++[UInt8.ofNat c.toNat] },[])
 else (p,[])
def plain (p:PS) (c:Int):PS×List EvP :=
 if p.st=1 then p.escape c else if p.st=2\/p.st=3 then p.head c else if p.st=4 then p.text c else if p.st=5\/p.st=6\/p.st=7 then (p,[]) else p.ground c
def ended (p0:PS) (c:Int):PS×List EvP :=
 let p:PS:={ p0 with ends:=false }
 if c=92 then ({ p with st:=0 },(if p.st=4 then [xH 5 p.data] else [])++p.close 1)
 else
  let p1:=p.begin_ 1
  if c=27 then (p1,p.close 0)
  else if c=24\/c=26 then ({ p1 with st:=0 },p.close 0++[evK 2 c])
  else ((p1.escape c).1,p.close 0++(p1.escape c).2)
def step (p:PS) (c:Int):PS×List EvP :=
 if p.ends then p.ended c
 else if c≠24/\c≠26/\c≠27 then p.plain c
 else if c≠27 then ({ p with st:=0 },p.close 0++[evK 2 c])
 else if p.st>=4 then ({ p with ends:=true },[])
 else (p.begin_ 1,[])
def runN (p:PS) (bs:List UInt8):Nat:=if p.ends=true\/p.st≠5/\p.st≠6 then 0 else (bs.takeWhile λb=>!JD b.toNat).length
def ze5:Nat->PS->List UInt8->PS×List EvP
 | 0,p,_=>(p,[])
 | _,p,[]=>(p,[])
 | f+1,p,b::bs =>
  if 0<p.runN (b::bs) then
   let r:=ze5 f p ((b::bs).drop (p.runN (b::bs)))
   (r.1,xH (if p.st=6 then 10 else 7) ((b::bs).take (p.runN (b::bs)))::r.2)
  else
   let s:=p.step b.toNat
   let r:=ze5 f s.1 bs
   (r.1,s.2++r.2)
def eachB (p:PS) (bs:List UInt8):PS×List EvP:=ze5 bs.length p bs
end PS
set_option maxRecDepth 400000
structure PF where
 pg:Nat
 cg:Nat
 qi:Slc
 qp:Slc
 qd:Slc
def za6 (F:PF) (p:PS) (fv:Value):List Value:=[.int .i64 p.st,.bool p.ends,.pointer (some ⟨F.cg,0,none⟩),.int .u8 p.priv,.slice F.qi.a F.qi.n F.qi.c,.bool p.wrong,.bool p.first,.slice F.qp.a F.qp.n F.qp.c,.bool p.some_,.int .i64 p.last,.slice F.qd.a F.qd.n F.qd.c,fv]
def yl (F:PF) (k:Nat):Prop:=k=F.pg\/k=F.cg\/F.qi.blk=some k\/F.qp.blk=some k\/F.qd.blk=some k
structure PsOk (p:PS):Prop where
 il:p.inter.length<=2
 pl:p.params.length<=16
 dl:p.data.length<=1024
 la:0<=p.last/\p.last<=65535
 pv:0<=p.priv/\p.priv<=255
 pr:∀x∈p.params,0<=x/\x<=65535
structure ParsM (w:World) (base:Nat) (F:PF) (p:PS) (fv:Value):Prop where
 blk:Blk w F.pg Jx (za6 F p fv)
 ch:∃r lo hi,Blk w F.cg qdf [.int .i32 r,.int .i64 0,.int .u8 lo,.int .u8 hi]
 hg:base<=F.pg/\base<=F.cg
 qi:Go.Vc.Own qo w base F.qi p.inter
 qp:Go.Vc.Own jr w base F.qp p.params
 qd:Go.Vc.Own qo w base F.qd p.data
 ne:∀k,F.qi.blk=some k->F.qd.blk≠some k
 ok:PsOk p
def far (T:Nat->Prop) (w:World):Prop:=∀k cs,T k->¬Blk w k zi cs
structure Hnd (σ:Type) where
 M:World->(Nat->Prop)->σ->Prop
 R:σ->EvP->σ->Prop
 ok:σ->EvP->Prop
structure EvW (w:World) (S:Nat->Prop) (p d:Slc) (v:EvP):Prop where
 ps:Rd jr w p v.ps
 pf:∀a,p.a=some a->¬S a.block/\a.block<w.heap.size
 ds:Rd qo w d v.d
 df:∀a,d.a=some a->¬S a.block/\a.block<w.heap.size
 rng:∀x∈v.ps,0<=x/\x<=65535
 pl:v.ps.length<=16
 b:0<=v.b/\v.b<=255
 pv:0<=v.pv/\v.pv<=255
 il:v.i.length<=2
 dl:v.d.length<=1000000
def agE (v:EvP) (p d:Slc):Value:=.agg #[.int .i64 v.k,.int .i32 v.r,.int .u8 v.b,.int .u8 v.pv,.string (qX v.i),.slice p.a p.n p.c,.slice d.a d.n d.c]
structure HndOk {σ:Type} (H:Hnd σ) (base:Nat) (fv:Value):Prop where
 keep:∀{w w' S s T},H.M w S s->Chg T w w'->(∀k,S k->¬T k)->far T w->(∀k,T k->base<=k)->H.M w' S s
 lt:∀{w S s},H.M w S s->∀k,S k->base<=k/\k<w.heap.size
 call:∀{w S s v p d} {K:Ub},H.M w S s->H.ok s v->EvW w S p d v->(∀w' S' s',H.M w' S' s'->H.R s v s'->Chg S w w'->(∀k,S' k->S k\/w.heap.size<=k)->K w')->j7 C fv [agE v p d] [] w K
def yn {σ:Type} (H:Hnd σ):σ->List EvP->σ->Prop
 | s,[],s'=>s'=s
 | s,e::es,s'=>∃m,H.R s e m/\yn H m es s'
def zQ {σ:Type} (H:Hnd σ):σ->List EvP->Prop
 | _,[]=>True
 | s,e::es=>H.ok s e/\∀m,H.R s e m->zQ H m es
theorem yn.append {σ:Type} {H:Hnd σ}:∀{a b:List EvP} {s m s':σ},yn H s a m->yn H m b s'->yn H s (a++b) s'
 | [],b,s,m,s',h,h2=>by cases h;exact h2
 | e::a,b,s,m,s',⟨x,h1,h⟩,h2=>⟨x,h1,yn.append h h2⟩
theorem yn.split {σ:Type} {H:Hnd σ}:∀{a b:List EvP} {s s':σ},yn H s (a++b) s'->∃m,yn H s a m/\yn H m b s'
 | [],b,s,s',h=>⟨s,rfl,h⟩
 | e::a,b,s,s',⟨x,h1,h⟩=>by
  obtain ⟨m,c,d⟩:=yn.split h;exact ⟨m,⟨x,h1,c⟩,d⟩
theorem zQ.left {σ:Type} {H:Hnd σ}:∀{a b:List EvP} {s:σ},zQ H s (a++b)->zQ H s a
 | [],b,s,h=>trivial
 | e::a,b,s,h=>⟨h.1,λm c=>zQ.left (h.2 m c)⟩
theorem zQ.right {σ:Type} {H:Hnd σ}:∀{a b:List EvP} {s m:σ},zQ H s (a++b)->yn H s a m->zQ H m b
 | [],b,s,m,h,hr=>by cases hr;exact h
 | e::a,b,s,m,h,⟨x,h1,hr⟩=>zQ.right (h.2 x h1) hr
section
variable {w w':World} {base:Nat} {F F':PF} {p p':PS} {fv:Value}
theorem ParsM.below (h:ParsM w base F p fv):∀k,yl F k->base<=k/\k<w.heap.size:=by
 obtain ⟨r,b,c,a⟩:=h.ch;rintro k (rfl | rfl | hk | hk | hk)
 ·exact ⟨h.hg.1,h.blk.lt⟩
 ·exact ⟨h.hg.2,a.lt⟩
 ·exact h.qi.lt k hk
 ·exact h.qp.lt k hk
 ·exact h.qd.lt k hk
theorem ParsM.chg {T:Nat->Prop} (h:ParsM w base F p fv) (hc:Chg T w w') (hT:∀k,yl F k->¬T k):ParsM w' base F p fv:=by
 obtain ⟨r,c,d,b⟩:=h.ch;exact ⟨h.blk.chg hc (hT _ (.inl rfl)),⟨r,c,d,b.chg hc (hT _ (.inr (.inl rfl)))⟩,h.hg,h.qi.chg hc λk a=>hT k (.inr (.inr (.inl a))),h.qp.chg hc λk a=>hT k (.inr (.inr (.inr (.inl a)))),h.qd.chg hc λk a=>hT k (.inr (.inr (.inr (.inr a)))),h.ne,h.ok⟩
theorem ParsM.ext (h:ParsM w base F p fv) (hB:Uc w w'):ParsM w' base F p fv:=h.chg (Chg.of_ext hB) λ_ _ h=>h
theorem ParsM.far (h:ParsM w base F p fv):far (yl F) w:=by
 obtain ⟨r,d,e,b⟩:=h.ch;rintro k f (rfl | rfl | hk | hk | hk) hb
 ·exact h.blk.ne_t hb (by decide) rfl
 ·exact b.ne_t hb (by decide) rfl
 ·obtain ⟨c,a⟩:=h.qi.blk_t hk;exact a.ne_t hb (by decide) rfl
 ·obtain ⟨c,a⟩:=h.qp.blk_t hk;exact a.ne_t hb (by decide) rfl
 ·obtain ⟨c,a⟩:=h.qd.blk_t hk;exact a.ne_t hb (by decide) rfl
theorem ParsM.ne_pg (h:ParsM w base F p fv):∀k,(k=F.cg\/F.qi.blk=some k\/F.qp.blk=some k\/F.qd.blk=some k)->k≠F.pg:=by
 obtain ⟨r,b,c,a⟩:=h.ch;rintro k (rfl | hk | hk | hk)
 ·exact a.ne_t h.blk (by decide)
 ·exact qI h.qi h.blk (by decide) k hk
 ·exact qI h.qp h.blk (by decide) k hk
 ·exact qI h.qd h.blk (by decide) k hk
theorem ParsM.put (h:ParsM w base F p fv) (hb:Blk w' F.pg Jx (za6 F' p' fv)) (hc:Chg (λk=>k=F.pg) w w') (e1:F'.pg=F.pg) (e2:F'.cg=F.cg)
  (qi:Go.Vc.Own qo w base F'.qi p'.inter) (qp:Go.Vc.Own jr w base F'.qp p'.params) (qd:Go.Vc.Own qo w base F'.qd p'.data) (ne:∀k,F'.qi.blk=some k->F'.qd.blk≠some k) (ok:PsOk p'):ParsM w' base F' p' fv:=by
 obtain ⟨r,b,c,a⟩:=h.ch;refine ⟨by rw [e1];exact hb,⟨r,b,c,?_⟩,by rw [e1,e2];exact h.hg,qi.chg hc (qI qi h.blk (by decide)),qp.chg hc (qI qp h.blk (by decide)),qd.chg hc (qI qd h.blk (by decide)),ne,ok⟩;rw [e2];exact a.chg hc (h.ne_pg _ (.inl rfl))
end
section
variable {σ:Type} {H:Hnd σ} {w w':World} {base:Nat} {F F':PF} {p p':PS} {fv:Value} {S S':Nat->Prop} {s s':σ}
structure PH (H:Hnd σ) (w:World) (base:Nat) (F:PF) (p:PS) (fv:Value) (S:Nat->Prop) (s:σ):Prop where
 par:ParsM w base F p fv
 m:H.M w S s
 dj:∀k,yl F k->¬S k
structure PhT (H:Hnd σ) (base:Nat) (w:World) (F:PF) (S:Nat->Prop) (F':PF) (S':Nat->Prop) (p':PS) (fv:Value) (s':σ) (w':World):Prop where
 m:PH H w' base F' p' fv S' s'
 old:∀k,(yl F' k\/S' k)->(yl F k\/S k)\/w.heap.size<=k
 chg:Chg (λk=>yl F k\/S k) w w'
 pg:F'.pg=F.pg
theorem PhT.refl (h:PH H w base F p fv S s):PhT H base w F S F S p fv s w:=⟨h,λk a=>.inl a,Chg.refl _ _,rfl⟩
theorem PhT.trans {w1 w2:World} {F1 F2:PF} {S1 S2:Nat->Prop} {p1 p2:PS} {s1 s2:σ} (h:PhT H base w F S F1 S1 p1 fv s1 w1) (h2:PhT H base w1 F1 S1 F2 S2 p2 fv s2 w2):PhT H base w F S F2 S2 p2 fv s2 w2:=by
 have c:=h.chg.size;refine ⟨h2.m,λk b=>?_,h.chg.trans h2.chg λi d b=>?_,h2.pg.trans h.pg⟩
 ·rcases h2.old k b with a | a
  ·exact h.old k a
  ·omega
 ·rcases h.old i b with a | a
  ·exact a
  ·omega
theorem PH.ext (hH:HndOk H base fv) (h:PH H w base F p fv S s) (hB:Uc w w'):PhT H base w F S F S p fv s w' :=
 ⟨⟨h.par.ext hB,hH.keep h.m (Chg.of_ext hB) (λ_ _ h=>h) (λ_ _ h=>h.elim) (λ_ h=>h.elim),h.dj⟩,λk a=>.inl a,Chg.of_ext hB,rfl⟩
theorem PH.drew (hH:HndOk H base fv) (h:PH H w base F p fv S s):PhT H base w F S F S p fv s w.drew:=h.ext hH ((Below.refl _ w).drew)
theorem PH.base_le (h:PH H w base F p fv S s):base<=w.heap.size:=Nat.le_trans h.par.hg.1 (Nat.le_of_lt h.par.blk.lt)
theorem PH.own (hH:HndOk H base fv) (h:PH H w base F p fv S s) (hp:ParsM w' base F' p' fv) (hc:Chg (yl F) w w') (ho:∀k,yl F' k->yl F k\/w.heap.size<=k) (e:F'.pg=F.pg):PhT H base w F S F' S p' fv s w':=by
 refine ⟨⟨hp,hH.keep h.m hc (λk a hp=>h.dj k hp a) h.par.far (λk a=>(h.par.below k a).1),λk a c=>?_⟩,λk a=>?_,hc.mono λk _ a=>.inl a,e⟩
 ·rcases ho k a with b | b
  ·exact h.dj k b c
  ·have:=(hH.lt h.m k c).2;omega
 ·rcases a with a | a
  ·rcases ho k a with b | b
   ·exact .inl (.inl b)
   ·exact .inr b
  ·exact .inl (.inr a)
theorem PH.put (hH:HndOk H base fv) (h:PH H w base F p fv S s) (hb:Blk w' F.pg Jx (za6 F' p' fv)) (hc:Chg (λk=>k=F.pg) w w') (e1:F'.pg=F.pg) (e2:F'.cg=F.cg)
  (qi:Go.Vc.Own qo w base F'.qi p'.inter) (qp:Go.Vc.Own jr w base F'.qp p'.params) (qd:Go.Vc.Own qo w base F'.qd p'.data) (bi:∀k,F'.qi.blk=some k->F.qi.blk=some k) (bp:∀k,F'.qp.blk=some k->F.qp.blk=some k) (bd:∀k,F'.qd.blk=some k->F.qd.blk=some k) (ok:PsOk p'):PhT H base w F S F' S p' fv s w':=by
 refine h.own hH (h.par.put hb hc e1 e2 qi qp qd (λk a b=>h.par.ne k (bi k a) (bd k b)) ok) (hc.mono λk _ e=>.inl e) ?_ e1;rintro k (a | a | a | a | a)
 ·exact .inl (.inl (a.trans e1))
 ·exact .inl (.inr (.inl (a.trans e2)))
 ·exact .inl (.inr (.inr (.inl (bi k a))))
 ·exact .inl (.inr (.inr (.inr (.inl (bp k a)))))
 ·exact .inl (.inr (.inr (.inr (.inr (bd k a)))))
theorem PH.st (hH:HndOk H base fv) (h:PH H w base F p fv S s) {i:Nat} {v:Value} (p':PS) (hi:i<12) (he:(za6 F p fv).set i v=za6 F p' fv) (ei:p'.inter=p.inter) (ep:p'.params=p.params) (ed:p'.data=p.data) (ok:PsOk p') {K:Ub}
  (hK:∀w',PhT H base w F S F S p' fv s w'->K w'):stK ((⟨F.pg,0,none⟩:Addr).add i) [v] w K:=by
 rw [qC];refine qD h.par.blk (by show 0+i+1<=12;omega) λb a c d=>hK b ?_;have e:putL (za6 F p fv) (0+i) [v]=za6 F p' fv:=by rw [Nat.zero_add,<-he];rfl
 rw [e] at a;exact h.put hH a (Go.Vc.Chg.gg c) rfl rfl (by rw [ei];exact h.par.qi) (by rw [ep];exact h.par.qp) (by rw [ed];exact h.par.qd) (λ_ h=>h) (λ_ h=>h) (λ_ h=>h) ok
theorem qo6 {a:Addr} {w:World} {K:Value->Prop} {x:Value} (h:w.cell? a=some x) (hK:K x):ldR a w K:=⟨x,h,hK⟩
theorem qne (hH:HndOk H base fv) (h:PH H w base F p fv S s) {v:EvP} {q d:Slc} (hok:H.ok s v) (hv:EvW w S q d v) {K:Ub} (hK:∀S' s' w',PhT H base w F S F S' p fv s' w'->H.R s v s'->K w'):j7 C fv [agE v q d] [] w K :=
 hH.call h.m hok hv λw' S' s' e f b c=>hK S' s' w' ⟨⟨h.par.chg b (λk a=>h.dj k a),e,λk a g=>(c k g).elim (h.dj k a) λi=>by have:=(h.par.below k a).2;omega⟩,
  λk a=>a.elim (λa=>.inl (.inl a)) λa=>(c k a).elim (λj=>.inl (.inr j)) .inr,b.mono λk _ a=>.inr a,rfl⟩ f
theorem zos {w:World} {S:Nat->Prop} {v:EvP} (e1:v.ps=[]) (e2:v.d=[]) (hb:0<=v.b/\v.b<=255) (hp:0<=v.pv/\v.pv<=255) (hi:v.i.length<=2):EvW w S ⟨none,0,0⟩ ⟨none,0,0⟩ v :=
 ⟨by rw [e1];exact Rd.nil _ _,(λa h=>by cases h),by rw [e2];exact Rd.nil _ _,(λa h=>by cases h),(by rw [e1];intro x c;cases c),by rw [e1];exact zero_le _,hb,hp,hi,by rw [e2];exact zero_le _⟩
theorem quj (hH:HndOk H base fv) (h:PH H w base F p fv S s) (k r b:Int) (hb:0<=b/\b<=255) (hok:H.ok s ⟨k,r,b,0,[],[],[]⟩) {K:Ub} (hK:∀S' s' w',PhT H base w F S F S' p fv s' w'->H.R s ⟨k,r,b,0,[],[],[]⟩ s'->K w') :
  ldR ((⟨F.pg,0,none⟩:Addr).add 11) w λt=>j7 C t [(.agg #[(Ua k),(.int .i32 r),(.int .u8 b),(.int .u8 0),(.string (⟨#[]⟩:ByteArray)),(.slice none 0 0),(.slice none 0 0)])] [] w K :=
 qo6 (h.par.blk.cells 11 _ rfl) (qne hH h hok (zos rfl rfl hb ⟨Int.le_refl 0,by show (0:Int)<=255;omega⟩ (zero_le _)) hK)
end
theorem qmw {T:Type} {E:El T} {w:World} {base:Nat} {q:Slc} {xs:List T} (h:Go.Vc.Own E w base q xs):∃r:Slc,(⟨cut q.a 0 q.c E.k,0-0,q.c-0⟩:Slc)=r/\Go.Vc.Own E w base r []/\∀k,r.blk=some k->q.blk=some k:=by
 rcases h.form with ⟨rfl,rfl⟩ | ⟨g,cur,d,e,f,l,i,j,m⟩
 ·exact ⟨⟨none,0,0⟩,rfl,Go.Vc.Own.nil _ _ _,λk b=>b⟩
 ·refine ⟨⟨some ⟨g,0,none⟩,0,q.c⟩,?_,Go.Vc.Own.of_blk e f (zero_le _) i j (by simp [Qg]),λk b=>by rw [d];exact b⟩;rw [d];unfold cut;split
  ·rfl
  ·show (⟨some ((⟨g,0,none⟩:Addr).add (0*E.k)),0,_⟩:Slc)=_;simp
theorem qv6 {s:Slc} {xs:List Int} {w:World} {K:Slc->Ub} (h:Rd jr w s xs) (hl:xs.length<=100000) (hK:∀r w',Go.Vc.Own jr w' w.heap.size r xs->Uc w w'->K r w'):kI s w K:=by
 refine qd2 _ ?_;cases ha:s.a with
 | none =>
  have:=h.none_nil ha;subst this;exact cT rfl (hK _ _ (Go.Vc.Own.nil _ _ _) (Below.refl _ _))
 | some a =>
  refine cF rfl ?_;refine nwb λj c b f=>?_;refine jW qb1 (qb3 c (le_refl _)) (h.ext b) (by omega) (by rw [qhb];simp;omega) (by simp only [maxLen];simp;omega) λr i e d k=>?_;exact hK r i e (b.grown d (by omega) λg d=>by cases d;exact le_refl _)
section
variable {σ:Type} {H:Hnd σ} {w w':World} {base:Nat} {F F':PF} {p p':PS} {fv:Value} {S S':Nat->Prop} {s s':σ} {c:Int}
theorem XO {K:Bool->Ub} (hK:K (qyo c) w):kq c w K:=by
 refine qnq _ ?_;unfold qyo at hK;refine cO (λe=>?_) λe=>?_
 ·rw [e] at hK;refine cO (λa=>?_) λa=>?_
  ·rw [a] at hK;refine cO (λb=>?_) λb=>?_
   ·rw [b] at hK;exact hK
   ·rw [b] at hK;exact hK
  ·rw [a] at hK;exact hK
 ·rw [e] at hK;exact hK
theorem PH.chars (hH:HndOk H base fv) (h:PH H w base F p fv S s) {r lo hi:Int} (hb:Blk w' F.cg qdf [.int .i32 r,.int .i64 0,.int .u8 lo,.int .u8 hi]) (hc:Chg (λk=>k=F.cg) w w'):PhT H base w F S F S p fv s w':=by
 have a:=h.par;obtain ⟨d,f,g,b⟩:=a.ch;refine h.own hH ⟨a.blk.chg hc (λe=>a.ne_pg F.cg (.inl rfl) e.symm),⟨r,lo,hi,hb⟩,a.hg,a.qi.chg hc (qI a.qi b (by decide)),a.qp.chg hc (qI a.qp b (by decide)),a.qd.chg hc (qI a.qd b (by decide)),a.ne,a.ok⟩ (hc.mono λk _ e=>.inr (.inl e)) (λk c=>.inl c) rfl
theorem PH.ldCh (h:PH H w base F p fv S s) {K:Option Addr->Prop} (hK:K (some ⟨F.cg,0,none⟩)):ldP ((⟨F.pg,0,none⟩:Addr).add 2) w K:=qS (h.par.blk.cells 2 _ rfl) hK
theorem qsd (hH:HndOk H base fv) (h:PH H w base F p fv S s) {K:Slc->Ub} (hK:∀w',PhT H base w F S F S p fv s w'->K ⟨none,0,0⟩ w'):vY (some ⟨F.cg,0,none⟩) w K:=by
 refine qn5 _ ?_;obtain ⟨e,f,g,a⟩:=h.par.ch;refine qkh _ ?_;simp only [onPtr_some];refine lI (a.cells 1 _ rfl) ?_;refine qD a (by show 0+4<=4;omega) λb c d i=>cF rfl (hK b ?_);exact h.chars hH c (Go.Vc.Chg.gg d)
theorem q9s (hH:HndOk H base fv) (h:PH H w base F p fv S s) (hc:0<=c/\c<128) {K:Slc->Ub} (hK:∀q w',Rd q4y w' q [c]->(∀a,q.a=some a->¬S a.block/\¬yl F a.block/\a.block<w'.heap.size)->PhT H base w F S F S p fv s w'->K q w'):XI (some ⟨F.cg,0,none⟩) c w K:=by
 refine qnf _ _ ?_;obtain ⟨v,y,z,d⟩:=h.par.ch;refine lI (d.cells 1 _ rfl) (cT rfl ?_);refine qi5 _ _ ?_;simp only [onPtr_some];refine qD d (by show 0+4<=4;omega) λA j k f=>?_;have g:=h.chars hH j (Go.Vc.Chg.gg k);refine jpO λB l=>cT (dTq hc.2) ?_;refine nwb λn b i o=>?_;have e:i32.wrap c=c:=by
  obtain ⟨m,t⟩:∃m:Nat,c=m:=⟨c.toNat,by omega⟩;rw [t];exact xN .i32 (by show _<2^31;omega)
 rw [e] at b;refine hK _ n (y9 b rfl) (λa u=>?_) (g.trans (g.m.ext hH i));cases u;exact ⟨λf=>by have:=(hH.lt g.m.m _ f).2;exact Nat.lt_irrefl _ this,λf=>by have:=(g.m.par.below _ f).2;exact Nat.lt_irrefl _ this,b.lt⟩
theorem qrv {K:Ub} (hK:K w):jG (some ⟨F.pg,0,none⟩) ⟨none,0,0⟩ w K:=by
 refine Xg _ _ ?_;refine lpR (λ(a:Int×Unit) w2=>a.1=0/\w2=w) (λ_=>0) ⟨rfl,rfl⟩ ?_;rintro ⟨i,u⟩ w2 ⟨rfl,rfl⟩ I hI;exact cF rfl hK
theorem zen (hH:HndOk H base fv) (h:PH H w base F p fv S s) {q:Slc} (hq:Rd q4y w q [c]) (hok:H.ok s (q8g c)) {K:Ub} (hK:∀S' s' w',PhT H base w F S F S' p fv s' w'->H.R s (q8g c) s'->K w'):jG (some ⟨F.pg,0,none⟩) q w K:=by
 refine Xg _ _ ?_;have d:=hq.n;refine lpR (λ(a:Int×Unit) w2=>(a.1=0/\w2=w)\/(a.1=1/\∃S' s',PhT H base w F S F S' p fv s' w2/\H.R s (q8g c) s')) (λa=>1-a.1.toNat) (.inl ⟨rfl,rfl⟩) ?_;rintro ⟨i,u⟩ w2 (⟨rfl,rfl⟩ | ⟨rfl,e,f,g,b⟩) I hI
 ·refine cT (by rw [d];rfl) ?_;refine hq.ix (i:=0) rfl (by decide) (by simp) λj=>lI (by simpa using j 0 _ rfl) ?_;refine quj hH h 1 c 0 (by omega) hok λS' s' w' k l=>hI _ _ (.inr ⟨by show i64.wrap (0+1)=1;decide,S',s',k,l⟩) (by show 1-(i64.wrap (0+1)).toNat<1-(0:Int).toNat;decide)
 ·exact cF (by rw [d];rfl) (hK e f w2 g b)
theorem zhl (h:PsOk p) (x:Int):PsOk (p.begin_ x):=⟨zero_le _,zero_le _,h.dl,⟨Int.le_refl 0,by show (0:Int)<=65535;omega⟩,⟨Int.le_refl 0,by show (0:Int)<=255;omega⟩,λy a=>by cases a⟩
theorem qbt (hH:HndOk H base fv) (h:PH H w base F p fv S s) (x:Int) {K:Ub} (hK:∀F' w',PhT H base w F S F' S (p.begin_ x) fv s w'->K w'):xi (some ⟨F.pg,0,none⟩) x w K:=by
 refine qha _ _ ?_;simp only [onPtr_some];have a:=h.par.ok;have u:(0:Int)<=0/\(0:Int)<=65535:=by omega
 have d:(0:Int)<=0/\(0:Int)<=255:=by omega
 refine h.st hH { p with st:=x } (by decide) rfl rfl rfl rfl ⟨a.il,a.pl,a.dl,a.la,a.pv,a.pr⟩ λO n=>?_;refine n.m.st hH { p with st:=x,priv:=0 } (by decide) rfl rfl rfl rfl ⟨a.il,a.pl,a.dl,a.la,d,a.pr⟩ λP o=>?_;refine o.m.st hH { p with st:=x,priv:=0,wrong:=false } (by decide) rfl rfl rfl rfl ⟨a.il,a.pl,a.dl,a.la,d,a.pr⟩ λQ q=>?_;refine q.m.st hH { p with st:=x,priv:=0,wrong:=false,first:=true } (by decide) rfl rfl rfl rfl ⟨a.il,a.pl,a.dl,a.la,d,a.pr⟩ λw4 r=>?_;refine r.m.st hH { p with st:=x,priv:=0,wrong:=false,first:=true,some_:=false } (by decide) rfl rfl rfl rfl ⟨a.il,a.pl,a.dl,a.la,d,a.pr⟩ λR t=>?_;refine t.m.st hH { p with st:=x,priv:=0,wrong:=false,first:=true,some_:=false,last:=0 } (by decide) rfl rfl rfl rfl ⟨a.il,a.pl,a.dl,u,d,a.pr⟩ λv y=>?_;have e:=((((n.trans o).trans q).trans r).trans t).trans y;have b:=e.trans (e.m.drew hH);have c:=b.m.par;refine lSl (c.blk.cells 4 _ rfl) ?_;refine c.qi.rd.slK rfl (.inl ⟨rfl,rfl⟩) (.inr rfl) (le_refl _) (zero_le _) λ_=>?_;refine lSl (c.blk.cells 7 _ rfl) ?_;refine c.qp.rd.slK rfl (.inl ⟨rfl,rfl⟩) (.inr rfl) (le_refl _) (zero_le _) λ_=>?_;obtain ⟨z,A,B,C⟩:=qmw c.qi;obtain ⟨D,E,G,I⟩:=qmw c.qp;rw [A,E];refine qD c.blk (by show 0+4+1<=12;omega) λw8 f g J=>?_;refine qD f (by show 0+7+1<=(putL _ _ _).length;rw [vL];show 8<=12;omega) λL j k M=>?_;refine hK { F with qi:=z,qp:=D } L (b.trans (b.m.put hH j ((Go.Vc.Chg.gg g).trans (Go.Vc.Chg.gg k) λi _ N=>N) rfl rfl B G c.qd C I (λ_ h=>h) (zhl a x)))
theorem qkn (hH:HndOk H base fv) (h:PH H w base F p fv S s) {b:Int} (hb:0<=b/\b<=255) (hok:zQ H s (p.close b)) {K:Ub} (hK:∀S' s' w',PhT H base w F S F S' p fv s' w'->yn H s (p.close b) s'->K w'):ke (some ⟨F.pg,0,none⟩) b w K:=by
 refine qhq _ _ ?_;unfold PS.close at hok hK;refine lI (h.par.blk.cells 0 _ rfl) ?_;refine cO (λe=>?_) λe=>?_
 ·have e:=eq_of_beq e;rw [if_pos e] at hok hK;exact quj hH h 8 0 b hb hok.1 λS' s' w' a c=>hK S' s' w' a ⟨s',c,rfl⟩
 have e:=beq_eq_false_iff_ne.1 e;rw [if_neg e] at hok hK;refine cO (λe=>?_) λe=>?_
 ·have e:=eq_of_beq e;rw [if_pos e] at hok hK;exact quj hH h 11 0 b hb hok.1 λS' s' w' a c=>hK S' s' w' a ⟨s',c,rfl⟩
 have e:=beq_eq_false_iff_ne.1 e;rw [if_neg e] at hok hK;exact hK S s w (PhT.refl h) rfl
theorem q6h (hH:HndOk H base fv) (h:PH H w base F p fv S s) (hc:0<=c/\c<128) (hok:zQ H s (p.ground c).2) {K:Ub} (hK:∀S' s' w',PhT H base w F S F S' p fv s' w'->yn H s (p.ground c).2 s'->K w'):y6 (some ⟨F.pg,0,none⟩) c w K:=by
 refine qdt _ _ ?_;unfold PS.ground at hok hK;refine XO (cO (λe=>?_) λe=>?_)
 ·rw [if_pos e] at hok hK;refine h.ldCh (qsd hH h λd a=>qrv ?_);exact quj hH a.m 2 0 c (by omega) hok.1 λS' s' w' f g=>hK S' s' w' (a.trans f) ⟨s',g,rfl⟩
 rw [if_neg (by rw [e];decide)] at hok hK;refine cO (λb=>?_) λb=>?_
 ·have b:=eq_of_beq b;rw [if_pos b] at hok hK;exact h.ldCh (qsd hH h λd a=>qrv (hK S s d a rfl))
 ·have b:=beq_eq_false_iff_ne.1 b;rw [if_neg b] at hok hK;refine h.ldCh (q9s hH h hc λq d i j a=>?_);exact zen hH a.m i hok.1 λS' s' w' f g=>hK S' s' w' (a.trans f) ⟨s',g,rfl⟩
theorem zmp {c:Int} (hc:0<=c/\c<256):c=((UInt8.ofNat c.toNat).toNat:Int):=by
 have:(UInt8.ofNat c.toNat).toNat=c.toNat:=by
  rw [UInt8.toNat_ofNat'];omega
 omega
theorem qwp (hH:HndOk H base fv) (h:PH H w base F p fv S s) (hc:0<=c/\c<128) {K:Ub} (hK:∀F' w',PhT H base w F S F' S (p.keep c) fv s w'->K w'):yx (some ⟨F.pg,0,none⟩) c w K:=by
 refine qje _ _ ?_;simp only [onPtr_some];have d:=h.par.ok;have b:=h.par;unfold PS.keep at hK;refine lSl (b.blk.cells 4 _ rfl) ?_;have A:=b.qi.rd.n;rw [A];refine cO (λe=>?_) λe=>?_
 ·have e:p.inter.length=2:=by have:=eq_of_beq e;omega
  rw [if_pos e] at hK;exact h.st hH { p with wrong:=true } (by decide) rfl rfl rfl rfl ⟨d.il,d.pl,d.dl,d.la,d.pv,d.pr⟩ λB f=>hK F B f
 ·have e:¬p.inter.length=2:=λC=>by rw [C] at e;exact absurd e (by decide)
  rw [if_neg e] at hK;refine lSl (b.blk.cells 4 _ rfl) ?_;refine zmx (zmp (by omega)) b.qi h.base_le (by have:=d.il;omega) λq P D l E=>?_;have g:=b.ne_pg;have v:=b.blk.chg l λe=>g _ (.inr (.inl e)) rfl;rw [qC];refine qD v (by show 0+4+1<=12;omega) λz y o G=>?_;have u:Chg (λk=>F.qi.blk=some k\/k=F.pg) w z:=(l.mono λk _ e=>.inl e).trans (Go.Vc.Chg.gg o) λk _ e=>.inr e;obtain ⟨I,J,L,r⟩:=b.ch;have M:=qI b.qi r (by decide);have m:∀k,q.blk=some k->F.qi.blk=some k\/w.heap.size<=k:=λk a=>by
   rcases E with e | ⟨j,e,N⟩
   ·exact .inl (e ▸ a)
   ·rw [e] at a;cases a;exact .inr N
  refine hK { F with qi:=q } z (h.own hH ⟨y,⟨I,J,L,r.chg u (λO=>O.elim (λe=>M _ e rfl) λe=>g _ (.inl rfl) e)⟩,b.hg,D.chg (Go.Vc.Chg.gg o) λk a e=>?_,b.qp.chg u ?_,b.qd.chg u ?_,λk a t=>?_,?_⟩ (u.mono λk _ a=>?_) (λk a=>?_) rfl)
  ·rcases m k a with f | f
   ·exact g k (.inr (.inl f)) e
   ·have:=b.blk.lt;omega
  ·rintro k a (e | e)
   ·exact JN b.qi b.qp (by decide) k e a
   ·exact g k (.inr (.inr (.inl a))) e
  ·rintro k a (e | e)
   ·exact b.ne k e a
   ·exact g k (.inr (.inr (.inr a))) e
  ·rcases m k a with f | f
   ·exact b.ne k f t
   ·have:=(b.qd.lt k t).2;omega
  ·exact ⟨by show (p.inter++_).length<=2;rw [length_append];have:=d.il;simp;omega,d.pl,d.dl,d.la,d.pv,d.pr⟩
  ·rcases a with a | a
   ·exact .inr (.inr (.inl a))
   ·exact .inl a
  ·rcases a with a | a | a | a | a
   ·exact .inl (.inl a)
   ·exact .inl (.inr (.inl a))
   ·rcases m k a with f | f
    ·exact .inl (.inr (.inr (.inl f)))
    ·exact .inr f
   ·exact .inl (.inr (.inr (.inr (.inl a))))
   ·exact .inl (.inr (.inr (.inr (.inr a))))
theorem q1l (hH:HndOk H base fv) (h:PH H w base F p fv S s) (x:Int) {K:Ub} (hK:∀w',PhT H base w F S F S { p with st:=x } fv s w'->K w'):stK ((⟨F.pg,0,none⟩:Addr).add 0) [.int .i64 x] w K :=
 h.st hH { p with st:=x } (by decide) rfl rfl rfl rfl ⟨h.par.ok.il,h.par.ok.pl,h.par.ok.dl,h.par.ok.la,h.par.ok.pv,h.par.ok.pr⟩ hK
theorem zcl (hH:HndOk H base fv) (h:PH H w base F p fv S s) (hok:∀r,p.opens c=some r->zQ H s r.2) {K:Bool->Ub} (h1:∀r F' S' s' w',p.opens c=some r->PhT H base w F S F' S' r.1 fv s' w'->yn H s r.2 s'->K true w') (h0:p.opens c=none->K false w):QK (some ⟨F.pg,0,none⟩) c w K:=by
 refine qh0 _ _ ?_;simp only [onPtr_some];unfold PS.opens at hok h1 h0;refine jpO λJ1 hJ1=>?_;refine cO (λe=>?_) λe=>?_
 ·rw [if_pos (eq_of_beq e)] at hok h1 h0;exact qbt hH h 2 λF' w' hT=>h1 _ F' S s w' rfl hT rfl
 rw [if_neg (beq_eq_false_iff_ne.1 e)] at hok h1 h0;refine cO (λe=>?_) λe=>?_
 ·rw [if_pos (eq_of_beq e)] at hok h1 h0;exact qbt hH h 3 λF' w' hT=>h1 _ F' S s w' rfl hT rfl
 rw [if_neg (beq_eq_false_iff_ne.1 e)] at hok h1 h0;refine cO (λe=>?_) λe=>?_
 ·rw [if_pos (eq_of_beq e)] at hok h1 h0;have hd:=h.drew hH;have hp:=hd.m.par;refine lSl (hp.blk.cells 10 _ rfl) ?_;refine hp.qd.rd.slK rfl (.inl ⟨rfl,rfl⟩) (.inr rfl) (le_refl _) (zero_le _) λ_=>?_;obtain ⟨q1,e1,o1,b1⟩:=qmw hp.qd;rw [e1];refine qD hp.blk (by show 0+0+1<=12;omega) λw8 hb8 hg8 hs8=>?_;refine qD hb8 (by show 0+10+1<=(putL _ _ _).length;rw [vL];show 11<=12;omega) λw9 hb9 hg9 hs9=>?_;have ok:=hp.ok;exact h1 _ { F with qd:=q1 } S s w9 rfl (hd.trans (hd.m.put hH hb9 ((Go.Vc.Chg.gg hg8).trans (Go.Vc.Chg.gg hg9) λi _ hi=>hi) rfl rfl hp.qi hp.qp o1 (λ_ h=>h) (λ_ h=>h) b1 ⟨ok.il,ok.pl,zero_le _,ok.la,ok.pv,ok.pr⟩)) rfl
 rw [if_neg (beq_eq_false_iff_ne.1 e)] at hok h1 h0;refine cO (λe=>?_) λe=>?_
 ·rw [if_pos (eq_of_beq e)] at hok h1 h0;refine q1l hH h 6 λw1 hT1=>?_;exact quj hH hT1.m 9 0 0 (by omega) (hok _ rfl).1 λS' s' w' hT hr=>h1 _ F S' s' w' rfl (hT1.trans hT) ⟨s',hr,rfl⟩
 rw [if_neg (beq_eq_false_iff_ne.1 e)] at hok h1 h0;have hx:(c=88\/c=94)->J1 () w:=λhx=>by
  rw [if_pos hx] at h1;exact hJ1 _ _ (q1l hH h 7 λw1 hT1=>h1 _ F S s w1 rfl hT1 rfl)
 refine cO (λe=>hx (.inl (eq_of_beq e))) λe=>cO (λe2=>hx (.inr (eq_of_beq e2))) λe2=>?_;rw [if_neg (λhh=>hh.elim (beq_eq_false_iff_ne.1 e) (beq_eq_false_iff_ne.1 e2))] at h0;exact h0 rfl
theorem qqo (hH:HndOk H base fv) (h:PH H w base F p fv S s) (hc:0<=c/\c<128) (hok:zQ H s (p.escape c).2) {K:Ub} (hK:∀F' S' s' w',PhT H base w F S F' S' (p.escape c).1 fv s' w'->yn H s (p.escape c).2 s'->K w'):kr (some ⟨F.pg,0,none⟩) c w K:=by
 refine qc4 _ _ ?_;simp only [onPtr_some];unfold PS.escape at hok hK;refine XO (cO (λe=>?_) λe=>?_)
 ·rw [if_pos e] at hok hK;exact quj hH h 2 0 c (by omega) hok.1 λS' s' w' g a=>hK F S' s' w' g ⟨s',a,rfl⟩
 rw [if_neg (by rw [e];decide)] at hok hK;refine cF (dFq (by omega)) ?_;refine cO (λe=>?_) λe=>?_
 ·rw [if_pos (oTq e)] at hok hK;exact qwp hH h hc λF' w' g=>hK F' S s w' g rfl
 rw [if_neg (oFq e)] at hok hK;refine cO (λe=>?_) λe=>?_
 ·rw [if_pos (eq_of_beq e)] at hok hK;exact hK F S s w (PhT.refl h) rfl
 rw [if_neg (beq_eq_false_iff_ne.1 e)] at hok hK;refine jpO λu i=>?_;have j:zQ H s (p.escEnd c).2->(∀F' S' s' w',PhT H base w F S F' S' (p.escEnd c).1 fv s' w'->yn H s (p.escEnd c).2 s'->K w')->u (true,()) w:=by
  intro hok hK;refine i _ _ (cT rfl ?_);unfold PS.escEnd at hok hK;refine q1l hH h 0 λt b=>?_;have y:=b.m.par;refine jw (y.blk.cells 5 _ rfl) ?_;cases hw:p.wrong
  ·rw [hw] at hok;have l:=b.m.drew hH;have f:=l.m.par;refine qo6 (x:=fv) (f.blk.cells 11 _ rfl) (lSl (f.blk.cells 4 _ rfl) ?_);refine kw f.qi.rd ⟨f.blk.cells 11 _ rfl,?_⟩;refine qne hH l.m hok.1 (zos rfl rfl ⟨hc.1,by show c<=255;omega⟩ ⟨Int.le_refl 0,by show (0:Int)<=255;omega⟩ h.par.ok.il) λS' s' w' g a=>hK F S' s' w' ((b.trans l).trans g) (by rw [if_neg (by rw [hw];decide)];exact ⟨s',a,rfl⟩)
  ·exact cF rfl (hK F S s t b (by rw [if_pos hw];rfl))
 refine lSl (h.par.blk.cells 4 _ rfl) ?_;have z:=h.par.qi.rd.n;rw [z];refine cO (λe=>?_) λe=>?_
 ·have o:p.inter≠[]:=λA=>by rw [A] at e;exact absurd e (by decide)
  rw [if_pos o] at hok hK;exact j hok hK
 ·have e:=oFq e;have k:p.inter=[]:=List.eq_nil_of_length_eq_zero (by omega);rw [if_neg (λB=>B k)] at hok hK;refine zcl hH h (λr a=>by rw [a] at hok;exact hok) (λr F' S' s' w' a g C=>?_) λa=>?_
  ·rw [a] at hK;exact i _ _ (cF rfl (hK F' S' s' w' g C))
  ·rw [a] at hok hK;exact j hok hK
end
section
variable {σ:Type} {H:Hnd σ} {w w':World} {base:Nat} {F F':PF} {p p':PS} {fv:Value} {S S':Nat->Prop} {s s':σ} {c:Int}
theorem zkv (h:PsOk p):PsOk p.next:=by
 unfold PS.next;refine ⟨h.il,?_,h.dl,⟨Int.le_refl 0,by show (0:Int)<=65535;omega⟩,h.pv,?_⟩
 ·split
  ·simp;omega
  ·exact h.pl
 ·split
  ·intro x b;rcases List.mem_append.1 b with a | a
   ·exact h.pr x a
   ·rw [List.mem_singleton] at a;rw [a];exact h.la
  ·exact h.pr
theorem qv8 (hH:HndOk H base fv) (h:PH H w base F p fv S s) {K:Ub} (hK:∀F' w',PhT H base w F S F' S p.next fv s w'->K w'):yw (some ⟨F.pg,0,none⟩) w K:=by
 refine qjt _ ?_;simp only [onPtr_some];have c:=zkv h.par.ok;have v:=h.par.ok;unfold PS.next at hK c;refine jpO λZ j=>?_;have l:=h.par;refine lSl (l.blk.cells 7 _ rfl) ?_;have M:=l.qp.rd.n;refine cO (λe=>?_) λe=>?_
 ·have e:p.params.length<16:=by have:=oTq e;omega
  rw [if_pos e] at hK c;have y:=h.drew hH;have l:=y.m.par;refine lSl (l.blk.cells 7 _ rfl) (lI (l.blk.cells 9 _ rfl) ?_);refine nwb λA B C N=>?_;have o:=y.trans (y.m.ext hH C);have a:=o.m.par;refine ⟨a.blk.cells 7 _ rfl,?_⟩;refine jW qb1 a.qp (y9 B rfl) o.m.base_le (by rw [qhb];simp;omega) (by simp only [maxLen];simp;omega) λq O P Q R=>?_;have f:=Chg.of_grown Q λk b=>b;have d:=a.ne_pg;have D:=a.blk.chg f λe=>d _ (.inr (.inr (.inl e))) rfl;rw [qC];refine qD D (by show 0+7+1<=12;omega) λw4 G r T=>?_;have z:Chg (λk=>F.qp.blk=some k\/k=F.pg) A w4:=(f.mono λk _ e=>.inl e).trans (Go.Vc.Chg.gg r) λk _ e=>.inr e;obtain ⟨U,V,W,t⟩:=a.ch;have X:=qI a.qp t (by decide);have u:∀k,q.blk=some k->F.qp.blk=some k\/A.heap.size<=k:=λk b=>by
   rcases R with e | e
   ·exact .inl (e ▸ b)
   ·rw [e] at b;cases b;exact .inr (le_refl _)
  have L:PhT H base w F S { F with qp:=q } S { p with params:=p.params++[p.last] } fv s w4:=by
   refine o.trans (o.m.own hH ⟨G,⟨U,V,W,t.chg z (λY=>Y.elim (λe=>X _ e rfl) λe=>d _ (.inl rfl) e)⟩,a.hg,a.qi.chg z ?_,P.chg (Go.Vc.Chg.gg r) λk b e=>?_,a.qd.chg z ?_,a.ne,⟨v.il,c.pl,v.dl,v.la,v.pv,c.pr⟩⟩ (z.mono λk _ b=>?_) (λk b=>?_) rfl)
   ·rintro k b (e | e)
    ·exact JN a.qp a.qi (by decide) k e b
    ·exact d k (.inr (.inl b)) e
   ·rcases u k b with g | g
    ·exact d k (.inr (.inr (.inl g))) e
    ·have:=a.blk.lt;omega
   ·rintro k b (e | e)
    ·exact JN a.qp a.qd (by decide) k e b
    ·exact d k (.inr (.inr (.inr b))) e
   ·rcases b with b | b
    ·exact .inr (.inr (.inr (.inl b)))
    ·exact .inl b
   ·rcases b with b | b | b | b | b
    ·exact .inl (.inl b)
    ·exact .inl (.inr (.inl b))
    ·exact .inl (.inr (.inr (.inl b)))
    ·rcases u k b with g | g
     ·exact .inl (.inr (.inr (.inr (.inl g))))
     ·exact .inr g
    ·exact .inl (.inr (.inr (.inr (.inr b))))
  refine j _ _ (L.m.st hH { p with params:=p.params++[p.last],last:=0 } (by decide) rfl rfl rfl rfl c λI J=>hK _ I (L.trans J))
 ·have e:¬p.params.length<16:=λo=>oFq e (by omega);rw [if_neg e] at hK c;exact j _ _ (h.st hH { p with last:=0 } (by decide) rfl rfl rfl rfl c λI J=>hK F I J)
theorem zap (hH:HndOk H base fv) (h:PH H w base F p fv S s) (hc:0<=c/\c<128) (hok:zQ H s (p.final c).2) {K:Ub} (hK:∀F' S' s' w',PhT H base w F S F' S' (p.final c).1 fv s' w'->yn H s (p.final c).2 s'->K w'):Zl (some ⟨F.pg,0,none⟩) c w K:=by
 refine qh8 _ _ ?_;unfold PS.final at hok hK;refine jpO λZ L=>?_;have B:∀k:Int,k=(if p.st=3 then 6 else 4)->Z (k,()) w:=by
  rintro k y;refine L _ _ ?_;refine jpO λJ2 M=>?_;have j:∀l,PhT H base w F S F S { p with st:=if p.st≠3 then 0 else if p.wrong then 7 else 5 } fv s l->J2 () l:=by
   intro l i;refine M _ _ ?_;refine jw (x:=p.wrong) (i.m.par.blk.cells 5 _ rfl) ?_;cases hw:p.wrong
   ·have N:¬p.wrong=true:=by rw [hw];decide
    simp only [if_neg N] at hok hK i;refine jpO λJ3 O=>?_;have r:∀(g:PS) n z,PhT H base w F S n S g fv s z->g.priv=p.priv->g.inter=p.inter->(if p.some_ then ({ p with st:=if p.st≠3 then 0 else 5 }:PS).next else { p with st:=if p.st≠3 then 0 else 5 })=g->J3 () z:=by
     intro g n z D P Q e3;rw [e3] at hok hK;refine O _ _ ?_;have T:=D.pg;rw [<-T];have E:=D.trans (D.m.drew hH);generalize z.drew=w3 at E ⊢;have f:=E.m.par;refine qo6 (x:=fv) (f.blk.cells 11 _ rfl) (lI (x:=g.priv) (f.blk.cells 3 _ rfl) (lSl (x:=n.qp) (f.blk.cells 7 _ rfl) (lSl (x:=n.qi) (f.blk.cells 4 _ rfl) ?_)));have G:∀(q:Slc) w4,Go.Vc.Own jr w4 w3.heap.size q g.params->Uc w3 w4->(∀U:Ub,(∀S' s' w',PhT H base w F S n S' g fv s' w'->H.R s ⟨k,0,c,g.priv,g.inter,g.params,[]⟩ s'->U w')->j7 C fv [agE ⟨k,0,c,g.priv,g.inter,g.params,[]⟩ q ⟨none,0,0⟩] [] w4 U):=by
      intro q w4 A t U V;have Y:=E.trans (E.m.ext hH t);refine qne hH Y.m (q:=q) (d:=⟨none,0,0⟩) ?_ ⟨A.rd,(λa W=>?_),Rd.nil _ _,(λa W=>by cases W),f.ok.pr,f.ok.pl,⟨hc.1,by show c<=255;omega⟩,f.ok.pv,f.ok.il,zero_le _⟩ λS' s' w' I u=>V S' s' w' (Y.trans I) u
      ·have:=hok.1;rw [y,P,Q];exact this
      ·have h5:=A.lt a.block (slk.2 ⟨a,W,rfl⟩);exact ⟨λJ=>by have:=(hH.lt E.m.m _ J).2;omega,h5.2⟩
     refine ⟨?_,?_⟩
     ·refine qv6 f.qp.rd (by have:=f.ok.pl;omega) λq w4 A t=>?_;have b:=f.ext t;refine ⟨b.blk.cells 4 _ rfl,b.blk.cells 3 _ rfl,b.blk.cells 11 _ rfl,?_⟩;refine kw b.qi.rd ⟨b.blk.cells 7 _ rfl,b.blk.cells 3 _ rfl,b.blk.cells 11 _ rfl,?_⟩;exact G q w4 A t K λS' s' w' I u=>hK n S' s' w' I ⟨s',by rw [y,P,Q] at u;exact u,rfl⟩
     ·refine kw f.qi.rd ⟨f.blk.cells 7 _ rfl,f.blk.cells 3 _ rfl,f.blk.cells 11 _ rfl,?_⟩;refine qv6 f.qp.rd (by have:=f.ok.pl;omega) λq w4 A t=>?_;have b:=f.ext t;refine ⟨b.blk.cells 4 _ rfl,b.blk.cells 3 _ rfl,b.blk.cells 11 _ rfl,?_⟩;exact G q w4 A t K λS' s' w' I u=>hK n S' s' w' I ⟨s',by rw [y,P,Q] at u;exact u,rfl⟩
    refine jw (x:=p.some_) (i.m.par.blk.cells 8 _ rfl) ?_;cases J:p.some_
    ·exact cF rfl (r _ F l i rfl rfl (if_neg (by rw [J];decide)))
    ·exact cT rfl (qv8 hH i.m λn z D=>r _ n z (i.trans D) rfl rfl (if_pos J))
   ·simp only [if_pos hw] at hok hK i;exact cT rfl (hK F S s l i rfl)
  refine cO (λe=>?_) λe=>?_
  ·have e:k=4:=eq_of_beq e;have o:p.st≠3:=λo=>by rw [if_pos o] at y;omega
   refine q1l hH h 0 λl i=>j l ?_;rw [if_pos o];exact i
  ·have e:¬k=4:=beq_eq_false_iff_ne.1 e;have o:p.st=3:=by
    by_cases o:p.st=3
    ·exact o
    ·rw [if_neg o] at y;exact absurd y e
   refine jw (x:=p.wrong) (h.par.blk.cells 5 _ rfl) ?_;cases hw:p.wrong
   ·refine cF rfl (q1l hH h 5 λl i=>j l ?_);rw [if_neg (λX=>X o),if_neg (by rw [hw];decide)];exact i
   ·refine cT rfl (q1l hH h 7 λl i=>j l ?_);rw [if_neg (λX=>X o),if_pos hw];exact i
 refine lI (x:=p.st) (h.par.blk.cells 0 _ rfl) ?_;refine cO (λe=>?_) λe=>?_
 ·exact B 6 (by rw [if_pos (eq_of_beq e)])
 ·exact B 4 (by rw [if_neg (beq_eq_false_iff_ne.1 e)])
end
section
variable {σ:Type} {H:Hnd σ} {w w':World} {base:Nat} {F F':PF} {p p':PS} {fv:Value} {S S':Nat->Prop} {s s':σ} {c:Int}
theorem qwc (hH:HndOk H base fv) (h:PH H w base F p fv S s) (hc:0<=c/\c<128) (hok:zQ H s (p.head c).2) {K:Ub} (hK:∀F' S' s' w',PhT H base w F S F' S' (p.head c).1 fv s' w'->yn H s (p.head c).2 s'->K w'):vm (some ⟨F.pg,0,none⟩) c w K:=by
 refine qfh _ _ ?_;simp only [onPtr_some];refine jw (x:=p.first) (h.par.blk.cells 6 _ rfl) ?_;refine jpO λU E=>?_;unfold PS.head at hok hK;dsimp only at hok hK;obtain ⟨k,r⟩:∃k,k=(p.first && (qyo c || c==127)):=⟨_,rfl⟩;rw [<-r] at hok hK;have G:∀l,PhT H base w F S F S { p with first:=k } fv s l->U () l:=by
  intro l f;refine E _ _ ?_;have d:=f.m.par.ok;refine XO (cO (λe=>?_) λe=>?_)
  ·rw [if_pos e] at hok hK;refine lI (x:=p.st) (f.m.par.blk.cells 0 _ rfl) (cO (λe=>?_) λe=>?_)
   ·have e:p.st=2:=eq_of_beq e;rw [if_pos e] at hok hK;exact quj hH f.m 2 0 c (by omega) hok.1 λS' s' w' A I=>hK F S' s' w' (f.trans A) ⟨s',I,rfl⟩
   ·have e:¬p.st=2:=beq_eq_false_iff_ne.1 e;rw [if_neg e] at hok hK;exact hK F S s l f rfl
  rw [if_neg (by rw [e];decide)] at hok hK;refine cF (dFq (by omega)) ?_;refine cO (λe=>?_) λe=>?_
  ·rw [if_pos (oTq e)] at hok hK;exact qwp hH f.m hc λF' w' A=>hK F' S s w' (f.trans A) rfl
  have J:=oFq e;rw [if_neg J] at hok hK;refine cO (λe=>?_) λe=>?_
  ·rw [if_pos (eq_of_beq e)] at hok hK;exact hK F S s l f rfl
  rw [if_neg (beq_eq_false_iff_ne.1 e)] at hok hK;have W:F.qi.n=p.inter.length:=f.m.par.qi.rd.n;have B:∀(X:Ub),(∀g,PhT H base w F S F S { p with first:=k,wrong:=p.wrong || decide (p.inter≠[]) } fv s g->X g) ->
    Go.Vc.ldB ((⟨F.pg,0,none⟩:Addr).add 5) l λL=>cond L (stK ((⟨F.pg,0,none⟩:Addr).add 5) [(.bool true)] l λC=>X C) (zW ((⟨F.pg,0,none⟩:Addr).add 4) l λM=>stK ((⟨F.pg,0,none⟩:Addr).add 5) [(.bool (decide (((M.n:Nat):Int)>(0:Int))))] l λN=>X N):=by
   intro X V;refine jw (x:=p.wrong) (f.m.par.blk.cells 5 _ rfl) ?_;have y:∀b:Bool,b=(p.wrong || decide (p.inter≠[]))->stK ((⟨F.pg,0,none⟩:Addr).add 5) [(.bool b)] l λC=>X C:=by
    rintro b q;rw [<-q] at V;exact f.m.st hH (i:=5) { p with first:=k,wrong:=b } (by decide) rfl rfl rfl rfl ⟨d.il,d.pl,d.dl,d.la,d.pv,d.pr⟩ λg j=>V g (f.trans j)
   cases hw:p.wrong
   ·refine cF rfl (lSl (x:=F.qi) (f.m.par.blk.cells 4 _ rfl) (y _ ?_));rw [hw,Bool.false_or,W];by_cases hi:p.inter=[]
    ·rw [hi];rfl
    ·rw [dTq hi,dTq];have:=List.length_pos_iff.2 hi;omega
   ·exact cT rfl (y _ (by rw [hw,Bool.true_or]))
  refine cO (λe=>?_) λe=>?_
  ·have t:=oTq e;rw [if_pos t] at hok hK;refine jpO λY O=>?_;refine B (λg=>Y () g) λg j=>O _ _ ?_;have a:=j.m.par.ok;refine j.m.st hH (i:=8) { p with first:=k,wrong:=p.wrong || decide (p.inter≠[]),some_:=true } (by decide) rfl rfl rfl rfl ⟨a.il,a.pl,a.dl,a.la,a.pv,a.pr⟩ λZ z=>?_;refine lI (x:=p.last) (z.m.par.blk.cells 9 _ rfl) ?_;have D:=d.la;have P:IntKind.u8.wrap (c-48)=c-48:=by
    obtain ⟨m,hm⟩:∃m:Nat,c-48=m:=⟨(c-48).toNat,by omega⟩;rw [hm];exact xN .u8 (by show _<2^8;omega)
   have D:0<=p.last/\p.last<=65535:=D;rw [P,qM (x:=c-48) (by omega),qM (x:=10*p.last) (by omega),qM (x:=10*p.last+(c-48)) (by omega)];refine z.m.st hH (i:=9) { p with first:=k,wrong:=p.wrong || decide (p.inter≠[]),some_:=true,last:=if 65535<10*p.last+(c-48) then 65535 else 10*p.last+(c-48) } (by decide) rfl rfl rfl rfl ?_ λw4 Q=>hK F S s w4 (j.trans (z.trans Q)) rfl;refine ⟨a.il,a.pl,a.dl,?_,a.pv,a.pr⟩;show 0<=(if 65535<10*p.last+(c-48) then 65535 else 10*p.last+(c-48))/\(if 65535<10*p.last+(c-48) then 65535 else 10*p.last+(c-48))<=65535;split<;>omega
  have t:=oFq e;rw [if_neg t] at hok hK;refine cO (λe=>?_) λe=>?_
  ·have u:c=59:=eq_of_beq e;rw [if_pos u] at hok hK;refine jpO λJ3 R=>?_;refine B (λg=>J3 () g) λg j=>R _ _ ?_;have a:=j.m.par.ok;refine j.m.st hH (i:=8) { p with first:=k,wrong:=p.wrong || decide (p.inter≠[]),some_:=true } (by decide) rfl rfl rfl rfl ⟨a.il,a.pl,a.dl,a.la,a.pv,a.pr⟩ λZ z=>?_;exact qv8 hH z.m λF4 w4 Q=>hK F4 S s w4 (j.trans (z.trans Q)) rfl
  have u:¬c=59:=beq_eq_false_iff_ne.1 e;rw [if_neg u] at hok hK;refine jpO λJ4 T=>?_;have o:∀b:Bool,b=decide (60<=c/\c<=63/\p.first=true)->J4 (b,()) l:=by
   intro b q;refine T _ _ (cO (λe=>?_) λe=>?_)
   ·have e:b=true:=e;rw [e] at q;have q:=oTq q.symm;rw [if_pos q] at hok hK;exact f.m.st hH (i:=3) { p with first:=k,priv:=c } (by decide) rfl rfl rfl rfl ⟨d.il,d.pl,d.dl,d.la,⟨hc.1,by show c<=255;omega⟩,d.pr⟩ λg j=>hK F S s g (f.trans j) rfl
   ·have e:b=false:=e;rw [e] at q;have q:=oFq q.symm;rw [if_neg q] at hok hK;refine cO (λe=>?_) λe=>?_
    ·rw [if_pos (oTq e)] at hok hK;exact f.m.st hH (i:=5) { p with first:=k,wrong:=true } (by decide) rfl rfl rfl rfl ⟨d.il,d.pl,d.dl,d.la,d.pv,d.pr⟩ λg j=>hK F S s g (f.trans j) rfl
    ·rw [if_neg (oFq e)] at hok hK;exact zap hH f.m hc hok λF' S' s' w' A I=>hK F' S' s' w' (f.trans A) I
  refine cO (λe=>?_) λe=>?_
  ·have e:=oTq e;refine cO (λv=>?_) λv=>?_
   ·have v:=oTq v;refine o _ ?_;cases p.first
    ·rw [dFq];rintro ⟨_,_,h⟩;cases h
    ·rw [dTq];exact ⟨e,v,rfl⟩
   ·have v:=oFq v;exact o _ (by rw [dFq];rintro ⟨_,h,_⟩;exact v h)
  ·have e:=oFq e;exact o _ (by rw [dFq];rintro ⟨h,_,_⟩;exact e h)
 have d:=h.par.ok;have y:∀b:Bool,b=k->stK ((⟨F.pg,0,none⟩:Addr).add 6) [(.bool b)] w λC=>U () C:=by
  rintro b rfl;exact h.st hH (i:=6) { p with first:=b } (by decide) rfl rfl rfl rfl ⟨d.il,d.pl,d.dl,d.la,d.pv,d.pr⟩ λg j=>G g j
 cases hf:p.first
 ·refine cF rfl (y _ ?_);rw [r,hf,Bool.false_and]
 ·refine cT rfl (XO (cO (λe=>?_) λe=>?_))
  ·exact y _ (by rw [r,hf,e];rfl)
  ·exact y _ (by rw [r,hf,e];rfl)
theorem qwe (hH:HndOk H base fv) (h:PH H w base F p fv S s) (hok:H.ok s (xH 5 p.data)) {K:Ub} (hK:∀S' s' w',PhT H base w F S F S' p fv s' w'->H.R s (xH 5 p.data) s'->K w'):yu (some ⟨F.pg,0,none⟩) w K:=by
 refine qj8 _ ?_;have b:=h.drew hH;have c:=b.m.par;refine qo6 (c.blk.cells 11 _ rfl) (lSl (c.blk.cells 10 _ rfl) ?_);refine Xp c.qd.rd (by have:=c.ok.dl;omega) λq r g i=>?_;have e:=b.trans (b.m.ext hH i);refine ⟨e.m.par.blk.cells 11 _ rfl,?_⟩;refine qne hH e.m hok ⟨Rd.nil _ _,(λa f=>by cases f),g.rd,(λa f=>?_),(λx j=>by cases j),zero_le _,⟨Int.le_refl 0,by show (0:Int)<=255;omega⟩,⟨Int.le_refl 0,by show (0:Int)<=255;omega⟩,zero_le _,by show p.data.length<=_;have:=c.ok.dl;omega⟩ λS' s' w' k l=>hK S' s' w' (e.trans k) l;have n:=g.lt a.block (slk.2 ⟨a,f,rfl⟩);exact ⟨λo=>by have:=(hH.lt b.m.m _ o).2;omega,n.2⟩
theorem zgk (hH:HndOk H base fv) (h:PH H w base F p fv S s) {q:Slc} {bs:List UInt8} (hq:Rd qo w q bs) (hl:bs.length<=1000000) (hok:H.ok s (xH (if p.st=6 then 10 else 7) bs)) {K:Ub} (hK:∀S' s' w',PhT H base w F S F S' p fv s' w'->H.R s (xH (if p.st=6 then 10 else 7) bs) s'->K w'):xO (some ⟨F.pg,0,none⟩) q w K:=by
 refine qfp _ _ ?_;refine jpO λn g=>?_;have b:∀k:Int,k=(if p.st=6 then 10 else 7)->n (k,()) w:=by
  rintro k o;rw [<-o] at hok hK;refine g _ _ ?_;have c:=h.drew hH;have f:=hq.drew;have r:=c.m.par;refine qo6 (r.blk.cells 11 _ rfl) ?_;refine Xp f (by omega) λt D l u=>?_;have i:=c.trans (c.m.ext hH u);refine ⟨i.m.par.blk.cells 11 _ rfl,?_⟩;refine qne hH i.m hok ⟨Rd.nil _ _,(λa j=>by cases j),l.rd,(λa j=>?_),(λx y=>by cases y),zero_le _,⟨Int.le_refl 0,by show (0:Int)<=255;omega⟩,⟨Int.le_refl 0,by show (0:Int)<=255;omega⟩,zero_le _,hl⟩ λS' s' w' z A=>hK S' s' w' (i.trans z) A;have B:=l.lt a.block (slk.2 ⟨a,j,rfl⟩);exact ⟨λC=>by have:=(hH.lt c.m.m _ C).2;omega,B.2⟩
 refine lI (h.par.blk.cells 0 _ rfl) (cO (λe=>?_) λe=>?_)
 ·exact b 10 (by rw [if_pos (eq_of_beq e)])
 ·exact b 7 (by rw [if_neg (beq_eq_false_iff_ne.1 e)])
theorem q6t (hH:HndOk H base fv) (h:PH H w base F p fv S s) (hc:0<=c/\c<128) (hok:zQ H s (p.text c).2) {K:Ub} (hK:∀F' S' s' w',PhT H base w F S F' S' (p.text c).1 fv s' w'->yn H s (p.text c).2 s'->K w'):Q2 (some ⟨F.pg,0,none⟩) c w K:=by
 refine qgh _ _ ?_;simp only [onPtr_some];unfold PS.text at hok hK;refine cO (λe=>?_) λe=>?_
 ·rw [if_pos (eq_of_beq e)] at hok hK;refine qwe hH h hok.1 λL G Z f M=>?_;exact q1l hH f.m 0 λI N=>hK F L G I (f.trans N) ⟨G,M,rfl⟩
 rw [if_neg (beq_eq_false_iff_ne.1 e)] at hok hK;refine jpO λO A=>?_;have d:=h.par;have u:=d.ok;have l:∀b:Bool,b=decide (32<=c/\c≠127/\p.data.length<1024)->O (b,()) w:=by
  intro b i;refine A _ _ (cO (λe=>?_) λe=>?_)
  ·have e:b=true:=e;rw [e] at i;have i:=oTq i.symm;rw [if_pos i] at hok hK;refine lSl (d.blk.cells 10 _ rfl) ?_;refine zmx (zmp (by omega)) d.qd h.base_le (by omega) λq I P o Q=>?_;have g:=d.ne_pg;have B:=d.blk.chg o λe=>g _ (.inr (.inr (.inr e))) rfl;rw [qC];refine qD B (by show 0+10+1<=12;omega) λJ C v R=>?_;have z:Chg (λk=>F.qd.blk=some k\/k=F.pg) w J:=(o.mono λk _ e=>.inl e).trans (Go.Vc.Chg.gg v) λk _ e=>.inr e;obtain ⟨T,U,V,y⟩:=d.ch;have W:=qI d.qd y (by decide);have r:∀k,q.blk=some k->F.qd.blk=some k\/w.heap.size<=k:=λk a=>by
    rcases Q with e | ⟨j,e,X⟩
    ·exact .inl (e ▸ a)
    ·rw [e] at a;cases a;exact .inr X
   refine hK { F with qd:=q } S s J (h.own hH ⟨C,⟨T,U,V,y.chg z (λD=>D.elim (λe=>W _ e rfl) λe=>g _ (.inl rfl) e)⟩,d.hg,d.qi.chg z ?_,d.qp.chg z ?_,P.chg (Go.Vc.Chg.gg v) λk a e=>?_,λk a E=>?_,?_⟩ (z.mono λk _ a=>?_) (λk a=>?_) rfl) rfl
   ·rintro k a (e | e)
    ·exact d.ne k a e
    ·exact g k (.inr (.inl a)) e
   ·rintro k a (e | e)
    ·exact JN d.qd d.qp (by decide) k e a
    ·exact g k (.inr (.inr (.inl a))) e
   ·rcases r k a with f | f
    ·exact g k (.inr (.inr (.inr f))) e
    ·have:=d.blk.lt;omega
   ·rcases r k E with f | f
    ·exact d.ne k a f
    ·have:=(d.qi.lt k a).2;omega
   ·exact ⟨u.il,u.pl,by show (p.data++_).length<=1024;rw [length_append];simp;omega,u.la,u.pv,u.pr⟩
   ·rcases a with a | a
    ·exact .inr (.inr (.inr (.inr a)))
    ·exact .inl a
   ·rcases a with a | a | a | a | a
    ·exact .inl (.inl a)
    ·exact .inl (.inr (.inl a))
    ·exact .inl (.inr (.inr (.inl a)))
    ·exact .inl (.inr (.inr (.inr (.inl a))))
    ·rcases r k a with f | f
     ·exact .inl (.inr (.inr (.inr (.inr f))))
     ·exact .inr f
  ·have e:b=false:=e;rw [e] at i;have i:=oFq i.symm;rw [if_neg i] at hok hK;exact hK F S s w (PhT.refl h) rfl
 have Y:=d.qd.rd.n;refine cO (λe=>?_) λe=>?_
 ·have e:=oTq e;refine cO (λt=>?_) λt=>?_
  ·have t:c≠127:=by simpa using t
   refine lSl (x:=F.qd) (d.blk.cells 10 _ rfl) (l _ ?_);rw [Y];by_cases hd:p.data.length<1024
   ·rw [dTq (p:=32<=c/\c≠127/\p.data.length<1024) ⟨e,t,hd⟩,dTq (by omega)]
   ·rw [dFq (p:=32<=c/\c≠127/\p.data.length<1024) (λD=>hd D.2.2),dFq (by omega)]
  ·have t:c=127:=by simpa using t
   exact l _ (by rw [dFq];rintro ⟨_,h,_⟩;exact h t)
 ·have e:=oFq e;exact l _ (by rw [dFq];rintro ⟨h,_,_⟩;exact e h)
theorem q47 (hH:HndOk H base fv) (h:PH H w base F p fv S s) (hc:0<=c/\c<128) (hok:zQ H s (p.plain c).2) {K:Ub} (hK:∀F' S' s' w',PhT H base w F S F' S' (p.plain c).1 fv s' w'->yn H s (p.plain c).2 s'->K w'):QT (some ⟨F.pg,0,none⟩) c w K:=by
 refine qig _ _ ?_;unfold PS.plain at hok hK;refine lI (h.par.blk.cells 0 _ rfl) ?_;refine cO (λe=>?_) λe=>?_
 ·rw [if_pos (eq_of_beq e)] at hok hK;exact qqo hH h hc hok hK
 rw [if_neg (beq_eq_false_iff_ne.1 e)] at hok hK;refine cO (λe=>?_) λd=>?_
 ·rw [if_pos (.inl (eq_of_beq e))] at hok hK;exact qwc hH h hc hok hK
 refine cO (λe=>?_) λf=>?_
 ·rw [if_pos (.inr (eq_of_beq e))] at hok hK;exact qwc hH h hc hok hK
 rw [if_neg (λa=>a.elim (beq_eq_false_iff_ne.1 d) (beq_eq_false_iff_ne.1 f))] at hok hK;refine cO (λe=>?_) λe=>?_
 ·rw [if_pos (eq_of_beq e)] at hok hK;exact q6t hH h hc hok hK
 rw [if_neg (beq_eq_false_iff_ne.1 e)] at hok hK;have b:=λa=>by
  rw [if_pos a] at hK;exact hK F S s w (PhT.refl h) rfl
 refine cO (λe=>b (.inl (eq_of_beq e))) λg=>?_;refine cO (λe=>b (.inr (.inl (eq_of_beq e)))) λi=>?_;refine cO (λe=>b (.inr (.inr (eq_of_beq e)))) λj=>?_;rw [if_neg (λa=>a.elim (beq_eq_false_iff_ne.1 g) λa=>a.elim (beq_eq_false_iff_ne.1 i) (beq_eq_false_iff_ne.1 j))] at hok hK;exact q6h hH h hc hok λS' s' w' k l=>hK F S' s' w' k l
theorem zg2 (hH:HndOk H base fv) (h:PH H w base F p fv S s) (b:Bool) {K:Ub} (hK:∀w',PhT H base w F S F S { p with ends:=b } fv s w'->K w'):stK ((⟨F.pg,0,none⟩:Addr).add 1) [.bool b] w K :=
 h.st hH { p with ends:=b } (by decide) rfl rfl rfl rfl ⟨h.par.ok.il,h.par.ok.pl,h.par.ok.dl,h.par.ok.la,h.par.ok.pv,h.par.ok.pr⟩ hK
theorem zcc (hH:HndOk H base fv) (h:PH H w base F p fv S s) (hc:0<=c/\c<128) (hok:zQ H s (p.ended c).2) {K:Ub} (hK:∀F' S' s' w',PhT H base w F S F' S' (p.ended c).1 fv s' w'->yn H s (p.ended c).2 s'->K w'):QO (some ⟨F.pg,0,none⟩) c w K:=by
 refine qgj _ _ ?_;simp only [onPtr_some];have r:p.ended c=(λa:PS=>if c=92 then ({ a with st:=0 },(if a.st=4 then [xH 5 a.data] else [])++a.close 1) else if c=27 then (a.begin_ 1,a.close 0) else if c=24\/c=26 then ({ a.begin_ 1 with st:=0 },a.close 0++[evK 2 c]) else (((a.begin_ 1).escape c).1,a.close 0++((a.begin_ 1).escape c).2)) { p with ends:=false }:=rfl;rw [r] at hok hK;refine zg2 hH h false λO k=>?_;obtain ⟨a,t⟩:∃a:PS,a={ p with ends:=false }:=⟨_,rfl⟩;rw [<-t] at k hok hK;dsimp only at hok hK
 refine cO (λe=>?_) λe=>?_
 ·rw [if_pos (eq_of_beq e)] at hok hK;refine jpO λQ v=>?_;have d:∀n i o,PhT H base w F S F n a fv i o->yn H s (if a.st=4 then [xH 5 a.data] else []) i->Q () o:=by
   intro n i o l b;refine v _ _ (qkn hH l.m (by omega) (zQ.right hok b) λR T y u z=>?_);exact q1l hH u.m 0 λw4 q=>hK F R T w4 (l.trans (u.trans q)) (yn.append b z)
  refine lI (k.m.par.blk.cells 0 _ rfl) (cO (λe=>?_) λe=>?_)
  ·have e:=eq_of_beq e;have j:=zQ.left hok;rw [if_pos e] at j;exact qwe hH k.m j.1 λn i o l U=>d n i o (k.trans l) (by rw [if_pos e];exact ⟨i,U,rfl⟩)
  ·have e:=beq_eq_false_iff_ne.1 e;exact d S s O k (by rw [if_neg e];rfl)
 ·rw [if_neg (beq_eq_false_iff_ne.1 e)] at hok hK;have A:zQ H s (a.close 0):=by
   revert hok;split
   ·exact id
   ·split
    ·exact zQ.left
    ·exact zQ.left
  refine qkn hH k.m (by omega) A λn i o l b=>?_;refine qbt hH l.m 1 λM y u=>?_;have f:=k.trans (l.trans u);have B:=u.pg;rw [<-B];refine jpO λV C=>?_;have d:(c=24\/c=26)->c≠27->V () y:=by
   intro D E;rw [if_neg E,if_pos D] at hok hK;refine C _ _ (q1l hH f.m 0 λw4 q=>?_);refine quj hH q.m 2 0 c (by omega) (zQ.right hok b).1 λW N X Y G=>hK M W N X (f.trans (q.trans Y)) (yn.append b ⟨N,G,rfl⟩)
  refine cO (λe=>?_) λg=>?_
  ·rw [if_pos (eq_of_beq e)] at hok hK;exact hK M n i y f b
  have g:=beq_eq_false_iff_ne.1 g;refine cO (λe=>d (.inl (eq_of_beq e)) g) λI=>cO (λe=>d (.inr (eq_of_beq e)) g) λJ=>?_;have Z:¬(c=24\/c=26):=λD=>D.elim (beq_eq_false_iff_ne.1 I) (beq_eq_false_iff_ne.1 J);rw [if_neg g,if_neg Z] at hok hK;exact qqo hH f.m hc (zQ.right hok b) λF4 S4 s4 w4 q L=>hK F4 S4 s4 w4 (f.trans q) (yn.append b L)
theorem q89 (hH:HndOk H base fv) (h:PH H w base F p fv S s) (hc:0<=c/\c<128) (hok:zQ H s (p.step c).2) {K:Ub} (hK:∀F' S' s' w',PhT H base w F S F' S' (p.step c).1 fv s' w'->yn H s (p.step c).2 s'->K w'):ZU (some ⟨F.pg,0,none⟩) c w K:=by
 refine qks _ _ ?_;simp only [onPtr_some];unfold PS.step at hok hK;refine jpO λD o=>?_;refine jw (x:=p.ends) (h.par.blk.cells 1 _ rfl) ?_;cases hen:p.ends
 ·rw [if_neg (by rw [hen];decide)] at hok hK;refine cF rfl ?_;refine jpO λy q=>?_;have f:∀b:Bool,b=decide (c≠24/\c≠26/\c≠27)->y (b,()) w:=by
   intro b l;refine q _ _ (cO (λe=>?_) λe=>?_)
   ·have e:b=true:=e;rw [e] at l;rw [if_pos (oTq l.symm)] at hok hK;exact q47 hH h hc hok hK
   ·have e:b=false:=e;rw [e] at l;rw [if_neg (oFq l.symm)] at hok hK;refine o _ _ (jpO λz r=>?_);have d:∀j,PhT H base w F S F S p fv s j->z () j:=by
     intro j a;refine r _ _ (cO (λe=>?_) λe=>?_)
     ·have e:c≠27:=by simpa using e
      rw [if_pos e] at hok hK;refine qkn hH a.m (by omega) (zQ.left hok) λE G n i k=>?_;refine q1l hH i.m 0 λI u=>?_;exact quj hH u.m 2 0 c (by omega) (zQ.right hok k).1 λA v w4 B t=>hK F A v w4 (a.trans (i.trans (u.trans B))) (yn.append k ⟨v,t,rfl⟩)
     ·have e:¬c≠27:=by simpa using e
      rw [if_neg e] at hok hK;refine lI (x:=p.st) (a.m.par.blk.cells 0 _ rfl) (cO (λe=>?_) λe=>?_)
      ·rw [if_pos (oTq e)] at hok hK;exact zg2 hH a.m true λn i=>hK F S s n (a.trans i) rfl
      ·rw [if_neg (oFq e)] at hok hK;exact qbt hH a.m 1 λC n i=>hK C S s n (a.trans i) rfl
    refine lI (x:=p.st) (h.par.blk.cells 0 _ rfl) (cO (λe=>?_) λe=>?_)
    ·exact h.ldCh (qsd hH h λj a=>qrv (d j a))
    ·exact d w (PhT.refl h)
  refine cO (λe=>?_) λe=>?_
  ·have e:c≠24:=by simpa using e
   refine cO (λg=>?_) λg=>?_
   ·have g:c≠26:=by simpa using g
    refine f _ ?_;by_cases h27:c=27
    ·rw [h27];decide
    ·rw [dTq ⟨e,g,h27⟩];simpa using h27
   ·have g:c=26:=by simpa using g
    exact f _ (by rw [g];decide)
  ·have e:c=24:=by simpa using e
   exact f _ (by rw [e];decide)
 ·rw [if_pos hen] at hok hK;exact cT rfl (zcc hH h hc hok hK)
end
theorem zj2 {α:Type} {f:α->Bool}:∀{l:List α},(∀x∈l,f x=true)->(l.takeWhile f).length=l.length
 | [],_=>rfl
 | a::l,h=>by
  rw [List.takeWhile_cons_of_pos (h a List.mem_cons_self),length_cons,length_cons,zj2 λx b=>h x (List.mem_cons_of_mem _ b)]
theorem zmo {α:Type} {f:α->Bool}:∀{l:List α} {m:Nat} {x:α},(∀y∈l.take m,f y=true)->l[m]?=some x->f x=false->(l.takeWhile f).length=m
 | [],m,x,_,h,_=>by cases h
 | a::l,0,x,_,h,hf=>by
  have h:a=x:=Option.some.inj h;rw [List.takeWhile_cons_of_neg (by rw [h,hf];decide)];rfl
 | a::l,m+1,x,ha,h,hf=>by
  rw [List.takeWhile_cons_of_pos (ha a (by simp)),length_cons,zmo (l:=l) (m:=m) (λy b=>ha y (by rw [List.take_succ_cons];exact List.mem_cons_of_mem _ b)) h hf]
namespace PS
theorem runN_le (p:PS) (bs:List UInt8):p.runN bs<=bs.length:=by
 unfold runN;split
 ·exact zero_le _
 ·exact (List.takeWhile_sublist _).length_le
theorem qvj:∀(f:Nat) (p:PS) (bs:List UInt8),bs.length<=f->ze5 (f+1) p bs=ze5 f p bs
 | 0,p,bs,h=>by
  rw [List.eq_nil_of_length_eq_zero (by omega:bs.length=0)];rfl
 | f+1,p,[],h=>rfl
 | f+1,p,b::bs,h=>by
  have a:bs.length<=f:=by simp at h;omega
  show (if 0<p.runN (b::bs) then _ else _)=(if 0<p.runN (b::bs) then _ else _);split
  ·rename_i d;have c:((b::bs).drop (p.runN (b::bs))).length<=f:=by rw [length_drop,length_cons];omega
   rw [qvj f p _ c]
  ·dsimp only;rw [qvj f _ bs a]
theorem zdp {f:Nat} {p:PS} {bs:List UInt8} (h:bs.length<=f):ze5 f p bs=p.eachB bs:=by
 induction f with
 | zero=>rw [List.eq_nil_of_length_eq_zero (by omega:bs.length=0)];rfl
 | succ f a =>
  by_cases hf:bs.length=f+1
  ·unfold eachB;rw [hf]
  ·rw [qvj f p bs (by omega),a (by omega)]
theorem eachB_run {p:PS} {b:UInt8} {bs:List UInt8} (h:0<p.runN (b::bs)):p.eachB (b::bs)=((p.eachB ((b::bs).drop (p.runN (b::bs)))).1,xH (if p.st=6 then 10 else 7) ((b::bs).take (p.runN (b::bs)))::(p.eachB ((b::bs).drop (p.runN (b::bs)))).2):=by
 have a:((b::bs).drop (p.runN (b::bs))).length<=bs.length:=by rw [length_drop,length_cons];omega
 rw [<-zdp a];show (if 0<p.runN (b::bs) then _ else _)=_;rw [if_pos h]
theorem eachB_step {p:PS} {b:UInt8} {bs:List UInt8} (h:¬0<p.runN (b::bs)):p.eachB (b::bs)=(((p.step b.toNat).1.eachB bs).1,(p.step b.toNat).2++((p.step b.toNat).1.eachB bs).2):=by
 rw [<-zdp (le_refl bs.length)];show (if 0<p.runN (b::bs) then _ else _)=_;rw [if_neg h]
end PS
section
variable {σ:Type} {H:Hnd σ} {w w':World} {base:Nat} {F F':PF} {p p':PS} {fv:Value} {S S':Nat->Prop} {s s':σ} {c:Int}
theorem zbi {x:UInt8} {K:Bool->Ub} (hK:K (JD x.toNat) w):Y1 (x.toNat:Int) w K:=by
 refine qhg _ ?_;unfold JD at hK;refine cO (λe=>?_) λe=>?_
 ·rw [e,Bool.true_or] at hK;exact hK
 rw [e,Bool.false_or] at hK;refine cO (λe=>?_) λe=>?_
 ·rw [e,Bool.true_or] at hK;exact hK
 rw [e,Bool.false_or] at hK;refine cO (λe=>?_) λe=>?_
 ·rw [e,Bool.true_or] at hK;exact hK
 rw [e,Bool.false_or] at hK;exact hK
theorem zaj (hH:HndOk H base fv) (h:PH H w base F p fv S s) {q:Slc} {bs:List UInt8} (hq:Rd qo w q bs) (hl:bs.length<=1000000) (hok:0<p.runN bs->H.ok s (xH (if p.st=6 then 10 else 7) (bs.take (p.runN bs)))) {K:Int->Ub}
  (h0:p.runN bs=0->K 0 w) (h1:0<p.runN bs->∀S' s' w',PhT H base w F S F S' p fv s' w'->H.R s (xH (if p.st=6 then 10 else 7) (bs.take (p.runN bs))) s'->K (p.runN bs:Nat) w'):JR (some ⟨F.pg,0,none⟩) q w K:=by
 refine qlm _ _ ?_;simp only [onPtr_some];refine jpO λV E=>?_;have z:(p.ends=true\/p.st≠5/\p.st≠6)->K 0 w:=λg=>h0 (by unfold PS.runN;rw [if_pos g]);have A:¬(p.ends=true\/p.st≠5/\p.st≠6)->V () w:=by
  intro g;have O:p.runN bs=(bs.takeWhile λb=>!JD b.toNat).length:=by unfold PS.runN;rw [if_neg g]
  refine E _ _ ?_;have f:∀n:Nat,n=p.runN bs->n<=bs.length->zf (σ:=Int×Unit) (λa B=>cond (decide (a.1>(0:Int))) (slK q none (some a.1) 1 λj=>xO (some ⟨F.pg,0,none⟩) j B λw4=>K a.1 w4) (K a.1 B)) λv=>v ((n:Int),()) w:=by
   intro n P G;refine jpO λv J=>J _ _ ?_;by_cases hp:0<n
   ·refine cT (dTq (by show (n:Int)>0;omega)) ?_;refine hq.slK (l:=0) (m:=n) rfl (.inl ⟨rfl,rfl⟩) (.inr rfl) (zero_le _) G λQ=>?_;rw [drop_zero] at Q;subst P;exact zgk hH h Q (by rw [List.length_take];omega) (hok hp) λS' s' w' W X=>h1 hp S' s' w' W X
   ·refine cF (dFq (by show ¬(n:Int)>0;omega)) ?_;have:n=0:=by omega
    subst this;exact h0 P.symm
  refine Kq _ _ ?_;rw [hq.n];refine lpR (λ(st:Int×Unit) w1=>w1=w/\∃i:Nat,st.1=i/\i<=bs.length/\∀y∈bs.take i,(!JD y.toNat)=true) (λst=>bs.length-st.1.toNat) ⟨rfl,0,rfl,by omega,λy D=>by cases D⟩ ?_;rintro ⟨i,u⟩ w1 ⟨rfl,m,T,Y,d⟩ I hI;dsimp only at T ⊢;subst T;by_cases hlt:m<bs.length
  ·refine cT (dTq (by omega)) ?_;obtain ⟨x,U,L⟩:=Go.Vc.get_of (xs:=bs) (k:=m) hlt;refine hq.ix (i:=(m:Int)) (k:=1) rfl (by omega) (by omega) λc=>?_;rw [L] at c;refine zn0 (b:=x) c (callR_plain (by kernel_rfl) ?_);refine Calls.mono (zbi (x:=x) (K:=λM N=>cond M (zf (σ:=Int×Unit) (λa B=>cond (decide (a.1>(0:Int))) (slK q none (some a.1) 1 λj=>xO (some ⟨F.pg,0,none⟩) j B λw4=>K a.1 w4) (K a.1 B)) λv=>cond (decide ((m:Int)<(0:Int))) (v (((bs.length:Nat):Int),()) N) (v ((m:Int),()) N)) (I ((i64.wrap ((m:Int)+(1:Int))),()) N)) ?_) ?_
   ·cases hxl:JD x.toNat with
    | true =>
     refine cT rfl ?_;rw [dFq (by omega)];exact f m (by rw [O];exact (zmo d U (by rw [hxl];rfl)).symm) Y
    | false =>
     refine cF rfl ?_;rw [qM (by omega)];refine hI _ _ ⟨rfl,m+1,rfl,by omega,?_⟩ (by simp;omega);intro y D;rw [List.take_add_one,U] at D;rcases List.mem_append.1 D with C | C
     ·exact d y C
     ·have C:y=x:=by simpa using C
      rw [C,hxl];rfl
   ·rintro e w' ⟨r,rfl,Z⟩;exact ⟨r,rfl,Z⟩
  ·refine cF (dFq (by omega)) ?_;obtain rfl:m=bs.length:=by omega
   rw [take_length] at d;show zf _ (λv=>cond (decide ((-1:Int)<0)) _ _);rw [show decide ((-1:Int)<0)=true from rfl];exact f bs.length (by rw [O];exact (zj2 d).symm) (le_refl _)
 refine jw (x:=p.ends) (h.par.blk.cells 1 _ rfl) (cO (λe=>z (.inl e)) λe=>?_);have e:p.ends=false:=e;refine lI (x:=p.st) (h.par.blk.cells 0 _ rfl) (cO (λo=>?_) λo=>?_)
 ·have o:p.st≠5:=by simpa using o
  refine lI (x:=p.st) (h.par.blk.cells 0 _ rfl) (cO (λt=>?_) λt=>?_)
  ·have t:p.st≠6:=by simpa using t
   exact z (.inr ⟨o,t⟩)
  ·have t:p.st=6:=by simpa using t
   exact A (λg=>g.elim (λh=>by rw [e] at h;cases h) λh=>h.2 t)
 ·have o:p.st=5:=by simpa using o
  exact A (λg=>g.elim (λh=>by rw [e] at h;cases h) λh=>h.1 o)
def zo2:Value:=.func (.func XL) #[] #[]
theorem znq {a:Addr} {v:Value} {w:World} {K:Ub} (h1:v.cells.toList=[v]) (h2:q5o v=true) (h:stK a [v] w K):stR a v w K:=by
 unfold stR;have b:v.cells.size=1:=by rw [<-Array.length_toList,h1];rfl
 rw [b,h1];show qhw true (qhw (q5o v && true) _);rw [h2];exact h
theorem ParsM.say (h:ParsM w base F p fv) (v:Value) {K:Ub} (hK:∀w',ParsM w' base F p v->Chg (λk=>k=F.pg) w w'->K w'):stK ((⟨F.pg,0,none⟩:Addr).add 11) [v] w K:=by
 rw [qC];refine qD h.blk (by show 0+11+1<=12;omega) λe g f m=>hK e ?_ (Chg.gg f);have a:=h.ne_pg;have c:Chg (λk=>k=F.pg) w e:=Chg.gg f;obtain ⟨i,j,l,d⟩:=h.ch;exact ⟨g,⟨i,j,l,d.chg c (a _ (.inl rfl))⟩,h.hg,h.qi.chg c λk b=>a k (.inr (.inl b)),h.qp.chg c λk b=>a k (.inr (.inr (.inl b))),h.qd.chg c λk b=>a k (.inr (.inr (.inr b))),h.ne,h.ok⟩
theorem q7h {fv0:Value} (hH:HndOk H base fv) (f1:fv.cells.toList=[fv]) (f2:q5o fv=true) (hp:ParsM w base F p fv0) (hm:H.M w S s) (dj:∀k,yl F k->¬S k) {q:Slc} {bs:List UInt8} (hq:Rd qo w q bs) (hl:bs.length<=1000000) (hb:∀b∈bs,b.toNat<128)
  (hqn:∀a,q.a=some a->¬yl F a.block/\¬S a.block/\a.block<w.heap.size) (hok:zQ H s (p.eachB bs).2) {K:Ub}
  (hK:∀F' S' s' w',ParsM w' base F' (p.eachB bs).1 zo2->H.M w' S' s'->(∀k,yl F' k->¬S' k)->yn H s (p.eachB bs).2 s'->(∀k,(yl F' k\/S' k)->(yl F k\/S k)\/w.heap.size<=k)->Chg (λk=>yl F k\/S k) w w'->F'.pg=F.pg->K w'):ZJ (some ⟨F.pg,0,none⟩) q fv w K:=by
 refine qji _ _ _ ?_;simp only [onPtr_some];refine znq f1 f2 (hp.say fv λZ aa Q=>?_);have ah:=Q.size;have E:Chg (yl F) w Z:=Q.mono λk _ e=>.inl e;have h1:PH H Z base F p fv S s:=⟨aa,hH.keep hm E (λk r hp=>dj k hp r) hp.far (λk r=>(hp.below k r).1),dj⟩;have ab:Rd qo Z q bs:=hq.chg E λa j=>(hqn a j).1;refine lpR (λ(st:Slc×Unit) w2=>∃(c:List UInt8) (z:List EvP) (h:PS) (O:PF) (S2:Nat->Prop) (s2:σ),Rd qo w2 st.1 c/\c.length<=bs.length/\(∀b∈c,b.toNat<128)/\(∀a,st.1.a=some a->¬yl O a.block/\¬S2 a.block/\a.block<w2.heap.size)/\PhT H base Z F S O S2 h fv s2 w2/\yn H s z s2/\p.eachB bs=((h.eachB c).1,z++(h.eachB c).2))
  (λst=>st.1.n) ⟨bs,[],p,F,S,s,ab,le_refl _,hb,(λa j=>⟨(hqn a j).1,(hqn a j).2.1,by have:=(hqn a j).2.2;omega⟩),PhT.refl h1,rfl,rfl⟩ ?_
 rintro ⟨R,u⟩ w2 ⟨c,z,h,O,S2,s2,t,ac,G,f,d,C,v⟩ I hI;dsimp only at t f ⊢;have D:=t.n;have T:=d.pg;cases c with
 | nil =>
  refine cF (by rw [D];rfl) ?_;rw [<-T];have U:h.eachB []=(h,[]):=rfl;rw [U,append_nil] at v;refine d.m.par.say zo2 λP ad ae=>?_;have V:Chg (yl O) w2 P:=ae.mono λk _ e=>.inl e;rw [v] at hK;have z2:=d.chg.size;refine hK O S2 s2 P ad (hH.keep d.m.m V (λk r hp=>d.m.dj k hp r) d.m.par.far (λk r=>(d.m.par.below k r).1)) d.m.dj C (λk r=>?_) ?_ d.pg
  ·rcases d.old k r with W | W
   ·exact .inl W
   ·right;omega
  ·refine ((E.mono λk _ r=>.inl r).trans d.chg λi _ hi=>hi).trans V λi hi r=>?_;rcases d.old i (.inl r) with W | W
   ·exact W
   ·have ai:=(h1.par.below F.pg (.inl rfl)).2;exfalso;omega
 | cons b c =>
  refine cT (by rw [D];simp<;>omega) ?_;rw [<-T];rw [v] at hok;have o:=zQ.right hok C;refine zaj hH d.m t (by omega) (λA=>?_) (λhz=>?_) λA S3 s3 P g J=>?_
  ·rw [PS.eachB_run A] at o;exact o.1
  ·
   have hz:¬0<h.runN (b::c):=by omega
   refine cF rfl ?_;refine t.ix (i:=0) (k:=1) rfl (by decide) (by simp) λhc=>?_;have hc:qG w2 (R.at_ qo.k 0) [.int .u8 (b.toNat:Int)]:=hc;refine zn0 (b:=b) hc ?_;rw [PS.eachB_step hz] at v o;refine q89 hH d.m ⟨by omega,by have:=G b List.mem_cons_self;omega⟩ (zQ.left o) λF3 S3 s3 P g J=>?_;have L:Rd qo P R (b::c):=t.chg g.chg λa j B=>B.elim (f a j).1 (f a j).2.1;refine L.slK (l:=1) (m:=(b::c).length) rfl (.inr rfl) (.inl ⟨rfl,rfl⟩) (by simp) (le_refl _) λx=>?_;rw [take_length,List.drop_succ_cons,drop_zero] at x;have z3:=g.chg.size;refine hI _ _ ⟨c,z++(h.step b.toNat).2,(h.step b.toNat).1,F3,S3,s3,x,by simp at ac;omega,(λy hy=>G y (List.mem_cons_of_mem _ hy)),(λa j=>?_),d.trans g,yn.append C J,by rw [v,append_assoc]⟩ ?_
   ·obtain ⟨a0,N,e⟩:=cut_block j;obtain ⟨X,Y,n3⟩:=f a0 N;rw [e];refine ⟨λB=>?_,λB=>?_,by omega⟩
    ·rcases g.old _ (.inl B) with (h5 | h5) | h5
     ·exact X h5
     ·exact Y h5
     ·omega
    ·rcases g.old _ (.inr B) with (h5 | h5) | h5
     ·exact X h5
     ·exact Y h5
     ·omega
   ·have:=x.n;show (b::c).length-1<R.n;rw [D];simp
  ·
   refine cT (dTq (by show ((h.runN (b::c):Nat):Int)>0;omega)) ?_;have af:=PS.runN_le h (b::c);have L:Rd qo P R (b::c):=t.chg g.chg λa j B=>B.elim (f a j).1 (f a j).2.1;refine L.slK (l:=h.runN (b::c)) (m:=(b::c).length) rfl (.inr rfl) (.inl ⟨rfl,rfl⟩) af (le_refl _) λx=>?_;rw [take_length] at x;have z3:=g.chg.size;refine hI _ _ ⟨(b::c).drop (h.runN (b::c)),z++[xH (if h.st=6 then 10 else 7) ((b::c).take (h.runN (b::c)))],h,O,S3,s3,x,by rw [length_drop];omega,(λy hy=>G y (List.mem_of_mem_drop hy)),(λa j=>?_),d.trans g,yn.append C ⟨s3,J,rfl⟩,by rw [v,PS.eachB_run A,append_assoc];rfl⟩ ?_
   ·obtain ⟨a0,N,e⟩:=cut_block j;obtain ⟨X,Y,n3⟩:=f a0 N;rw [e];refine ⟨λB=>?_,λB=>?_,by omega⟩
    ·rcases g.old _ (.inl B) with (h5 | h5) | h5
     ·exact X h5
     ·exact Y h5
     ·omega
    ·rcases g.old _ (.inr B) with (h5 | h5) | h5
     ·exact X h5
     ·exact Y h5
     ·omega
   ·show (b::c).length-h.runN (b::c)<R.n;rw [D];omega
end
abbrev qZ:=zl
abbrev yX:=qA
instance:Inhabited qA:=⟨⟨0,0,0⟩⟩
instance:Inhabited zl:=⟨⟨0,0,⟨0,0,0⟩⟩⟩
def zD:El zl where
 cells:=zl.rep.cells
 t:=zi
 k:=5
 pos:=by decide
 len _:=rfl
 one x v hv:=by
  simp only [zl.rep,mem_cons,List.mem_nil_iff,or_false] at hv;rcases hv with rfl | rfl | rfl | rfl | rfl<;>rfl
noncomputable def q8h:SlT PG zD zA where
 ht:=by kernel_rfl
 i:=(PG.info? zi).getD default
 hi:=by kernel_rfl
 z:=.agg #[.int .i32 0,.int .i64 0,.int .i64 0,.int .i64 0,.int .i64 0]
 hz:=by kernel_rfl
 hs:=by kernel_rfl
 hzs:=rfl
theorem zmi:q8h.i.bytes=40:=by kernel_rfl
def qjb (xs:List qZ) (i:Int):Int:=if 0<=i then ((xs[i.toNat]?).map (·.Kind)).getD (-1) else -1
def isB (xs:List qZ) (col kind:Int):Bool:=decide (0<=col) && decide (col<xs.length) && (qjb xs col==kind)
def Vh (xs:List qZ) (i:Int):Bool :=
 if qjb xs i=0 then true else if qjb xs i=1 then isB xs (i+1) 2 else if qjb xs i=2 then isB xs (i-1) 1 else false
def okB (xs:List qZ) (i:Nat):Bool:=Vh xs i && !(qjb xs i==2 && ((xs[i]?).map (·.R)).getD 0 !=0)
def JB (xs:List qZ):Bool:=(List.range xs.length).all (okB xs)
def vk (a:yX):qZ:=⟨0,0,a⟩
def qa0 (xs:List qZ) (i:Nat) (c:qZ):qZ :=
 if c.Kind≠0/\c.Kind≠1/\c.Kind≠2 then { c with Kind:=0 } else if Vh xs i=false then vk c.A else if c.Kind=2 then { c with R:=0 } else c
def jA (xs:List qZ):List qZ:=xs.mapIdx (qa0 xs)
theorem j8 (xs:List qZ):(jA xs).length=xs.length:=by simp [jA]
theorem qb2 (xs:List qZ) (i:Nat) (x:qZ) (h:xs[i]?=some x):(jA xs)[i]?=some (qa0 xs i x):=by simp [jA,h]
theorem qka {xs:List qZ} {i:Nat} {x:qZ} (h:xs[i]?=some x):qjb xs i=x.Kind:=by simp [qjb,h]
theorem q04 {xs:List qZ} {i:Int} (h0:0<=i) (h1:i<xs.length):qjb xs i=(xs[i.toNat]'(by omega)).Kind:=by
 have:i.toNat<xs.length:=by omega
 simp [qjb,h0,this]
theorem q3m {w:World} {a:Addr} {c:qZ} (h:qG w a (zD.cells c)):w.cell? (a.add 1)=some (Ua c.Kind):=h 1 _ rfl
theorem zh8 {w:World} {a:Addr} {c:qZ} (h:qG w a (zD.cells c)):qG w (a.add 2) (qA.rep.cells c.A) :=
 h.sub 2 λj v b=>by
  match j,b with
  | 0,b=>exact b
  | 1,b=>exact b
  | 2,b=>exact b
  | j+3,b=>cases b
theorem zf9 {w:World} {s:Slc} {xs:List qZ} (h:Rd zD w s xs):xs.length<=9223372036854775807:=by
 have a:=h.n;have b:=h.nc;have c:=h.cm;unfold maxLen at c;rw [a] at b;omega
theorem q3o {l:Slc} {xs:List qZ} {col kind:Int} {w:World} {K:Bool->Ub} (h:Rd zD w l xs) (hK:K (isB xs col kind) w):Xw l col kind w K:=by
 refine qt9 _ _ _ ?_;refine cO (λb=>?_) (λb=>?_)
 ·have b:=oTq b;refine cO (λa=>?_) (λa=>?_)
  ·have a:=oTq a;rw [h.n] at a;refine h.ix rfl b a λc=>lI (q3m c) ?_;have e:isB xs col kind=(xs[col.toNat].Kind==kind):=by
    unfold isB;rw [dTq (show 0<=col from b),dTq a,q04 b a];rfl
   rw [<-e];exact hK
  ·have a:=oFq a;rw [h.n] at a;have e:isB xs col kind=false:=by
    unfold isB;rw [dFq a];simp
   rw [<-e];exact hK
 ·have b:=oFq b;have e:isB xs col kind=false:=by simp only [isB,dFq (show ¬0<=col from b),Bool.false_and]
  rw [<-e];exact hK
theorem q4a {l:Slc} {xs:List qZ} {col:Int} {w:World} {K:Bool->Ub} (h:Rd zD w l xs) (h0:0<=col) (h1:col<xs.length) (hK:K (Vh xs col) w):y8 l col w K:=by
 have b:=zf9 h;refine qpr _ _ ?_;refine h.ix rfl h0 h1 λa=>lI (q3m a) ?_;rw [<-q04 h0 h1];rw [qM (show -9223372036854775808<=col+1/\col+1<=9223372036854775807 by omega),qM (show -9223372036854775808<=col-1/\col-1<=9223372036854775807 by omega)];unfold Vh at hK;refine cO (λe=>?_) (λe=>?_)
 ·rw [if_pos (eq_of_beq e)] at hK;exact hK
 ·have e:=beq_eq_false_iff_ne.1 e;rw [if_neg e] at hK;refine cO (λe=>?_) (λe=>?_)
  ·rw [if_pos (eq_of_beq e)] at hK;exact q3o h hK
  ·have e:=beq_eq_false_iff_ne.1 e;rw [if_neg e] at hK;refine cO (λe=>?_) (λe=>?_)
   ·rw [if_pos (eq_of_beq e)] at hK;exact q3o h hK
   ·have e:=beq_eq_false_iff_ne.1 e;rw [if_neg e] at hK;exact hK
theorem qov {n:Int} {a:yX} {w:World} {K:Slc->Ub} (hn:n<=1000000)
  (hK:∀r w',Go.Vc.Own zD w' w.heap.size r (List.replicate n.toNat (vk a))->Uc w w'->K r w'):Jo n a w K:=by
 refine qve _ _ ?_;refine nwb λC j l x=>?_;refine lpR (λ(s:Slc×Int×Unit) w2=>∃k:Nat,s.2.1=k/\(k:Int)<=max n 0/\Go.Vc.Own zD w2 w.heap.size s.1 (List.replicate k (vk a))/\Blk w2 w.heap.size xm (qA.rep.cells a)/\Uc w w2/\w.heap.size<w2.heap.size/\(∀g,s.1.blk=some g->w.heap.size<g))
  (λs=>(n-s.2.1).toNat) ⟨0,rfl,by omega,Go.Vc.Own.nil _ _ _,j,l,by omega,λg b=>by cases b⟩ ?_
 rintro ⟨s,i,_⟩ w2 ⟨k,rfl,D,m,u,v,y,f⟩ I hI;dsimp only at *;refine cO (λh=>?_) (λh=>?_)
 ·have h:=oTq h;refine qz u.cells ?_;refine nwb λz o c A=>?_;have B:Rd zD z ⟨some ⟨w2.heap.size,0,none⟩,1,1⟩ [vk a]:=y9 (E:=zD) o rfl;refine jW q8h (m.ext c) B (by omega) (by rw [zmi];simp;omega) (by simp [maxLen];omega) λr w4 p d q=>?_;rw [qM (by omega)];have t:Uc w w4:=(v.trans (c.mono (by omega))).grown d (by omega) λg b=>by
   exact ((m.lt g b).1)
  refine hI (r,(k:Int)+1,()) w4 ⟨k+1,by simp,by omega,?_,?_,t,?_,?_⟩ (by simp;omega)
  ·rw [List.replicate_succ'];exact p
  ·refine (u.ext c).grown d λe=>?_;have:=f _ e.symm;omega
  ·have:=d.size;omega
  ·intro g b;rcases q with e | e
   ·rw [e] at b;exact f g b
   ·rw [e] at b;cases b;omega
 ·have h:=oFq h;refine hK s w2 ?_ v;have:n.toNat=k:=by omega
  rw [this];exact m
def Vv (cols:Int) (a:yX):List qZ:=if cols<0\/cols>1000 then [] else List.replicate cols.toNat (vk a)
theorem zbj {n:Int} {a:yX} {w:World} {K:Slc->Ub}
  (hK:∀r w',Go.Vc.Own zD w' w.heap.size r (Vv n a)->Uc w w'->K r w'):qr6 n a w K:=by
 refine q14 _ _ ?_;refine nwb λf d c g=>?_;refine jpO λJ i=>?_;have b:(n<0\/n>1000)->K ⟨none,0,0⟩ f:=λh=>hK _ _ (by rw [Vv,if_pos h];exact Go.Vc.Own.nil _ _ _) c;refine cO (λh=>b (.inl (oTq h))) (λh=>?_);refine cO (λh=>b (.inr (oTq h))) (λe=>?_);have h:=oFq h;have e:=oFq e;refine i _ _ (qz d.cells (qov (by omega) λr w' j k=>hK r w' ?_ (c.trans (k.mono (by omega)))));rw [Vv,if_neg (by omega)];exact j.base (by omega)
theorem qbf {s:Slc} {xs:List qZ} {w:World} {K:Slc->Ub} (h:Rd zD w s xs) (hl:xs.length<=1000000)
  (hK:∀r w',Go.Vc.Own zD w' w.heap.size r xs->Uc w w'->K r w'):zY s w K:=by
 refine ZX _ ?_;refine cO (λe=>?_) (λe=>?_)
 ·have:s.a=none:=by cases ha:s.a with
   | none=>rfl
   | some a=>rw [ha] at e;cases e
  rw [h.none_nil this] at hK;exact hK _ _ (Go.Vc.Own.nil _ _ _) (Below.refl _ _)
 ·refine nwb λm c b i=>?_;refine jW q8h (qb3 (E:=zD) c (le_refl _)) (h.ext b) (by omega) (by rw [zmi];simp;omega) (by simp [maxLen];omega) λr j d f k=>?_;exact hK r j (by simpa using d) (b.grown f (by omega) λg l=>by cases l;exact le_refl _)
theorem qb0 {l:Slc} {xs:List qZ} {w:World} {K:Slc->Ub} (h:Rd zD w l xs) (hl:xs.length<=1000000)
  (hK:∀r w',Go.Vc.Own zD w' w.heap.size r (jA xs)->Uc w w'->K r w'):xp l w K:=by
 refine qpn _ ?_;refine qbf h hl λr w1 U V=>?_;refine lpR (λ(s:Int×Unit) w2=>∃k:Nat,s.1=k/\k<=xs.length/\Go.Vc.Own zD w2 w.heap.size r (mix (jA xs) xs k)/\Uc w w2)
  (λs=>xs.length-s.1.toNat) ⟨0,rfl,by omega,by rw [zjs];exact U,V⟩ ?_
 rintro ⟨i,_⟩ w2 ⟨k,rfl,hk,S,M⟩ I hI;dsimp only at *;have a:=j8 xs;refine cO (λB=>?_) (λC=>?_)
 ·have B:=oTq B;rw [h.n] at B;have d:k<xs.length:=by omega
  obtain ⟨x,T⟩:∃x,xs[k]?=some x:=⟨xs[k],List.getElem?_eq_getElem d⟩;have W:xs[((k:Int)).toNat]'(by omega)=x:=by
   have:=List.getElem?_eq_getElem d;rw [T] at this;exact (Option.some.inj this).symm
  have X:=qb2 xs k x T;have u:(mix (jA xs) xs k)[k]?=some x:=by rw [zdd a d,if_neg (by omega)];exact T
  rw [qM (by omega)];have ae:r.n=xs.length:=by have:=S.rd.n;rwa [qkp a] at this
  have D:∀w',Go.Vc.Own zD w' w.heap.size r (mix (jA xs) xs (k+1))->Uc w w'->I ((k:Int)+1,()) w':=λw' Y Z=>
   hI _ _ ⟨k+1,by simp,by omega,Y,Z⟩ (by simp;omega)
  have aa:Rd zD w2 l xs:=h.ext M;refine aa.ix rfl (by omega) (by omega) λhc=>?_;rw [W] at hc;refine qz (x:=x) hc ?_;refine jS rfl λw4 N O af=>?_;have p:=S.ext O;have b:Uc w w4:=M.trans (O.mono M.size);have ah:w.heap.size<=w2.heap.size:=M.size;have wr:∀(q:World) (y:qZ) (j:Nat) (v:List Value),Go.Vc.Own zD q w.heap.size r (mix (jA xs) xs k)->Uc w q->qa0 xs k x=y->j+v.length<=5->zD.cells y=putL (zD.cells x) j v ->
    ixK r (k:Int) 5 λt=>stK (t.add j) v q λP=>I ((k:Int)+1,()) P:=by
   intro q y j v c f Q hj hp;refine c.rd.ix (xs:=mix (jA xs) xs k) rfl (by omega) (by rw [qkp a];omega) λ_=>?_;refine c.st (i:=k) (x:=x) (y:=y) (by simpa using u) hj hp λP m E ab=>D _ ?_ ?_
   ·rw [q4o a d (by rw [X,Q])] at m;exact m
   ·exact f.grown E f.size λg F=>(c.lt g F).1
  have ac:∀(q:World) (y:qZ) (v:List Value),Go.Vc.Own zD q w.heap.size r (mix (jA xs) xs k)->Uc w q->qa0 xs k x=y->zD.cells y=v ->
    ixK r (k:Int) 5 λt=>stK t v q λP=>I ((k:Int)+1,()) P:=by
   intro q y v c f Q hp;refine c.rd.ix (xs:=mix (jA xs) xs k) rfl (by omega) (by rw [qkp a];omega) λ_=>?_;refine c.st0 (i:=k) (x:=x) (y:=y) (by simpa using u) hp λP m E ab=>D _ ?_ ?_
   ·rw [q4o a d (by rw [X,Q])] at m;exact m
   ·exact f.grown E f.size λg F=>(c.lt g F).1
  refine jpO λJ hJ=>?_;have q8k:w4.cell? ((⟨w2.heap.size,0,none⟩:Addr).add 1)=some (Ua x.Kind):=N.cells 1 _ rfl;have ad:(x.Kind≠0/\x.Kind≠1/\x.Kind≠2)->J (true,()) w4:=λG=>hJ _ _ (by
   dsimp only [cond_true];exact wr w4 { x with Kind:=0 } 1 _ p b (by rw [qa0,if_pos G]) (by simp) rfl)
  have o:¬(x.Kind≠0/\x.Kind≠1/\x.Kind≠2)->J (false,()) w4:=λF=>hJ _ _ (by
   dsimp only [cond_false];refine q4a (h.ext b) (by omega) (by omega) ?_;refine cO (λz=>?_) (λz=>?_)
   ·have z:Vh xs k=false:=by simpa using z
    refine qz (x:=x.A) (zh8 N.cells) ?_;exact ac w4 (vk x.A) _ p b (by rw [qa0,if_neg F,if_pos z]) rfl
   ·have z:¬Vh xs k=false:=by simpa using z
    refine lI q8k ?_;refine cO (λe=>?_) (λe=>?_)
    ·have e:=eq_of_beq e;exact wr w4 { x with R:=0 } 0 _ p b (by rw [qa0,if_neg F,if_neg z,if_pos e]) (by simp) rfl
    ·have e:=beq_eq_false_iff_ne.1 e;have Q:qa0 xs k x=x:=by rw [qa0,if_neg F,if_neg z,if_neg e]
     refine D _ ?_ b;rw [<-zgt a d (by rw [X,T,Q])];exact p)
  refine lI q8k ?_;refine cO (λH=>?_) (λH=>?_)
  ·have H:x.Kind≠0:=by simpa using H
   refine lI q8k ?_;refine cO (λL=>?_) (λL=>?_)
   ·have L:x.Kind≠1:=by simpa using L
    refine lI q8k ?_;by_cases e:x.Kind=2
    ·rw [show (x.Kind !=2)=false by simp [e]];exact o λG=>G.2.2 e
    ·rw [show (x.Kind !=2)=true by simpa using e];exact ad ⟨H,L,e⟩
   ·have L:x.Kind=1:=by simpa using L
    exact o λG=>G.2.1 L
  ·have H:x.Kind=0:=by simpa using H
   exact o λG=>G.1 H
 ·have C:=oFq C;rw [h.n] at C;have:k=xs.length:=by omega
  subst this;rw [zmk a] at S;exact hK r w2 S M
theorem zf6 {xs:List qZ} (h:∀i,i<xs.length->okB xs i=true):JB xs=true:=by
 unfold JB;rw [List.all_eq_true];exact λi a=>h i (List.mem_range.1 a)
theorem zdj {xs:List qZ} {k:Nat} {x:qZ} (hx:xs[k]?=some x):okB xs k=(Vh xs k && !(x.Kind==2 && x.R !=0)):=by
 unfold okB;rw [qka hx,hx];rfl
theorem get_of {xs:List qZ} {k:Nat} (hk:k<xs.length):∃x,xs[k]?=some x/\∀h,xs[((k:Int)).toNat]'h=x :=
 ⟨xs[k],List.getElem?_eq_getElem hk,λ_=>rfl⟩
def zi2 (x y:qZ):Bool:=(x.R==y.R) && ((x.Kind==y.Kind) && (((x.A.Fg==y.A.Fg) && ((x.A.Bg==y.A.Bg) && ((x.A.Flags==y.A.Flags) && true))) && true))
theorem zf8 {x y:qZ}:zi2 x y=true↔x=y:=by
 obtain ⟨r,k,f,b,g⟩:=x;obtain ⟨a,c,d,e,h⟩:=y;simp only [zi2,Bool.and_true,Bool.and_eq_true,beq_iff_eq,zl.mk.injEq,qA.mk.injEq]
def qet (xs:List qZ) (at_:Int):List qZ:=if 0<=at_/\at_<xs.length/\Vh xs at_=false then xs.set at_.toNat (vk (xs.getD at_.toNat default).A) else xs
def qjz (xs:List qZ) (from_ to:Int):List qZ:=qet (qet xs (from_-1)) to
def qmo (n:Nat) (col width:Int):Prop:=width<1\/width>2\/col<0\/col>n-width
instance (n:Nat) (col width:Int):Decidable (qmo n col width):=by unfold qmo;infer_instance
def q0t (xs:List qZ) (col r width:Int) (a:yX):List qZ :=
 if width=2 then (xs.set col.toNat ⟨r,1,a⟩).set (col+1).toNat ⟨0,2,a⟩ else xs.set col.toNat ⟨r,0,a⟩
def q8z (xs:List qZ) (col r width:Int) (a:yX):List qZ:=if qmo xs.length col width then jA xs else qjz (q0t (jA xs) col r width a) col (col+width)
def qee (n:Nat) (col k:Int):Int:=if k<1\/col<0\/col>=n then 0 else min k (n-col)
def qj9 (xs:List qZ) (col k:Int) (a:yX):List qZ :=
 let m:=jA xs
 let c:=qee xs.length col k
 if c=0 then m else jA (m.take col.toNat++List.replicate c.toNat (vk a)++(m.take (xs.length-c.toNat)).drop col.toNat)
def delL (xs:List qZ) (col k:Int) (a:yX):List qZ :=
 let m:=jA xs
 let c:=qee xs.length col k
 if c=0 then m else jA (m.take col.toNat++m.drop (col+c).toNat++List.replicate c.toNat (vk a))
def zo4 (xs:List qZ) (lo hi:Nat) (c:qZ):List qZ:=xs.mapIdx λi x=>if lo<=i/\i<hi then c else x
def zpa (xs:List qZ) (from_ to:Int) (a:yX):List qZ :=
 let lo:=max 0 from_
 let hi:=min (xs.length:Int) to
 if lo>=hi then jA xs else qjz (zo4 (jA xs) lo.toNat hi.toNat (vk a)) lo hi
def ZF (xs:List qZ) (cols:Int):List qZ :=
 let m:=jA xs
 let c:=min 1000 (max 0 cols)
 if c<=xs.length then jA (m.take c.toNat) else m++List.replicate (c-xs.length).toNat (vk ⟨0,0,0⟩)
theorem qiw (xs:List qZ) (i:Int):(qet xs i).length=xs.length:=by
 unfold qet;split<;>simp
theorem q0m (xs:List qZ) (i j:Int):(qjz xs i j).length=xs.length:=by rw [qjz,qiw,qiw]
theorem q45 (xs:List qZ) (c r k:Int) (a:yX):(q0t xs c r k a).length=xs.length:=by
 unfold q0t;split<;>simp
theorem q8w {l:Slc} {xs:List qZ} {from_ to:Int} {w:World} {base:Nat} {K:Slc->Ub} (h:Go.Vc.Own zD w base l xs) (hf:-1000000<=from_/\from_<=1000000)
  (hK:∀w',Go.Vc.Own zD w' base l (qjz xs from_ to)->Chg (λk=>l.blk=some k) w w'->K l w'):JG l from_ to w K:=by
 refine qlx _ _ _ ?_;refine nwb λw1 hb1 hB1 hs1=>?_;rw [qM (x:=from_-1) (by omega)] at hb1;have ln:l.n=xs.length:=h.rd.n;have hne:∀k,l.blk=some k->k<w.heap.size:=λk hk=>(h.lt k hk).2;refine lpR (λ(s:Int×Unit) w2=>∃k:Nat,s.1=k/\k<=2/\Go.Vc.Own zD w2 base l (if k=0 then xs else if k=1 then qet xs (from_-1) else qjz xs from_ to)/\Blk w2 w.heap.size zJ [.int .i64 (from_-1),.int .i64 to]/\Chg (λk=>l.blk=some k) w w2)
  (λs=>2-s.1.toNat) ⟨0,rfl,by omega,h.ext hB1,hb1,Chg.of_ext hB1⟩ ?_
 rintro ⟨i,_⟩ w2 ⟨k,rfl,hk,ho,hb,hc⟩ I hI;dsimp only at *;refine cO (λhlt=>?_) (λhge=>?_)
 ·have hlt:=oTq hlt;refine ⟨by omega,?_⟩;rw [qM (x:=(k:Int)+1) (by omega)];have round:∀(ys zs:List qZ) (p:Int),ys.length=xs.length->Go.Vc.Own zD w2 base l ys->zs=qet ys p->(∀w3,Go.Vc.Own zD w3 base l zs->Chg (λk=>l.blk=some k) w2 w3->I ((k:Int)+1,()) w3) ->
    zf (σ:=Bool×Unit) (λs_1 w3=>
     cond s_1.1
      (
       ixK l p 5 λt36=>ldS qA.rep (t36.add 2) w3 λt38=>ixK l p 5 λt40=>
       stK t40 [(.int .i32 0),(Ua 0),(Ua t38.Fg),(Ua t38.Bg),(Ua t38.Flags)] w3 λw4=>I ((k:Int)+1,()) w4)
      (I ((k:Int)+1,()) w3)) λJ2=>
    cond (decide (p>=(0:Int)))
     (cond (decide (p<((l.n:Nat):Int))) (y8 l p w2 λt29 w5=>J2 ((!t29),()) w5) (J2 (false,()) w2)) (J2 (false,()) w2):=by
   intro ys zs p hy ho hz hfin;refine jpO λJ hJ=>?_;have stay:zs=ys->J (false,()) w2:=λe=>hJ _ _ (cF rfl (hfin _ (by rw [e];exact ho) (Chg.refl _ _)));refine cO (λh0=>?_) (λh0=>?_)
   ·have h0:0<=p:=oTq h0;refine cO (λh1=>?_) (λh1=>?_)
    ·have h1:=oTq h1;rw [ln] at h1;refine q4a ho.rd h0 (by omega) ?_;cases hfit:Vh ys p with
     | true=>exact stay (by rw [hz,qet,if_neg (by simp [hfit])])
     | false =>
      refine hJ _ _ (cT rfl ?_);have hpl:p.toNat<ys.length:=by omega
      have hx:ys[p.toNat]?=some (ys[p.toNat]'hpl):=List.getElem?_eq_getElem _;have hze:zs=ys.set p.toNat (vk (ys[p.toNat]'hpl).A):=by
       rw [hz,qet,if_pos ⟨h0,by omega,hfit⟩];simp [hx]
      refine ho.rd.ix rfl h0 (by omega) λhc=>?_;refine qz (x:=(ys[p.toNat]'hpl).A) (zh8 hc) ?_;refine ho.rd.ix rfl h0 (by omega) λhc=>?_;refine ho.st0 hx (y:=vk (ys[p.toNat]'hpl).A) rfl λw3 ho3 hg3 hs3=>?_;exact hfin _ (by rw [hze];exact ho3) (Chg.of_grown hg3 λk hk=>hk)
    ·have h1:=oFq h1;rw [ln] at h1;exact stay (by rw [hz,qet,if_neg (by omega)])
   ·have h0:=oFq h0;exact stay (by rw [hz,qet,if_neg (by omega)])
  have next:∀(zs:List qZ),zs=(if k+1=0 then xs else if k+1=1 then qet xs (from_-1) else qjz xs from_ to)->∀w3,Go.Vc.Own zD w3 base l zs->Chg (λk=>l.blk=some k) w2 w3->I ((k:Int)+1,()) w3:=by
   intro zs hz w3 ho3 hc3;refine hI _ _ ⟨k+1,by simp,by omega,by rw [<-hz];exact ho3,hb.chg hc3 (λe=>?_),hc.trans hc3 λi hi e=>e⟩ (by simp;omega);have:=hne _ e;omega
  rcases (show k=0\/k=1 by omega) with rfl | rfl
  ·refine lI (x:=from_-1) (by simpa using hb.cells 0 _ rfl) ?_;exact round xs _ _ rfl ho rfl (next _ rfl)
  ·refine lI (x:=to) (by simpa using hb.cells 1 _ rfl) ?_;exact round (qet xs (from_-1)) _ _ (qiw _ _) ho rfl (next _ rfl)
 ·have hge:=oFq hge;have:k=2:=by omega
  subst this;exact hK _ ho hc
theorem q9y {l:Slc} {xs:List qZ} {col r width:Int} {a:yX} {w:World} {K:Slc->Bool->Ub} (h:Rd zD w l xs) (hl:xs.length<=10000)
  (hK:∀s w',Go.Vc.Own zD w' w.heap.size s (q8z xs col r width a)->Uc w w'->K s (!decide (qmo xs.length col width)) w'):YS l col r width a w K:=by
 refine qrm _ _ _ _ _ ?_;refine nwb λw1 L z Y=>?_;refine qb0 (h.ext z) (by omega) λm A b B=>?_;have M:=j8 xs;have Z:m.n=xs.length:=by have:=b.rd.n;rwa [M] at this
 have N:l.n=xs.length:=h.n;have d:Uc w A:=z.trans (B.mono (by omega));have C:=L.ext B;have t:∀g,m.blk=some g->w.heap.size<g:=λg k=>by have:=(b.lt g k).1;omega
 have b:Go.Vc.Own zD A w.heap.size m (jA xs):=b.base (by omega);refine jpO λJ1 O=>jpO λW D=>?_;have o:qmo xs.length col width->W (true,()) A:=λX=>D _ _ (cT rfl (by
  have:=hK m A (by rw [q8z,if_pos X];exact b) d
  rwa [dTq X] at this))
 have E:¬qmo xs.length col width->W (false,()) A:=λk=>D _ _ (cF rfl (O _ _ (by
  have p:=k;unfold qmo at k;have hx:(jA xs)[col.toNat]?=some ((jA xs)[col.toNat]'(by omega)):=List.getElem?_eq_getElem _;refine qz (x:=a) C.cells ?_;refine b.rd.ix rfl (by omega) (by omega) λ_=>?_;refine b.st0 hx (y:=⟨r,0,a⟩) rfl λw4 u F aa=>?_;have f:Uc w w4:=d.grown F d.size λg k=>(b.lt g k).1;have P:=C.grown F (λe=>by have:=t _ e.symm;omega);refine jpO λJ2 Q=>?_;have G:∀{w5:World},Go.Vc.Own zD w5 w.heap.size m (q0t (jA xs) col r width a)->Uc w w5->J2 () w5:=λ{w5} ho5 hB5=>Q _ _ (by
   rw [qM (x:=col+width) (by omega)];refine q8w ho5 (by omega) λw6 R S=>?_;have:=hK m w6 (by rw [q8z,if_neg p];exact R) (hB5.trans (S.below hB5.size λi hi e=>by have:=t i e;omega))
   rwa [dFq p] at this)
  refine cO (λc=>?_) (λc=>?_)
  ·have c:=eq_of_beq c;subst c;refine u.rd.ix rfl (by omega) (by rw [length_set];omega) λ_=>?_;refine u.st (x:=⟨r,0,a⟩) (y:=⟨r,1,a⟩) (by rw [List.getElem?_set_self (by omega)]) (j:=1) (by simp [zD]) rfl λw7 v H ab=>?_;rw [List.set_set] at v;have q:=f.grown H f.size λg k=>(b.lt g k).1;have T:=P.grown H (λe=>by have:=t _ e.symm;omega);refine qz (x:=a) T.cells ?_;rw [qM (x:=col+1) (by omega)];refine v.rd.ix rfl (by omega) (by rw [length_set];omega) λ_=>?_;refine v.st0 (x:=((jA xs).set col.toNat ⟨r,1,a⟩)[(col+1).toNat]'(by rw [length_set];omega)) (List.getElem?_eq_getElem _) (y:=⟨0,2,a⟩) rfl λw8 U V ac=>?_;refine G ?_ (q.grown V q.size λg k=>(b.lt g k).1);rw [q0t,if_pos rfl];exact U
  ·have c:=beq_eq_false_iff_ne.1 c;refine G ?_ f;rw [q0t,if_neg c];exact u)))
 refine cO (λI=>o (.inl (oTq I))) (λI=>?_);refine cO (λc=>o (.inr (.inl (oTq c)))) (λc=>?_);refine cO (λJ=>o (.inr (.inr (.inl (oTq J))))) (λJ=>?_);have I:=oFq I;have c:=oFq c;have J:=oFq J;rw [N,qM (by omega)];by_cases h4:col>(xs.length:Int)-width
 ·rw [dTq h4];exact o (.inr (.inr (.inr h4)))
 ·rw [dFq h4];exact E (by unfold qmo;omega)
theorem zd2 {l:Slc} {n:Nat} {col k:Int} {w:World} {K:Int->Ub} (hn:l.n=n) (hl:n<=1000000) (hK:K (qee n col k) w):VC l col k w K:=by
 refine qpo _ _ _ ?_;refine jpO λJ f=>?_;rw [hn];have a:(k<1\/col<0\/col>=n)->K 0 w:=λh=>by rwa [qee,if_pos h] at hK
 refine cO (λh=>a (.inl (oTq h))) (λb=>?_);refine cO (λh=>a (.inr (.inl (oTq h)))) (λc=>?_);refine cO (λh=>a (.inr (.inr (oTq h)))) (λd=>?_);have b:=oFq b;have c:=oFq c;have d:=oFq d;refine f _ _ ?_;rw [qee,if_neg (by omega)] at hK;rw [hn,qM (by omega)];have e:(if (n:Int)-col<k then (n:Int)-col else k)=min k (n-col):=by omega
 rw [e];exact hK
theorem zj3 {n:Int} {w:World} {K:Slc->Ub} (h0:0<=n) (hn:n<=1000000) (hK:∀r w',Go.Vc.Own zD w' w.heap.size r []->Uc w w'->K r w'):xC (⟨none,0,0⟩:Slc) n w K:=by
 refine Jh _ _ ?_;refine jpO λJ b=>?_;refine cF (by simpa using h0) (b _ _ ?_);have c:i64.wrap (n-(i64.wrap (((0:Nat):Int)-((0:Nat):Int))))=n:=by
  rw [qM (x:=((0:Nat):Int)-((0:Nat):Int)) (by omega),qM (by omega)];omega
 simp only [c];refine cO (λh=>?_) (λh=>?_)
 ·have h:=oTq h;refine yB (by omega) (by omega) (Zd ?_);refine q4k q8h (kk:=.i64) (by kernel_rfl) (n:=n.toNat) (by omega) (by omega) (by simp only [maxLen];omega) (by rw [zmi];omega) λa w' g i d f=>?_;refine yB (by omega) (by simp) (Zd ?_);have e:cut (some ⟨w.heap.size,0,none⟩) 0 a 5=some ⟨w.heap.size,0,none⟩:=by
   unfold cut;split
   ·rfl
   ·simp
  show K ⟨cut (some ⟨w.heap.size,0,none⟩) 0 a 5,0,a⟩ w';rw [e];exact hK _ _ d f
 ·exact hK _ _ (Go.Vc.Own.nil _ _ _) (Below.refl _ _)
def slE:El Slc where
 cells s:=[.slice s.a s.n s.c]
 t:=zA
 k:=1
 pos:=by decide
 len _:=rfl
 one x v hv:=by
  simp only [mem_cons,List.mem_nil_iff,or_false] at hv;rcases hv with rfl
  rfl
def zh3 (w:World) (ss:List Slc) (xss:List (List qZ)):Prop:=ss.length=xss.length/\∀(i:Nat) s xs,ss[i]?=some s->xss[i]?=some xs->Rd zD w s xs
theorem q9h (xss:List (List qZ)) (k:Nat):(xss.take k).flatten.length<=xss.flatten.length:=by
 conv=>rhs;rw [<-List.take_append_drop k xss]
 rw [List.flatten_append,length_append];omega
theorem qs7 {xss:List (List qZ)} {k:Nat} {xs:List qZ} (h:xss[k]?=some xs):(xss.take (k+1)).flatten=(xss.take k).flatten++xs:=by
 rw [List.take_add_one,h];simp
theorem qv0 {p:Slc} {ss:List Slc} {xss:List (List qZ)} {w:World} {K:Slc->Ub} (hp:Rd slE w p ss) (hss:zh3 w ss xss) (hl:xss.flatten.length<=1000000) (hn:ss.length<=1000000)
  (hK:∀r w',Go.Vc.Own zD w' w.heap.size r xss.flatten->Uc w w'->K r w'):jv p w K:=by
 refine Zp _ ?_;have c:=hp.n;obtain ⟨o,hss⟩:=hss;refine lpR (λ(s:Int×Int×Unit) w2=>∃k:Nat,s.2.1=k/\k<=ss.length/\s.1=((xss.take k).flatten.length:Nat)/\w2=w) (λs=>ss.length-s.2.1.toNat) ⟨0,rfl,by omega,rfl,rfl⟩ ?_;rintro ⟨t,i,_⟩ w2 ⟨k,rfl,D,rfl,rfl⟩ I hI;dsimp only at *;have d:=q9h xss;refine cO (λa=>?_) (λb=>?_)
 ·have a:=oTq a;rw [c] at a;have e:k<ss.length:=by omega
  have q:ss[k]?=some ss[k]:=List.getElem?_eq_getElem e;have h:xss[k]?=some (xss[k]'(by omega)):=List.getElem?_eq_getElem _;refine hp.ix rfl (by omega) (by omega) λu=>?_;refine lSl (x:=ss[k]) (by simpa using u 0 _ rfl) ?_;have v:=hss k _ _ q h;have y:=v.n;have j:=qs7 h;have l:=d (k+1);rw [j,length_append] at l;rw [y,qM (by omega)];refine cF (by simp;omega) ?_;rw [qM (by omega)];exact hI _ _ ⟨k+1,by simp,by omega,by rw [j];simp,rfl⟩ (by simp;omega)
 ·have b:=oFq b;rw [c] at b;have:k=ss.length:=by omega
  subst this;have l:=d ss.length;refine zj3 (by omega) (by omega) λg G z A=>?_;refine lpR (λ(s:Slc×Int×Unit) w4=>∃k:Nat,s.2.1=k/\k<=ss.length/\Go.Vc.Own zD w4 w2.heap.size s.1 ((xss.take k).flatten)/\Uc w2 w4) (λs=>ss.length-s.2.1.toNat) ⟨0,rfl,by omega,by simpa using z,A⟩ ?_;rintro ⟨t,i,_⟩ w4 ⟨k,rfl,D,m,f⟩ I2 hI2;dsimp only at *;refine cO (λa=>?_) (λb=>?_)
  ·have a:=oTq a;rw [c] at a;have e:k<ss.length:=by omega
   have q:ss[k]?=some ss[k]:=List.getElem?_eq_getElem e;have h:xss[k]?=some (xss[k]'(by omega)):=List.getElem?_eq_getElem _;refine (hp.ext f).ix rfl (by omega) (by omega) λu=>?_;refine lSl (x:=ss[k]) (by simpa using u 0 _ rfl) ?_;have v:=(hss k _ _ q h).ext f;have j:=qs7 h;have l:=d (k+1);rw [j,length_append] at l;refine jW q8h m v f.size (by rw [zmi];omega) (by simp only [maxLen];omega) λr H B C E=>?_;rw [qM (by omega)];exact hI2 _ _ ⟨k+1,by simp,by omega,by rw [j];exact B,f.grown C f.size λg F=>(m.lt g F).1⟩ (by simp;omega)
  ·have b:=oFq b;rw [c] at b;have:k=ss.length:=by omega
   subst this;rw [o,take_length] at m;exact hK _ _ m f
theorem qt8 {n:Nat} {col k:Int}:0<=qee n col k/\(qee n col k≠0->0<=col/\col+qee n col k<=n):=by
 unfold qee;split
 ·exact ⟨Int.le_refl _,λh=>absurd rfl h⟩
 ·exact ⟨by omega,λ_=>⟨by omega,by omega⟩⟩
theorem zoc {w:World} {a b c:Slc} {xs ys zs:List qZ} (ha:Rd zD w a xs) (hb:Rd zD w b ys) (hc:Rd zD w c zs):zh3 w [a,b,c] [xs,ys,zs]:=by
 refine ⟨rfl,λi s l d e=>?_⟩
 match i,d,e with
 | 0,d,e=>cases d;cases e;exact ha
 | 1,d,e=>cases d;cases e;exact hb
 | 2,d,e=>cases d;cases e;exact hc
 | i+3,d,e=>cases d
theorem zm9 {w:World} {a b:Slc} {xs ys:List qZ} (ha:Rd zD w a xs) (hb:Rd zD w b ys):zh3 w [a,b] [xs,ys]:=by
 refine ⟨rfl,λi s l c d=>?_⟩
 match i,c,d with
 | 0,c,d=>cases c;cases d;exact ha
 | 1,c,d=>cases c;cases d;exact hb
 | i+2,c,d=>cases c
theorem rd_lits {T:Type} {E:El T} {w:World} {g:Nat} {ys:List T} {vs:List Value} (hb:Blk w g E.t vs) (hm:ys.length<=maxLen) (hy:Qg E ys=vs):Rd E w ⟨some ⟨g,0,none⟩,ys.length,ys.length⟩ ys :=
 (Go.Vc.Own.of_blk (E:=E) (base:=0) (zero_le _) hb (le_refl _) hm (by rw [<-hy,vO]) (by rw [<-hy,List.take_of_length_le (by rw [vO];exact le_refl _)])).rd
theorem q9n {l:Slc} {xs:List qZ} {col k:Int} {a:yX} {w:World} {K:Slc->Ub} (h:Rd zD w l xs) (hl:xs.length<=10000)
  (hK:∀s w',Go.Vc.Own zD w' w.heap.size s (qj9 xs col k a)->Uc w w'->K s w'):JL l col k a w K:=by
 refine qll _ _ _ _ ?_;refine nwb λV B t L=>?_;refine qb0 (h.ext t) (by omega) λm A d u=>?_;have M:=j8 xs;have v:l.n=xs.length:=h.n;have f:Uc w A:=t.trans (u.mono (by omega));have C:=B.ext u;have d:Go.Vc.Own zD A w.heap.size m (jA xs):=d.base (by omega);obtain ⟨N,y⟩:=qt8 (n:=xs.length) (col:=col) (k:=k);refine zd2 v (by omega) ?_;unfold qj9 at hK;generalize qee xs.length col k=c at *;refine cO (λe=>?_) (λe=>?_)
 ·have e:=eq_of_beq e;simp only [if_pos e] at hK;exact hK _ _ d f
 ·have e:=beq_eq_false_iff_ne.1 e;simp only [if_neg e] at hK;obtain ⟨y,O⟩:=y e;refine d.rd.slK (l:=0) (m:=col.toNat) rfl (.inl ⟨rfl,rfl⟩) (.inr (by simp;omega)) (by omega) (by omega) λP=>?_;refine qz (x:=a) C.drew.cells ?_;rw [v,qM (by omega)];refine d.rd.slK (l:=col.toNat) (m:=xs.length-c.toNat) rfl (.inr (by simp;omega)) (.inr (by simp;omega)) (by omega) (by omega) λQ=>?_;refine qov (by omega) λb w4 D p=>?_;have i:Uc w w4:=f.drew.trans (p.mono f.size);refine nwb λJ F q R=>?_;have j:Uc w J:=i.trans (q.mono i.size);have o:Below A.drew.heap.size A.drew J:=p.trans (q.mono p.size);have S:=zoc (P.drew.ext o) (D.rd.ext q) (Q.drew.ext o);refine qv0 ?_ S ?_ (by simp) λr T G H=>?_
  ·exact rd_lits (E:=slE) (ys:=[_,_,_]) F (by simp [maxLen]) rfl
  ·simp only [List.flatten_cons,List.flatten_nil,length_append,length_nil,length_drop,List.length_take,List.length_replicate];omega
  have g:Uc w T:=j.trans (H.mono j.size);refine qb0 G.rd ?_ λs U z I=>?_
  ·simp only [List.flatten_cons,List.flatten_nil,length_append,length_nil,length_drop,List.length_take,List.length_replicate];omega
  refine hK s U ?_ (g.trans (I.mono g.size));simp only [List.flatten_cons,List.flatten_nil,append_nil,drop_zero,<-append_assoc] at z;exact z.base g.size
theorem q7n {l:Slc} {xs:List qZ} {cols:Int} {w:World} {K:Slc->Ub} (h:Rd zD w l xs) (hl:xs.length<=10000)
  (hK:∀s w',Go.Vc.Own zD w' w.heap.size s (ZF xs cols)->Uc w w'->K s w'):JK l cols w K:=by
 refine ql7 _ _ ?_;refine qb0 h (by omega) λm G j a=>?_;have q:=j8 xs;have o:m.n=xs.length:=by have:=j.rd.n;rwa [q] at this
 have x:(if (0:Int)>cols then (0:Int) else cols)=max 0 cols:=by omega
 have y:(if (1000:Int)<max 0 cols then (1000:Int) else max 0 cols)=min 1000 (max 0 cols):=by omega
 rw [x,y,o];unfold ZF at hK;have H:0<=min 1000 (max 0 cols):=by omega
 have z:min 1000 (max 0 cols)<=1000:=by omega
 generalize min 1000 (max 0 cols)=c at *;refine cO (λe=>?_) (λe=>?_)
 ·have e:=oTq e;simp only [if_pos e] at hK;refine j.rd.slK (l:=0) (m:=c.toNat) rfl (.inl ⟨rfl,rfl⟩) (.inr (by simp;omega)) (by omega) (by omega) λA=>?_;refine qb0 A ?_ λs t f g=>hK s t ?_ (a.trans (g.mono a.size))
  ·simp;omega
  ·rw [drop_zero] at f;exact f.base a.size
 ·have e:=oFq e;simp only [if_neg e] at hK;rw [qM (by omega)];refine qov (by omega) λb t f g=>?_;have i:Uc w t:=a.trans (g.mono a.size);refine nwb λB u k C=>?_;have d:Uc w B:=i.trans (k.mono i.size);have D:=zm9 ((j.rd.ext g).ext k) (f.rd.ext k);refine qv0 ?_ D ?_ (by simp) λr F p v=>?_
  ·exact rd_lits (E:=slE) (ys:=[_,_]) u (by simp [maxLen]) (by rw [<-o];rfl)
  ·simp only [List.flatten_cons,List.flatten_nil,length_append,length_nil,List.length_replicate];omega
  refine hK r F ?_ (d.trans (v.mono d.size));simp only [List.flatten_cons,List.flatten_nil,append_nil] at p;exact p.base d.size
def KK:El UInt8 where
 cells b:=[.int .u8 b.toNat]
 t:=qF
 k:=1
 pos:=by decide
 len _:=rfl
 one x v hv:=by
  simp only [mem_cons,List.mem_nil_iff,or_false] at hv;rcases hv with rfl
  rfl
def zit:El Int where
 cells r:=[.int .i32 r]
 t:=Qe
 k:=1
 pos:=by decide
 len _:=rfl
 one x v hv:=by
  simp only [mem_cons,List.mem_nil_iff,or_false] at hv;rcases hv with rfl
  rfl
noncomputable def q9r:SlT PG KK qj where
 ht:=by kernel_rfl
 i:=(PG.info? qF).getD default
 hi:=by kernel_rfl
 z:=.int .u8 0
 hz:=by kernel_rfl
 hs:=by kernel_rfl
 hzs:=rfl
theorem zj5:q9r.i.bytes=1:=by kernel_rfl
def qof (r:Int):Bool:=decide (0<=r) && decide (r<=1114111) && (decide (r<55296) || decide (r>57343))
def Kt:Nat->Int->List UInt8
 | 0,_=>[]
 | m+1,v=>u8 (128+v/64^m%64)::Kt m v
def q5j (v:Int):List UInt8 :=
 if v<128 then [u8 v] else if v<2048 then u8 (192+v/64)::Kt 1 v else if v<65536 then u8 (224+v/4096)::Kt 2 v else u8 (240+v/262144)::Kt 3 v
def q2b (r:Int):Int:=if qof r=true then r else 65533
def q0d (r:Int):List UInt8:=q5j (q2b r)
theorem zce (r:Int):qof (q2b r)=true:=by
 unfold q2b;split
 ·assumption
 ·decide
theorem Vu {r:Int}:qof r=true↔0<=r/\r<=1114111/\(r<55296\/r>57343):=by
 unfold qof;rw [Bool.and_eq_true,Bool.and_eq_true,Bool.or_eq_true,decide_eq_true_iff,decide_eq_true_iff,decide_eq_true_iff,decide_eq_true_iff,and_assoc]
theorem zlm {r:Int} {w:World} {K:Bool->Ub} (hK:K (qof r) w):qnp r w K:=by
 refine qww _ ?_;have d:qof r≠true->K false w:=λh=>by
  rwa [Bool.eq_false_iff.2 h] at hK
 refine cO (λa=>cO (λb=>cO (λc=>?_) (λc=>?_)) (λb=>?_)) (λa=>?_)
 ·have a:=oTq a;have b:=oTq b;have c:=oTq c
  rwa [Vu.2 ⟨a,b,.inl c⟩] at hK
 ·have a:=oTq a;have b:=oTq b;have c:=oFq c;by_cases h4:r>57343
  ·rw [Vu.2 ⟨a,b,.inr h4⟩] at hK
   rwa [dTq h4]
  ·rw [dFq h4];exact d λh=>by have:=Vu.1 h;omega
 ·have b:=oFq b;exact d λh=>by have:=Vu.1 h;omega
 ·have a:=oFq a;exact d λh=>by have:=Vu.1 h;omega
theorem q3u {x:Int} (h:-2147483648<=x/\x<=2147483647):i32.wrap x=x:=by
 rw [IntKind.wrap_i32];omega
theorem qyd (a:Nat) (ha:a<2147483648):(BitVec.ofInt 32 (a:Int)).toNat=a:=by
 rw [BitVec.toNat_ofInt];omega
theorem zph (a b:Nat) (ha:a<2147483648) (hb:b<2147483648):jN .or .i32 (a:Int) (b:Int)=((a ||| b:Nat):Int):=by
 show i32.wrap ((BitVec.ofInt 32 (a:Int) ||| BitVec.ofInt 32 (b:Int)).toNat:Int)=_;rw [BitVec.toNat_or,qyd a ha,qyd b hb];have:=Nat.or_lt_two_pow (n:=31) (x:=a) (y:=b) (by omega) (by omega);exact q3u (by omega)
theorem zov (a b:Nat) (ha:a<2147483648) (hb:b<2147483648):jN .and .i32 (a:Int) (b:Int)=((a &&& b:Nat):Int):=by
 show i32.wrap ((BitVec.ofInt 32 (a:Int) &&& BitVec.ofInt 32 (b:Int)).toNat:Int)=_;rw [BitVec.toNat_and,qyd a ha,qyd b hb];have:=Nat.and_lt_two_pow (n:=31) a (y:=b) (by omega);exact q3u (by omega)
theorem qn6 (i:Nat) (x y:Int) (hx0:0<=x) (hy0:0<=y) (hx:x.toNat%2^i=0) (hy:y.toNat<2^i) (hx1:x<2147483648) (hy1:y<2147483648):jN .or .i32 x y=x+y:=by
 obtain ⟨a,rfl⟩:=Int.eq_ofNat_of_zero_le hx0;obtain ⟨b,rfl⟩:=Int.eq_ofNat_of_zero_le hy0;rw [zph a b (by omega) (by omega),nat_join i a b (by simpa using hx) (by simpa using hy)];simp
theorem zi5 (x:Int) (hx0:0<=x) (hx1:x<2147483648):jN .and .i32 x 63=x%64:=by
 obtain ⟨a,rfl⟩:=Int.eq_ofNat_of_zero_le hx0;have:=zov a 63 (by omega) (by omega);rw [show ((63:Nat):Int)=63 from rfl] at this;rw [this,nat_mask6];omega
theorem zou {m:Nat} (hm:m<=3) {v:Int} (_hv:0<=v):v.fdiv (2^(min (i64.wrap (6*(m:Int))).toNat i32.bits))=v/64^m:=by
 rw [qM (by omega)];have a:(6*(m:Int)).toNat=6*m:=by omega
 have b:min (6*m) i32.bits=6*m:=by
  show min (6*m) 32=_;omega
 have c:(2:Int)^(6*m)=64^m:=by rw [Int.pow_mul];rfl
 rw [a,b,c];exact Int.fdiv_eq_ediv_of_nonneg _ (Int.le_of_lt (Int.pow_pos (by decide)))
theorem zlw {m:Nat} (hm:m<=3) {v:Int} (hv:0<=v) (hb:v<[128,2048,65536,2097152].getD m 0) :
  jN .or .i32 ([0,192,224,240].getD m 0) (v/64^m)=([0,192,224,240].getD m 0)+v/64^m:=by
 match m,hm with
 | 0,_ =>
  simp only [getD_cons_zero] at hb ⊢;simp only [Int.pow_zero,Int.ediv_one];exact qn6 7 0 v (by omega) hv (by decide) (by omega) (by omega) (by omega)
 | 1,_ =>
  simp only [List.getD_cons_succ,getD_cons_zero] at hb ⊢;exact qn6 5 192 _ (by omega) (by omega) (by decide) (by omega) (by omega) (by omega)
 | 2,_ =>
  simp only [List.getD_cons_succ,getD_cons_zero] at hb ⊢;exact qn6 4 224 _ (by omega) (by omega) (by decide) (by omega) (by omega) (by omega)
 | 3,_ =>
  simp only [List.getD_cons_succ,getD_cons_zero] at hb ⊢;exact qn6 3 240 _ (by omega) (by omega) (by decide) (by omega) (by omega) (by omega)
theorem zg4 (m:Nat) {v:Int} (hv:0<=v) (hb:v<=1114111):0<=v/64^m/\v/64^m<=1114111:=by
 have a:(0:Int)<64^m:=Int.pow_pos (by decide);exact ⟨Int.ediv_nonneg hv (Int.le_of_lt a),Int.le_trans (Int.ediv_le_self _ hv) hb⟩
theorem q6k {w:World} {g:Nat} {x:Int} (h:0<=x/\x<256) (hb:Blk w g qF [.int .u8 (IntKind.u8.wrap x)]):Rd KK w ⟨some ⟨g,0,none⟩,1,1⟩ [u8 x]:=by
 refine y9 (E:=KK) hb ?_;show [Value.int .u8 ((u8 x).toNat:Int)]=_;rw [qy9 h.1 h.2,IntWalk.u8_in _ (by omega)]
theorem q8t (v:Int):(q5j v).length<=4:=by
 unfold q5j;split
 ·simp
 ·split
  ·simp [Kt]
  ·split<;>simp [Kt]
theorem q76 {l:Slc} {xs:List Int} {w:World} {K:Slc->Ub} (h:Rd zit w l xs) (hl:xs.length<=100000)
  (hK:∀r w',Go.Vc.Own KK w' w.heap.size r (xs.flatMap q0d)->Uc w w'->K r w'):qkt l w K:=by
 refine qxi _ ?_;refine lpR (λ(s:Slc×Int×Unit) w2=>∃k:Nat,s.2.1=k/\k<=xs.length/\Go.Vc.Own KK w2 w.heap.size s.1 ((xs.take k).flatMap q0d)/\((xs.take k).flatMap q0d).length<=4*k/\Uc w w2)
  (λs=>xs.length-s.2.1.toNat) ⟨0,rfl,by omega,by simpa using Go.Vc.Own.nil _ _ _,by simp,Below.refl _ _⟩ ?_
 rintro ⟨s,i,_⟩ w2 ⟨k,rfl,hk,ho,hlen,hB⟩ I hI;dsimp only at *;refine cO (λhlt=>?_) (λhge=>?_)
 ·have hlt:=oTq hlt;rw [h.n] at hlt;have hkl:k<xs.length:=by omega
  obtain ⟨x,hx⟩:∃x,xs[k]?=some x:=⟨xs[k],List.getElem?_eq_getElem hkl⟩;have htake:xs.take (k+1)=xs.take k++[x]:=by
   rw [List.take_add_one,hx];rfl
  refine (h.ext hB).ix rfl (by omega) (by omega) λhc=>?_;have hxs:xs[((k:Int)).toNat]'(by omega)=x:=by
   have:=List.getElem?_eq_getElem hkl;rw [hx] at this;exact (Option.some.inj this).symm
  rw [hxs] at hc;refine lI (x:=x) (by have:=hc 0 _ rfl;rwa [add_zero] at this) ?_;refine jpO λJ2 hJ2=>?_;have main:J2 (q2b x,()) w2:=hJ2 _ _ (by
   dsimp only;obtain ⟨hv0,hv1,_⟩:=Vu.1 (zce x);have henc:q0d x=q5j (q2b x):=rfl;generalize q2b x=v at *;refine jpO λJ3 hJ3=>?_;have go:∀m:Nat,m<=3->v<[128,2048,65536,2097152].getD m 0->q5j v=u8 (([0,192,224,240].getD m 0)+v/64^m)::Kt m v->J3 ((m:Int),[0,192,224,240].getD m 0,()) w2:=λm hm hb he=>hJ3 _ _ (by
    dsimp only;rw [zou hm hv0,zlw hm hv0 hb];refine ⟨by rw [qM (by omega)];omega,?_⟩;have hlead:0<=([0,192,224,240].getD m 0)+v/64^m/\([0,192,224,240].getD m 0)+v/64^m<256:=by
     match m,hm with
     | 0,_=>simp only [getD_cons_zero] at hb ⊢;simp only [Int.pow_zero,Int.ediv_one];omega
     | 1,_=>simp only [List.getD_cons_succ,getD_cons_zero] at hb ⊢;omega
     | 2,_=>simp only [List.getD_cons_succ,getD_cons_zero] at hb ⊢;omega
     | 3,_=>simp only [List.getD_cons_succ,getD_cons_zero] at hb ⊢;omega
    generalize ([0,192,224,240].getD m 0)+v/64^m=hd at *;refine nwb λw3 hb3 hB3 hs3=>?_;refine jW q9r (ho.ext hB3) (q6k hlead hb3) (by have:=hB.size;omega) (by rw [zj5];simp only [length_cons,length_nil];omega) (by simp only [maxLen,length_cons,length_nil];omega) λr w4 ho4 hg4 hr4=>?_;have hB4:Uc w w4:=(hB.trans (hB3.mono hB.size)).grown hg4 (by have:=hB.size;omega) λg hg=>((ho.ext hB3).lt g hg).1;refine lpR (λ(s3:Slc×Int×Unit) w6=>∃j:Nat,j<=m/\s3.2.1=(j:Int)-1/\∃done:List UInt8,done++Kt j v=u8 hd::Kt m v/\done.length<=4/\Go.Vc.Own KK w6 w.heap.size s3.1 ((xs.take k).flatMap q0d++done)/\Uc w w6)
     (λs3=>(s3.2.1+1).toNat) ⟨m,le_refl _,by rw [qM (by omega)],[u8 hd],rfl,by simp,ho4,hB4⟩ ?_
    rintro ⟨s3,i3,_⟩ w6 ⟨j,hj,rfl,done,hdone,hdl,ho6,hB6⟩ I4 hI4;dsimp only at *;refine cO (λh0=>?_) (λh0=>?_)
    ·have h0:=oTq h0;obtain ⟨j,rfl⟩:∃j',j=j'+1:=⟨j-1,by omega⟩;have ej:((j+1:Nat):Int)-1=(j:Int):=by omega
     rw [ej] at h0 ⊢;rw [zou (by omega) hv0];obtain ⟨hq0,hq1⟩:=zg4 j hv0 hv1;rw [zi5 _ hq0 (by omega),qn6 6 128 _ (by omega) (by omega) (by decide) (by omega) (by omega) (by omega)];refine ⟨by rw [qM (by omega)];omega,?_⟩;refine nwb λw7 hb7 hB7 hs7=>?_;have hdl':done.length+(Kt (j+1) v).length<=4:=by
      have:=congrArg List.length hdone;rw [length_append] at this;rw [this]
      match m,hm with
      | 0,_=>simp [Kt]
      | 1,_=>simp [Kt]
      | 2,_=>simp [Kt]
      | 3,_=>simp [Kt]
     simp only [Kt,length_cons] at hdl';refine jW q9r (ho6.ext hB7) (q6k (by omega) hb7) (by have:=hB6.size;omega) (by rw [zj5];simp only [length_append,length_cons,length_nil];omega) (by simp only [maxLen,length_append,length_cons,length_nil];omega) λr' w8 ho8 hg8 hr8=>?_;rw [qM (by omega)];refine hI4 (r',(j:Int)-1,()) w8 ⟨j,by omega,rfl,done++[u8 (128+v/64^j%64)],by rw [<-hdone];simp [Kt],by simp;omega,?_,?_⟩ (by simp)
     ·rw [<-append_assoc];exact ho8
     ·exact (hB6.trans (hB7.mono hB6.size)).grown hg8 (by have:=hB6.size;omega) λg hg=>((ho6.ext hB7).lt g hg).1
    ·have h0:=oFq h0;have hj0:j=0:=by omega
     subst hj0;rw [Kt,append_nil] at hdone;rw [qM (by omega)];have hfl:(xs.take (k+1)).flatMap q0d=(xs.take k).flatMap q0d++done:=by
      rw [htake,List.flatMap_append,hdone,<-he,<-henc];simp
     refine hI (s3,(k:Int)+1,()) w6 ⟨k+1,by simp,by omega,?_,?_,hB6⟩ (by simp;omega)
     ·rw [hfl];exact ho6
     ·rw [hfl,length_append];omega)
   refine jpO λJ5 hJ5=>?_;have j5:∀m:Nat,m<=2->J3 (((m+1:Nat):Int),[0,192,224,240].getD (m+1) 0,()) w2->J5 ((m:Int),[0,0,32,48].getD (m+1) 0,()) w2:=λm hm h3=>hJ5 _ _ (by
    dsimp only;rw [qM (by omega)]
    match m,hm with
    | 0,_=>exact h3
    | 1,_=>exact h3
    | 2,_=>exact h3)
   refine jpO λJ6 hJ6=>?_;refine cO (λh4=>?_) (λh4=>cO (λh3=>?_) (λh3=>cO (λh2=>?_) (λh2=>?_)))
   ·have h4:=oTq h4;refine hJ6 _ _ (j5 2 (by omega) (go 3 (by omega) (by simp only [List.getD_cons_succ,getD_cons_zero];omega) ?_));unfold q5j;rw [if_neg (by omega),if_neg (by omega),if_neg (by omega)];rfl
   ·have h4:=oFq h4;have h3:=oTq h3;refine hJ6 _ _ (j5 1 (by omega) (go 2 (by omega) (by simp only [List.getD_cons_succ,getD_cons_zero];omega) ?_));unfold q5j;rw [if_neg (by omega),if_neg (by omega),if_pos (by omega)];rfl
   ·have h3:=oFq h3;have h2:=oTq h2;refine j5 0 (by omega) (go 1 (by omega) (by simp only [List.getD_cons_succ,getD_cons_zero];omega) ?_);unfold q5j;rw [if_neg (by omega),if_pos (by omega)];rfl
   ·have h2:=oFq h2;refine go 0 (by omega) (by simp only [getD_cons_zero];omega) ?_;unfold q5j;rw [if_pos (by omega)];simp [Kt])
  refine zlm ?_;refine cO (λhn=>?_) (λhn=>?_)
  ·have hn:qof x=false:=by simpa using hn
   have:q2b x=65533:=by rw [q2b,if_neg (by rw [hn];decide)]
   rw [this] at main;exact main
  ·have hn:qof x=true:=by simpa using hn
   have:q2b x=x:=by rw [q2b,if_pos hn]
   rw [this] at main;exact main
 ·have hge:=oFq hge;rw [h.n] at hge;have:k=xs.length:=by omega
  subst this;rw [take_length] at ho;exact hK s w2 ho hB
end Go.Proofs.YtjhgepnpnapnoaaGreatDoor
