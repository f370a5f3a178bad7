import Derived.KernelRfl
import Derived.WalkKit
import Derived.Orders
import Derived.OrdersHeld
import Derived.Scope
import Derived.WalkSpells
import Derived.Laws.StructEq
import Derived.ChangeKeysEq
namespace Go.Vc
open Builtin (append_)
open _root_.List (all_eq_true mem_cons mem_range)
open Region (noSelect_spec)
open Result (andThen_ok)
open Sem (run_bind)
structure Slc where
 a:Option Addr
 n:Nat
 c:Nat
structure Rep where
 T:Type
 cells:T->List Value
 get:List Value->Option T
 ok:∀l c,get l=some c->cells c=l:=by intro l c h;split at h <;> first | (injection h with h;subst h;rfl) | cases h
inductive Kind where
 | bool | int (k:IntKind) | string | ptr | slice | map | raw | addr
 | struct (r:Rep)
def Kind.T:Kind->Type
 | .bool=>Bool | .int _=>Int | .string=>ByteArray | .ptr=>Option Addr | .slice=>Slc | .map=>Option Nat | .raw=>Value | .addr=>Addr
 | .struct r=>r.T
def Kind.enc:(k:Kind)->k.T->Value
 | .bool,b=>.bool b
 | .int k,n=>.int k n
 | .string,s=>.string s
 | .ptr,p=>.pointer p
 | .slice,s=>.slice s.a s.n s.c
 | .map,m=>.map m
 | .raw,v=>v
 | .addr,p=>.pointer (some p)
 | .struct r,c=>.agg (r.cells c).toArray
def zlf:Value->Option Bool
 | .bool b=>some b
 | _=>none
def zof (k:IntKind):Value->Option Int
 | .int j n=>cond (decide (j=k)) (some n) none
 | _=>none
def zgd:Value->Option ByteArray
 | .string b=>some b
 | _=>none
def znj:Value->Option (Option Addr)
 | .pointer b=>some b
 | _=>none
def zk5:Value->Option Addr
 | .pointer b=>b
 | _=>none
def zhu:Value->Option Slc
 | .slice a n c=>some ⟨a,n,c⟩
 | _=>none
def znl:Value->Option (Option Nat)
 | .map b=>some b
 | _=>none
def znw (r:Rep):Value->Option r.T
 | .agg cs=>r.get cs.toList
 | _=>none
def Kind.get:(k:Kind)->Value->Option k.T
 | .bool=>zlf
 | .int k=>zof k
 | .string=>zgd
 | .ptr=>znj
 | .slice=>zhu
 | .map=>znl
 | .raw=>some
 | .addr=>zk5
 | .struct r=>znw r
theorem Kind.get_enc {k:Kind} {v:Value} {x:k.T} (h:k.get v=some x):v=k.enc x:=by
 cases k with
 | bool=>cases v<;>first | (injection h with h;subst h;rfl) | cases h
 | int k =>
  cases v with
  | int j n =>
   by_cases hj:j=k
   ·subst hj;have h':cond (decide (j=j)) (some n) none=some x:=h;rw [decide_eq_true rfl] at h';injection h' with h'
    subst h';rfl
   ·have h':cond (decide (j=k)) (some n) none=some x:=h;rw [decide_eq_false hj] at h';cases h'
  | _=>cases h
 | string=>cases v<;>first | (injection h with h;subst h;rfl) | cases h
 | ptr=>cases v<;>first | (injection h with h;subst h;rfl) | cases h
 | slice=>cases v<;>first | (injection h with h;subst h;rfl) | cases h
 | map=>cases v<;>first | (injection h with h;subst h;rfl) | cases h
 | raw=>injection h
 | addr =>
  cases v with
  | pointer b =>
   have h:b=some x:=h;subst h;rfl
  | _=>cases h
 | struct r =>
  cases v with
  | agg cs =>
   have:=r.ok _ _ (show r.get cs.toList=some x from h);show Value.agg cs=Value.agg (r.cells x).toArray;rw [this]
  | _=>cases h
abbrev Fr:=List (Option Value)
def ev (fr:Fr):Operand->Option Value
 | .tmp t=>fr.getD t none
 | .const v=>some v
 | .global g=>some (.pointer (some ⟨g,0,none⟩))
 | .func f=>some (.func (.func f) #[] #[])
def evV (fr:Fr) (x:Operand):Value:=(ev fr x).getD undef
def qm0 (fr:Fr) (dst:Option Tmp) (v:Option Value):Fr :=
 match dst with
 | some d=>fr.set d v
 | none=>fr
structure Agree (fr:Fr) (a:Act):Prop where
 len:fr.length=a.tmps.size
 at_:∀(i:Nat) (v:Value),fr[i]?=some (some v)->a.tmps[i]?=some v
 nod:a.defers=[]
theorem Agree.getD {fr:Fr} {a:Act} (h:Agree fr a) {t:Nat} {v:Value} (hv:fr.getD t none=some v):a.tmps.getD t undef=v:=by
 rw [List.getD_eq_getElem?_getD] at hv;cases hx:fr[t]? with
 | none=>simp [hx] at hv
 | some u =>
  simp [hx] at hv;subst hv;have:=h.at_ t v hx;simp [Array.getD_eq_getD_getElem?,this]
theorem Agree.ev {fr:Fr} {a:Act} (h:Agree fr a) {x:Operand} {v:Value} (hv:ev fr x=some v):a.eval x=v:=by
 cases x with
 | tmp t=>exact h.getD hv
 | const u=>simpa [Vc.ev,Act.eval] using hv
 | global g=>simpa [Vc.ev,Act.eval] using hv
 | func f=>simpa [Vc.ev,Act.eval] using hv
def q00 (ov:Option Value) (v:Value):Prop:=∀u,ov=some u->u=v
theorem q00.none (v:Value):q00 none v:=λ_ h=>by cases h
theorem q00.some (v:Value):q00 (some v) v:=λ_ h=>by cases h;rfl
theorem Agree.fits {fr:Fr} {a:Act} (h:Agree fr a) (x:Operand):q00 (Vc.ev fr x) (a.eval x):=λ_ hu=>(h.ev hu).symm
theorem Agree.put {fr:Fr} {a:Act} (h:Agree fr a) {dst:Option Tmp} {ov:Option Value} {v:Value} (hv:q00 ov v) :
  Agree (qm0 fr dst ov) (a.put dst v):=by
 cases dst with
 | none=>exact h
 | some d =>
  refine ⟨by simp [qm0,Act.put,h.len],λi u hu=>?_,h.nod⟩;simp only [qm0,Act.put] at hu ⊢;by_cases hi:i=d
  ·subst hi;by_cases hl:i<fr.length
   ·rw [List.getElem?_set_self hl] at hu;have e:=hv u (Option.some.inj hu);subst e;have hl':i<a.tmps.size:=by rw [<-h.len];exact hl
    simp [hl']
   ·rw [List.getElem?_eq_none (by simpa using hl)] at hu;cases hu
  ·rw [List.getElem?_set_ne (Ne.symm hi)] at hu;rw [Array.getElem?_setIfInBounds_ne (Ne.symm hi)];exact h.at_ i u hu
def known (fr:Fr) (o:Oper):Bool:=o.op.operands.all λx=>(ev fr x).isSome
theorem Agree.known {fr:Fr} {a:Act} (h:Agree fr a) {o:Oper} (hk:known fr o=true) (x:Operand) (hx:x∈o.op.operands):evV fr x=a.eval x:=by
 have:=Array.all_eq_true_iff_forall_mem.1 hk x hx;obtain ⟨v,hv⟩:=Option.isSome_iff_exists.1 this;simp [evV,hv,h.ev hv]
def qi4 {α:Type} (P:Program):Sem α->Option α
 | .pure a=>some a
 | .program k=>qi4 P (k P)
 | _=>none
theorem Xq {α:Type} {P:Program} (m:Sem α) {v:α} (h:qi4 P m=some v) (w:World):m.run P w=.ok v w:=by
 induction m with
 | pure a=>simp only [qi4,Option.some.injEq] at h;subst h;rfl
 | program k ih=>exact ih P h
 | _=>simp [qi4] at h
def qvb {α:Type} (P:Program):Sem α->World->Option (α×World)
 | .pure a,w=>some (a,w)
 | .program k,w=>qvb P (k P) w
 | .new o k,w=>qvb P (k w.heap.size) (w.alloc o)
 | _,_=>none
theorem zcn {α:Type} {P:Program} (m:Sem α) {v:α}:∀{w w':World},qvb P m w=some (v,w')->m.run P w=.ok v w':=by
 induction m with
 | pure a=>intro w w' h;simp only [qvb,Option.some.injEq,Prod.mk.injEq] at h;obtain ⟨rfl,rfl⟩:=h;rfl
 | program k ih=>intro w w' h;exact ih P h
 | new o k ih=>intro w w' h;exact ih _ h
 | _=>intro w w' h;simp [qvb] at h
def qhw (b:Bool) (X:Prop):Prop:=cond b X False
theorem vE {b:Bool} {X:Prop} (h:qhw b X):b=true/\X:=by cases b<;>simp_all [qhw]
def qH (p:Option Addr) (K:Addr->Prop):Prop :=
 match p with
 | some a=>K a
 | none=>False
theorem qra {p:Option Addr} {K:Addr->Prop} (h:qH p K):∃a,p=some a/\K a:=by
 cases p with
 | none=>exact h.elim
 | some a=>exact ⟨a,rfl,h⟩
@[simp] theorem onPtr_some (a:Addr) (K:Addr->Prop):qH (some a) K=K a:=rfl
structure Cx where
 P:Program
 reg:TypeId->Option Rep
 plain:Nat->Bool
 ents:Nat->Option (List Kind):=λ_=>none
def Cx.ent (C:Cx) (e:Nat->Option (List Kind)):Cx:={ C with ents:=e }
def Cx.one (C:Cx) (t:TypeId):Option Kind :=
 match C.P.underlying t with
 | some .bool=>some .bool
 | some (.int k)=>some (.int k)
 | some .string=>some .string
 | some (.pointer _)=>some .ptr
 | some .unsafePointer=>some .ptr
 | some (.slice _)=>some .slice
 | some (.map _ _)=>some .map
 | some (.func _ _ _)=>some .raw
 | some (.interface _)=>some .raw
 | _=>none
def Cx.kind (C:Cx) (t:TypeId):Option Kind :=
 match C.reg t with
 | some r=>some (.struct r)
 | none=>C.one t
def zmu (C:Cx):List TypeId->Option (List Kind)
 | []=>some []
 | t::r=>match C.kind t,zmu C r with
  | some k,some ks=>some (k::ks)
  | _,_=>none
def cut (a:Option Addr) (l m size:Nat):Option Addr:=if m=l then a else a.map (·.add (l*size))
def bnd (x:Option Int) (y d:Nat) (K:Nat->Prop):Prop :=
 match x with
 | some i=>(0<=i/\i<=y)/\K i.toNat
 | none=>K d
def qpy (fr:Fr):Option Operand->Option (Option Int)
 | none=>some none
 | some x=>match ev fr x with
  | some (.int _ n)=>some (some n)
  | _=>none
def zl4 (C:Cx) (fr:Fr) (o:Oper) (K:Option Value->Prop):Prop :=
 match known fr o with
 | true=>match qi4 C.P (execOp (evV fr) o) with
  | some (.value v)=>K (some v)
  | _=>False
 | false=>False
def YH (C:Cx) (t:TypeId):Option Nat:=(C.P.info? t).map (·.size)
def qv7 (P:Program) (t:TypeId) (cs:Array Value) (off:Nat):Option Value :=
 match P.underlying t,P.info? t with
 | some (.struct _),some i=>some (.agg (cs.extract off (off+i.size)))
 | some (.array _ _),some i=>some (.agg (cs.extract off (off+i.size)))
 | some (.array _ _),none=>none
 | some _,_=>cs[off]?
 | none,_=>none
def zgc (E:TypeId->Value->Value->Option Bool) (P:Program) (xs ys:Array Value):List Field->Option Bool
 | []=>some true
 | f :: fs => match f.name == "_" with
  | true=>zgc E P xs ys fs
  | false=>match qv7 P f.type xs f.offset,qv7 P f.type ys f.offset with
   | some a,some b=>match E f.type a b,zgc E P xs ys fs with
    | some r,some s=>some (r && s)
    | _,_=>none
   | _,_=>none
def zgu (E:TypeId->Value->Value->Option Bool) (P:Program) (e:TypeId) (c:Nat) (xs ys:Array Value):List Nat->Option Bool
 | []=>some true
 | i::is=>match qv7 P e xs (i*c),qv7 P e ys (i*c) with
  | some a,some b=>match E e a b,zgu E P e c xs ys is with
   | some r,some s=>some (r && s)
   | _,_=>none
  | _,_=>none
def eqV (P:Program):Nat->TypeId->Value->Value->Option Bool
 | 0,_,_,_=>none
 | d+1,t,x,y=>match P.underlying t,x,y with
  | some .bool,.bool a,.bool b=>some (a==b)
  | some (.int _),.int k a,.int j b=>cond (decide (k=j)) (some (a==b)) none
  | some .string,.string a,.string b=>some (a.toList==b.toList)
  | some (.struct _),.agg xs,.agg ys=>match P.stoodInHeld t with
   | false=>zgc (eqV P d) P xs ys (P.fieldsOf t).toList
   | true=>none
  | some (.array n e),.agg xs,.agg ys=>match P.info? e with
   | some _=>zgu (eqV P d) P e (P.cellsOf e) xs ys (List.range n)
   | none=>none
  | _,_,_=>none
def qys:Operand->Bool
 | .const (.pointer none)=>true
 | _=>false
theorem qwb {x:Operand} (h:qys x=true):x=.const (.pointer none):=by
 cases x with
 | const v =>
  cases v with
  | pointer p=>cases p with
   | none=>rfl
   | some a=>cases h
  | _=>cases h
 | _=>cases h
def zcr (p q:Option Addr) (K:Bool->Prop):Prop:=(∀a b,p=some a->q=some b->a.block=b.block)/\K (decide (p=q))
def znr (C:Cx) (fr:Fr) (o:Oper) (op:BinOp) (t:TypeId) (x y:Operand) (K:Option Value->Prop):Prop :=
 match op,ev fr x,ev fr y with
 | .eql,some (.pointer p),some (.pointer q)=>match qys y with
  | true=>match C.P.underlying t with
   | some (.pointer _)=>K (some (.bool p.isNone))
   | _=>False
  | false=>match C.P.underlying t with
   | some (.pointer e)=>match YH C e with
    | some (_+1)=>zcr p q λr=>K (some (.bool r))
    | _=>False
   | _=>False
 | .neq,some (.pointer p),some (.pointer q)=>match qys y with
  | true=>match C.P.underlying t with
   | some (.pointer _)=>K (some (.bool !p.isNone))
   | _=>False
  | false=>match C.P.underlying t with
   | some (.pointer e)=>match YH C e with
    | some (_+1)=>zcr p q λr=>K (some (.bool !r))
    | _=>False
   | _=>False
 | .eql,some (.slice a _ _),some (.slice none _ _)=>match C.P.underlying t with
  | some (.slice _)=>K (some (.bool a.isNone))
  | _=>False
 | .neq,some (.slice a _ _),some (.slice none _ _)=>match C.P.underlying t with
  | some (.slice _)=>K (some (.bool !a.isNone))
  | _=>False
 | .eql,some (.map r),some (.map none)=>match C.P.underlying t with
  | some (.map _ _)=>K (some (.bool r.isNone))
  | _=>False
 | .neq,some (.map r),some (.map none)=>match C.P.underlying t with
  | some (.map _ _)=>K (some (.bool !r.isNone))
  | _=>False
 | .eql,some (.agg xs),some (.agg ys)=>match C.P.eqGuardType C.P.depth t,eqV C.P 8 t (.agg xs) (.agg ys) with
  | false,some b=>K (some (.bool b))
  | _,_=>False
 | .neq,some (.agg xs),some (.agg ys)=>match C.P.eqGuardType C.P.depth t,eqV C.P 8 t (.agg xs) (.agg ys) with
  | false,some b=>K (some (.bool !b))
  | _,_=>False
 | .add,some (.string a),some (.string b)=>(((a.size+b.size:Nat):Int)<=9223372036854775807)/\K (some (.string (a++b)))
 | .quo,some (.int k a),some (.int j b)=>qhw (decide (k=j)) (b≠0/\K (some (.int k (k.wrap (a.tdiv b)))))
 | .rem,some (.int k a),some (.int j b)=>qhw (decide (k=j)) (b≠0/\K (some (.int k (a.tmod b))))
 | .shl,some (.int k a),some (.int _ b)=>0<=b/\K (some (.int k (k.wrap (a*2^(min b.toNat k.bits)))))
 | .shr,some (.int k a),some (.int _ b)=>0<=b/\K (some (.int k (a.fdiv (2^(min b.toNat k.bits)))))
 | _,_,_=>zl4 C fr o K
def zdr (P:Program) (e:TypeId) (sz:Nat) (cs:Array Value) (i:Int) (K:Option Value->Prop):Nat->Nat->Prop
 | 0,_=>False
 | n+1,j=>cond (decide (i=(j:Int))) (match qv7 P e cs (j*sz) with | some v=>K (some v) | none=>False) (zdr P e sz cs i K n (j+1))
def q3p (C:Cx) (fr:Fr) (o:Oper) (K:Option Value->Prop):Prop :=
 match o.op with
 | .move x=>K (ev fr x)
 | .assign x=>K (ev fr x)
 | .pick c a b=>match ev fr c with
  | some (.bool t)=>cond t (K (ev fr a)) (K (ev fr b))
  | _=>False
 | .nilCheck x=>match ev fr x with
  | some (.pointer p)=>qH p λa=>K (some (.pointer (some a)))
  | some (.func (.func f) x y)=>K (some (.func (.func f) x y))
  | _=>False
 | .indexAddr t x i=>match C.P.underlying t,ev fr x,ev fr i with
  | some (.slice e),some (.slice b n _),some (.int _ i)=>match YH C e with
   | some sz=>qH b λa=>(0<=i/\i<n)/\K (some (.pointer (some (a.add (i.toNat*sz)))))
   | none=>False
  | some (.array n e),some (.pointer (some a)),some (.int _ i)=>match YH C e with
   | some sz=>(0<=i/\i<n)/\K (some (.pointer (some (a.add (i.toNat*sz)))))
   | none=>False
  | _,_,_=>False
 | .index t x i=>match C.P.underlying t,ev fr x,ev fr i with
  | some .string,some (.string s),some (.int _ i)=>(0<=i/\i<s.size)/\K (some (.int .u8 (s.data.getD i.toNat 0).toNat))
  | some (.array n e),some (.agg cs),some (.int _ i)=>match YH C e with
   | some sz=>zdr C.P e sz cs i K n 0
   | none=>False
  | _,_,_=>False
 | .slice t x lo hi mx=>match C.P.underlying t,ev fr x,qpy fr lo,qpy fr hi,qpy fr mx with
  | some (.slice e),some (.slice a n c),some lo,some hi,some none=>match YH C e with
   | some sz=>bnd hi c n λh=>bnd lo h 0 λl=>K (some (.slice (cut a l c sz) (h-l) (c-l)))
   | none=>False
  | some (.slice e),some (.slice a _ c),some lo,some (some hi),some (some mx)=>match YH C e with
   | some sz=>bnd (some mx) c c λm=>bnd (some hi) m m λh=>bnd lo h 0 λl=>K (some (.slice (cut a l m sz) (h-l) (m-l)))
   | none=>False
  | some (.array n e),some (.pointer (some a)),some lo,some hi,some none=>match YH C e with
   | some sz=>bnd hi n n λh=>bnd lo h 0 λl=>K (some (.slice (some (if n=l then a else a.add (l*sz))) (h-l) (n-l)))
   | none=>False
  | some .string,some (.string s),some lo,some hi,some none=>bnd hi s.size s.size λh=>bnd lo h 0 λl=>K (some (.string (s.extract l h)))
  | _,_,_,_,_=>False
 | .binOp op t x y _=>znr C fr o op t x y K
 | .sliceToArrayPointer t x=>match C.P.underlying t,ev fr x with
  | some (.array n _),some (.slice b l _)=>qH b λa=>(n<=l)/\K (some (.pointer (some a)))
  | _,_=>False
 | _=>zl4 C fr o K
theorem qz9 {C:Cx} {fr:Fr} {a:Act} {o:Oper} {K:Option Value->Prop} (hs:∀cs b,o.op≠.select cs b) (ha:Agree fr a) (h:zl4 C fr o K) :
  ∃v ov,(∀w,(execOp a.eval o).run C.P w=.ok (.value v) w)/\q00 ov v/\K ov:=by
 unfold zl4 at h;cases hk:known fr o with
 | false=>rw [hk] at h;exact h.elim
 | true =>
  rw [hk] at h;dsimp only at h;have e:execOp (evV fr) o=execOp a.eval o:=execOp_congr o hs λx hx=>ha.known hk x hx;rw [e] at h;cases hr:qi4 C.P (execOp a.eval o) with
  | none=>rw [hr] at h;exact h.elim
  | some n =>
   rw [hr] at h;cases n with
   | value v=>exact ⟨v,some v,λw=>Xq _ hr w,.some v,h⟩
   | _=>exact h.elim
theorem xU {P:Program} {ρ:Operand->Value} {o:Oper} {op:BinOp} {t yt:TypeId} {x y:Operand} (ho:o.op=.binOp op t x y yt) {v:Value} {w:World}
  (hg:(eqGuard op t x y (ρ x) (ρ y)).run P w=.ok () w) (hb:(binOp op t (ρ x) (ρ y)).run P w=.ok v w):(execOp ρ o).run P w=.ok (.value v) w:=by
 unfold execOp;simp only [ho];simp [hg,hb]
theorem q1e {P:Program} {t e:TypeId} (h:P.underlying t=some (.pointer e)):P.underlying t=some (.pointer (P.pointee t)):=by
 rw [h];simp [Program.pointee,h]
theorem X9 {C:Cx} {e:TypeId} {sz:Nat} (h:YH C e=some sz) (w:World):(sizeOf e).run C.P w=.ok sz w:=by
 unfold YH at h;cases hi:C.P.info? e with
 | none=>simp [hi] at h
 | some i =>
  simp [hi] at h;simp [sizeOf,typeInfo,hi,h]
theorem qsj {C:Cx} {t e:TypeId} {n:Nat} (ht:C.P.underlying t=some (.pointer e)) (hs:YH C e=some (n+1)) {p q:Option Addr} (h:∀a b,p=some a->q=some b->a.block=b.block) (d:Nat) (w:World) :
  (Op.equalIn (d+1) t (.pointer p) (.pointer q)).run C.P w=.ok (decide (p=q)) w:=by
 cases p with
 | none=>cases q<;>simp [Op.equalIn,run_underlying ht]
 | some a =>
  cases q with
  | none=>simp [Op.equalIn,run_underlying ht]
  | some b =>
   have hb:=h a b rfl rfl;have hd:(a==b)=decide (a=b):=by by_cases e:a=b<;>simp [e]
   simp [Op.equalIn,run_underlying ht,X9 hs,sameAddr,hb,hd]
theorem qk8 {C:Cx} {t e:TypeId} {n:Nat} (ht:C.P.underlying t=some (.pointer e)) (hs:YH C e=some (n+1)) {p q:Option Addr} (h:∀a b,p=some a->q=some b->a.block=b.block) (w:World) :
  (Op.equal t (.pointer p) (.pointer q)).run C.P w=.ok (decide (p=q)) w:=qsj ht hs h 9999 w
theorem q9a {P:Program} {t:TypeId} {fs:Array Field} (h:P.underlying t=some (.struct fs)):P.underlying t=some (.struct (P.fieldsOf t)):=by
 rw [h];simp [Program.fieldsOf,h]
theorem qgw {P:Program} {t:TypeId} {cs:Array Value} {off:Nat} {v:Value} (h:qv7 P t cs off=some v) (w:World):(part t cs off).run P w=.ok v w:=by
 unfold qv7 at h;split at h
 ·rename_i fs i ht hi;injection h with h
  subst h;simp [part,isAgg,run_underlying ht,sizeOf,typeInfo,hi]
 ·rename_i n e i ht hi;injection h with h
  subst h;simp [part,isAgg,run_underlying ht,sizeOf,typeInfo,hi]
 ·cases h
 ·rename_i d ht hst hsa hsn;have hd:(isAgg t).run P w=.ok false w:=by
   cases d with
   | struct fs =>
    cases hi:P.info? t with
    | none=>simp [Program.underlying,hi] at ht
    | some i=>exact (hst fs i hi rfl).elim
   | array n e =>
    cases hi:P.info? t with
    | none=>simp [Program.underlying,hi] at ht
    | some i=>exact (hsa n e i hi rfl).elim
   | _=>simp [isAgg,run_underlying ht]
  simp [part,hd,h]
 ·cases h
theorem zh4 {P:Program} {E:TypeId->Value->Value->Option Bool} {D:Nat} (hE:∀t x y b,E t x y=some b->∀w,(Op.equalIn D t x y).run P w=.ok b w) (xs ys:Array Value) :
  ∀(fs:List Field) (b:Bool),zgc E P xs ys fs=some b->∀w,(Op.eqFields D xs ys fs).run P w=.ok b w:=by
 intro fs
 induction fs with
 | nil=>intro b h w;simp only [zgc,Option.some.injEq] at h;subst h;simp [Op.eqFields]
 | cons f fs ih =>
  intro b h w;unfold zgc at h;split at h
  ·rename_i hn;have hn' : f.name = "_" := by simpa using hn
   simp only [Op.eqFields,hn',ne_eq,not_true_eq_false,if_false];exact ih b h w
  ·rename_i hn;have hn' : f.name ≠ "_" := by simpa using hn
   split at h
   ·rename_i a c ha hc;split at h
    ·rename_i r s hr hs;injection h with h
     subst h;simp only [Op.eqFields,hn',ne_eq,not_false_eq_true,if_true,run_bind,qgw ha,qgw hc,andThen_ok,hE _ _ _ _ hr,Sem.run_ite,Sem.run_pure,ih _ hs];cases r<;>simp
    ·cases h
   ·cases h
theorem ziz {P:Program} {E:TypeId->Value->Value->Option Bool} {D:Nat} (hE:∀t x y b,E t x y=some b->∀w,(Op.equalIn D t x y).run P w=.ok b w) (e:TypeId) (c:Nat) (xs ys:Array Value) :
  ∀(is:List Nat) (b:Bool),zgu E P e c xs ys is=some b->∀w,(Op.eqItems D e c xs ys is).run P w=.ok b w:=by
 intro is
 induction is with
 | nil=>intro b h w;simp only [zgu,Option.some.injEq] at h;subst h;simp [Op.eqItems]
 | cons i is ih =>
  intro b h w;unfold zgu at h;split at h
  ·rename_i a c ha hc;split at h
   ·rename_i r s hr hs;injection h with h
    subst h;simp only [Op.eqItems,run_bind,qgw ha,qgw hc,andThen_ok,hE _ _ _ _ hr,Sem.run_ite,Sem.run_pure,ih _ hs];cases r<;>simp
   ·cases h
  ·cases h
theorem zdv {P:Program}:∀(d k:Nat) (t:TypeId) (x y:Value) (b:Bool),eqV P d t x y=some b->∀w,(Op.equalIn (d+k) t x y).run P w=.ok b w:=by
 intro d
 induction d with
 | zero=>intro k t x y b h;cases h
 | succ d ih =>
  intro k t x y b h w;have e:d+1+k=(d+k)+1:=by omega
  rw [e];unfold eqV at h;split at h
  ·rename_i ht;injection h with h;subst h;exact run_equalIn_bool w _ t _ _ ht
  ·rename_i kk k1 a j c ht;by_cases hk:k1=j
   ·subst hk;simp at h;subst h;exact run_equalIn_int w _ t _ _ _ _ ht
   ·simp [hk] at h
  ·rename_i ht;injection h with h;subst h;exact run_equalIn_string w _ t _ _ ht
  ·rename_i fs xs ys ht;split at h
   ·rename_i hs;rw [run_equalIn_struct w _ t xs ys (q9a ht) hs];exact zh4 (λt x y b h w=>ih k t x y b h w) xs ys _ b h w
   ·cases h
  ·rename_i n e xs ys ht;split at h
   ·rename_i i hi;rw [run_equalIn_array w _ xs ys ht hi];exact ziz (λt x y b h w=>ih k t x y b h w) e _ xs ys _ b h w
   ·cases h
  ·cases h
theorem zcm {C:Cx} {fr:Fr} {a:Act} {o:Oper} {op:BinOp} {t yt:TypeId} {x y:Operand} (ho:o.op=.binOp op t x y yt) {K:Option Value->Prop}
  (ha:Agree fr a) (h:znr C fr o op t x y K) :
  ∃v ov,(∀w,(execOp a.eval o).run C.P w=.ok (.value v) w)/\q00 ov v/\K ov:=by
 unfold znr at h;split at h
 ·rename_i p q hx hy;cases hn:qys y with
  | true =>
   simp only [hn] at h;have hy':=qwb hn;subst hy';have hq:q=none:=by
    have:some (Value.pointer none)=some (Value.pointer q):=hy;injection this with this
    injection this with this
    exact this.symm
   subst hq;split at h
   ·rename_i e ht;refine ⟨_,_,λw=>xU ho ?_ ?_,.some _,h⟩
    ·rw [ha.ev hx,ha.ev hy];simp [eqGuard]
    ·rw [ha.ev hx,ha.ev hy,run_eql_pointer_nil w t p (q1e ht)]
   ·exact h.elim
  | false =>
   simp only [hn] at h;split at h
   ·rename_i e ht;split at h
    ·rename_i n hs;obtain ⟨hb,h⟩:=h;refine ⟨_,_,λw=>xU ho ?_ ?_,.some _,h⟩
     ·rw [ha.ev hx,ha.ev hy];simp [eqGuard]
     ·rw [ha.ev hx,ha.ev hy];simp [binOp,qk8 ht hs hb]
    ·exact h.elim
   ·exact h.elim
 ·rename_i p q hx hy;cases hn:qys y with
  | true =>
   simp only [hn] at h;have hy':=qwb hn;subst hy';have hq:q=none:=by
    have:some (Value.pointer none)=some (Value.pointer q):=hy;injection this with this
    injection this with this
    exact this.symm
   subst hq;split at h
   ·rename_i e ht;refine ⟨_,_,λw=>xU ho ?_ ?_,.some _,h⟩
    ·rw [ha.ev hx,ha.ev hy];simp [eqGuard]
    ·rw [ha.ev hx,ha.ev hy,run_neq_pointer_nil w t p (q1e ht)]
   ·exact h.elim
  | false =>
   simp only [hn] at h;split at h
   ·rename_i e ht;split at h
    ·rename_i n hs;obtain ⟨hb,h⟩:=h;refine ⟨_,_,λw=>xU ho ?_ ?_,.some _,h⟩
     ·rw [ha.ev hx,ha.ev hy];simp [eqGuard]
     ·rw [ha.ev hx,ha.ev hy];simp [binOp,qk8 ht hs hb]
    ·exact h.elim
   ·exact h.elim
 ·rename_i ad n c n' c' hx hy;split at h
  ·rename_i e ht;refine ⟨_,_,λw=>xU ho ?_ ?_,.some _,h⟩
   ·rw [ha.ev hx,ha.ev hy];simp [eqGuard]
   ·rw [ha.ev hx,ha.ev hy];exact Lib.run_eql_slice_nil (P:=C.P) (w:=w) t e ad n c n' c' ht
  ·exact h.elim
 ·rename_i ad n c n' c' hx hy;split at h
  ·rename_i e ht;refine ⟨_,_,λw=>xU ho ?_ ?_,.some _,h⟩
   ·rw [ha.ev hx,ha.ev hy];simp [eqGuard]
   ·rw [ha.ev hx,ha.ev hy];exact run_neq_slice_nil_any w t e ad n c n' c' ht
  ·exact h.elim
 ·rename_i r hx hy;split at h
  ·rename_i kt e ht;refine ⟨_,_,λw=>xU ho ?_ ?_,.some _,h⟩
   ·rw [ha.ev hx,ha.ev hy];simp [eqGuard]
   ·rw [ha.ev hx,ha.ev hy];exact run_eql_map_nil w t kt e r ht
  ·exact h.elim
 ·rename_i r hx hy;split at h
  ·rename_i kt e ht;refine ⟨_,_,λw=>xU ho ?_ ?_,.some _,h⟩
   ·rw [ha.ev hx,ha.ev hy];simp [eqGuard]
   ·rw [ha.ev hx,ha.ev hy];exact run_neq_map_nil w t kt e r ht
  ·exact h.elim
 ·rename_i xs ys hx hy;split at h
  ·rename_i b hg hb;refine ⟨_,_,λw=>xU ho ?_ ?_,.some _,h⟩
   ·rw [ha.ev hx,ha.ev hy];exact run_eqGuard_agg w _ t _ _ xs ys hg
   ·rw [ha.ev hx,ha.ev hy,run_eql_struct w t xs ys,zdv 8 9992 t _ _ b hb w];simp
  ·exact h.elim
 ·rename_i xs ys hx hy;split at h
  ·rename_i b hg hb;refine ⟨_,_,λw=>xU ho ?_ ?_,.some _,h⟩
   ·rw [ha.ev hx,ha.ev hy];exact run_eqGuard_agg w _ t _ _ xs ys hg
   ·rw [ha.ev hx,ha.ev hy,run_neq_struct w t xs ys,zdv 8 9992 t _ _ b hb w];simp
  ·exact h.elim
 ·rename_i s u hx hy;obtain ⟨hb,h⟩:=h;refine ⟨_,_,λw=>xU ho ?_ ?_,.some _,h⟩
  ·simp [eqGuard]
  ·rw [ha.ev hx,ha.ev hy];have:¬(((s.size+u.size:Nat):Int)>IntKind.i64.max):=by
    have:IntKind.i64.max=9223372036854775807:=by decide
    omega
   simp only [binOp,Op.stringOp,this,if_false];rfl
 ·rename_i k m j n hx hy;obtain ⟨hk,hb,h2⟩:=vE h;obtain rfl:=of_decide_eq_true hk;refine ⟨_,_,λw=>xU ho ?_ ?_,.some _,h2⟩
  ·simp [eqGuard]
  ·rw [ha.ev hx,ha.ev hy];simp [binOp,Op.intDiv,hb]
 ·rename_i k m j n hx hy;obtain ⟨hk,hb,h2⟩:=vE h;obtain rfl:=of_decide_eq_true hk;refine ⟨_,_,λw=>xU ho ?_ ?_,.some _,h2⟩
  ·simp [eqGuard]
  ·rw [ha.ev hx,ha.ev hy];simp [binOp,Op.intDiv,hb]
 ·rename_i k m j n hx hy;obtain ⟨hb,h⟩:=h;have hb':¬n<0:=by omega
  refine ⟨_,_,λw=>xU ho ?_ ?_,.some _,h⟩
  ·simp [eqGuard]
  ·rw [ha.ev hx,ha.ev hy];simp [binOp,Op.shift,hb']
 ·rename_i k m j n hx hy;obtain ⟨hb,h⟩:=h;have hb':¬n<0:=by omega
  refine ⟨_,_,λw=>xU ho ?_ ?_,.some _,h⟩
  ·simp [eqGuard]
  ·rw [ha.ev hx,ha.ev hy];simp [binOp,Op.shift,hb']
 ·exact qz9 (λcs b=>by rw [ho];simp) ha h
theorem xE {P:Program} {k:IntKind} {i:Int} {y:Nat} {code:BoundsCode} {w:World} (h:0<=i/\i<=y):(Instr.sliceBound (.int k i) y code).run P w=.ok i.toNat w:=by
 simp [Instr.sliceBound,asIntOf,h]
theorem qw3 {P:Program} {e:TypeId} {sz:Nat} {cs:Array Value} {i:Int} {K:Option Value->Prop}:∀(n j:Nat),zdr P e sz cs i K n j->∃m,j<=m/\m<j+n/\i=(m:Int)/\∃v,qv7 P e cs (m*sz)=some v/\K (some v)
 | 0,_,h=>h.elim
 | n+1,j,h=>by
  unfold zdr at h;by_cases hi:i=(j:Int)
  ·rw [decide_eq_true hi] at h;refine ⟨j,Nat.le_refl _,by omega,hi,?_⟩;dsimp only [cond] at h;split at h
   ·rename_i v hv;exact ⟨v,hv,h⟩
   ·exact h.elim
  ·rw [decide_eq_false hi] at h;obtain ⟨m,h1,h2,h3⟩:=qw3 n (j+1) h;exact ⟨m,by omega,by omega,h3⟩
theorem Z7 {fr:Fr} {a:Act} (ha:Agree fr a) {x:Operand} {r:Option Int} (h:qpy fr (some x)=some r):∃k n,r=some n/\a.eval x=.int k n:=by
 unfold qpy at h;cases hx:ev fr x with
 | none=>simp [hx] at h
 | some v =>
  cases v with
  | int k n=>simp [hx] at h;subst h;exact ⟨k,n,rfl,ha.ev hx⟩
  | _=>simp [hx] at h
theorem qru {P:Program} {fr:Fr} {a:Act} (ha:Agree fr a) {lo hi:Option Operand} {l h:Option Int} (hl:qpy fr lo=some l) (hh:qpy fr hi=some h) {isS:Bool} {n c:Nat}
  {K:Nat->Nat->Prop} (H:bnd h c n λh=>bnd l h 0 λl=>K l h) :
  ∃l' h',(∀w,(Instr.sliceBounds isS n c (lo.map a.eval) (hi.map a.eval) none).run P w=.ok (l',h',c) w)/\K l' h':=by
 cases hi with
 | none =>
  simp only [qpy,Option.some.injEq] at hh;subst hh;cases lo with
  | none =>
   simp only [qpy,Option.some.injEq] at hl;subst hl;exact ⟨0,n,λw=>by simp [Instr.sliceBounds],H⟩
  | some x =>
   obtain ⟨k,i,rfl,hx⟩:=Z7 ha hl;obtain ⟨hb,H⟩:=H;exact ⟨i.toNat,n,λw=>by simp [Instr.sliceBounds,hx,xE hb],H⟩
 | some y =>
  obtain ⟨k,j,rfl,hy⟩:=Z7 ha hh;obtain ⟨hb,H⟩:=H;cases lo with
  | none =>
   simp only [qpy,Option.some.injEq] at hl;subst hl;exact ⟨0,j.toNat,λw=>by simp [Instr.sliceBounds,hy,xE hb],H⟩
  | some x =>
   obtain ⟨k',i,rfl,hx⟩:=Z7 ha hl;obtain ⟨hb',H⟩:=H;exact ⟨i.toNat,j.toNat,λw=>by simp [Instr.sliceBounds,hx,hy,xE hb,xE hb'],H⟩
theorem q7q {P:Program} {fr:Fr} {a:Act} (ha:Agree fr a) {lo hi mx:Option Operand} {l:Option Int} {h m:Int} (hl:qpy fr lo=some l) (hh:qpy fr hi=some (some h)) (hm:qpy fr mx=some (some m))
  {isS:Bool} {n c:Nat} {K:Nat->Nat->Nat->Prop} (H:bnd (some m) c c λm=>bnd (some h) m m λh=>bnd l h 0 λl=>K l h m) :
  ∃l' h' m',(∀w,(Instr.sliceBounds isS n c (lo.map a.eval) (hi.map a.eval) (mx.map a.eval)).run P w=.ok (l',h',m') w)/\K l' h' m':=by
 obtain ⟨hbm,hbh,H⟩:=H;cases mx with
 | none=>simp [qpy] at hm
 | some z =>
  obtain ⟨k,m',hm',hz⟩:=Z7 ha hm;obtain rfl:=Option.some.inj hm';cases hi with
  | none=>simp [qpy] at hh
  | some y =>
   obtain ⟨k',h',hh',hy⟩:=Z7 ha hh;obtain rfl:=Option.some.inj hh';cases lo with
   | none =>
    simp only [qpy,Option.some.injEq] at hl;subst hl;exact ⟨0,_,_,λw=>by simp [Instr.sliceBounds,hz,hy,xE hbm,xE hbh],H⟩
   | some x =>
    obtain ⟨k'',i,rfl,hx⟩:=Z7 ha hl;obtain ⟨hb',H⟩:=H;exact ⟨_,_,_,λw=>by simp [Instr.sliceBounds,hz,hy,hx,xE hbm,xE hbh,xE hb'],H⟩
theorem qed {C:Cx} {fr:Fr} {a:Act} {o:Oper} {K:Option Value->Prop} (hs:∀cs b,o.op≠.select cs b) (ha:Agree fr a) (h:q3p C fr o K) :
  ∃v ov,(∀w,(execOp a.eval o).run C.P w=.ok (.value v) w)/\q00 ov v/\K ov:=by
 unfold q3p at h;split at h
 ·rename_i x ho;exact ⟨_,_,λw=>by simp [execOp,ho],ha.fits x,h⟩
 ·rename_i x ho;exact ⟨_,_,λw=>by simp [execOp,ho],ha.fits x,h⟩
 ·rename_i c x y ho;split at h
  ·rename_i t hc;cases t with
   | true=>exact ⟨_,_,λw=>by simp [execOp,ho,ha.ev hc,asBool],ha.fits x,h⟩
   | false=>exact ⟨_,_,λw=>by simp [execOp,ho,ha.ev hc,asBool],ha.fits y,h⟩
  ·exact h.elim
 ·rename_i x ho;split at h
  ·rename_i p hx;obtain ⟨ad,rfl,h⟩:=qra h;exact ⟨_,_,λw=>by simp [execOp,ho,ha.ev hx],.some _,h⟩
  ·rename_i f u v hx;exact ⟨_,_,λw=>by simp [execOp,ho,ha.ev hx],.some _,h⟩
  ·exact h.elim
 ·rename_i t x i ho;split at h
  ·rename_i e b n c k j ht hx hi;split at h
   ·rename_i sz hsz;obtain ⟨ad,rfl,hb,h⟩:=qra h;exact ⟨_,_,λw=>by simp [execOp,ho,ha.ev hx,ha.ev hi,Instr.indexAt,asIntOf,run_underlying ht,X9 hsz,hb],.some _,h⟩
   ·exact h.elim
  ·rename_i n e ad k j ht hx hi;split at h
   ·rename_i sz hsz;obtain ⟨hb,h⟩:=h;exact ⟨_,_,λw=>by simp [execOp,ho,ha.ev hx,ha.ev hi,Instr.indexAt,asIntOf,run_underlying ht,X9 hsz,hb,Instr.sureAddr],.some _,h⟩
   ·exact h.elim
  ·exact h.elim
 ·rename_i t x i ho;split at h
  ·rename_i s k j ht hx hi;obtain ⟨⟨hb0,hb1⟩,h⟩:=h;have hlt:j.toNat<s.size:=by omega
   have hg:s.data.getD j.toNat 0=s[j.toNat]'hlt:=by
    have hd:j.toNat<s.data.size:=hlt;rw [Array.getD_eq_getD_getElem?,Array.getElem?_eq_getElem hd];rfl
   exact ⟨_,_,λw=>by simp [execOp,ho,ha.ev hx,ha.ev hi,Instr.index,asIntOf,run_underlying ht,hb0,hlt,hg],.some _,h⟩
  ·rename_i n e cs k j ht hx hi;split at h
   ·rename_i sz hsz;obtain ⟨m,_,hm,rfl,v,hv,h⟩:=qw3 _ _ h;refine ⟨_,_,λw=>?_,.some _,h⟩;have hb:(0:Int)<=(m:Int)/\(m:Int)<(n:Int):=⟨by omega,by omega⟩;have hm':m<n:=by omega
    simp [execOp,ho,ha.ev hx,ha.ev hi,Instr.index,asIntOf,run_underlying ht,hm',X9 hsz,qgw hv]
   ·exact h.elim
  ·exact h.elim
 ·rename_i t x lo hi mx ho;split at h
  ·rename_i e ad n c l hh ht hx hlo hhi hmx;have hmx':mx=none:=by
    cases mx with
    | none=>rfl
    | some z=>obtain ⟨_,_,h',_⟩:=Z7 ha hmx;cases h'
   subst hmx';split at h
   ·rename_i sz hsz;obtain ⟨l',h',hr,h⟩:=qru (P:=C.P) (isS:=true) ha hlo hhi h;exact ⟨_,_,λw=>by
     have hr':=hr w;simp [execOp,ho,ha.ev hx,Instr.sliceAt,Instr.slice,run_underlying ht,hr',X9 hsz];rfl,.some _,h⟩
   ·exact h.elim
  ·rename_i e ad n c l hh m ht hx hlo hhi hmx;split at h
   ·rename_i sz hsz;obtain ⟨l',h',m',hr,h⟩:=q7q (P:=C.P) (isS:=true) (n:=n) ha hlo hhi hmx h;exact ⟨_,_,λw=>by
     have hr':=hr w;simp [execOp,ho,ha.ev hx,Instr.sliceAt,Instr.slice,run_underlying ht,hr',X9 hsz];rfl,.some _,h⟩
   ·exact h.elim
  ·rename_i n e ad l hh ht hx hlo hhi hmx;have hmx':mx=none:=by
    cases mx with
    | none=>rfl
    | some z=>obtain ⟨_,_,h',_⟩:=Z7 ha hmx;cases h'
   subst hmx';split at h
   ·rename_i sz hsz;obtain ⟨l',h',hr,h⟩:=qru (P:=C.P) (isS:=false) ha hlo hhi h;exact ⟨_,_,λw=>by
     have hr':=hr w;simp [execOp,ho,ha.ev hx,Instr.sliceAt,Instr.sureAddr,run_underlying ht,hr',X9 hsz],.some _,h⟩
   ·exact h.elim
  ·rename_i s l hh ht hx hlo hhi hmx;have hmx':mx=none:=by
    cases mx with
    | none=>rfl
    | some z=>obtain ⟨_,_,h',_⟩:=Z7 ha hmx;cases h'
   subst hmx';obtain ⟨l',h',hr,h⟩:=qru (P:=C.P) (isS:=false) ha hlo hhi h;exact ⟨_,_,λw=>by
     have hr':=hr w;simp [execOp,ho,ha.ev hx,Instr.sliceAt,Instr.slice,run_underlying ht,hr'],.some _,h⟩
  ·exact h.elim
 ·rename_i op t x y yt ho;exact zcm ho ha h
 ·rename_i t x ho;split at h
  ·rename_i n e b l c ht hx;obtain ⟨ad,rfl,hn,h⟩:=qra h;exact ⟨_,_,λw=>by simp [execOp,ho,ha.ev hx,Instr.arrayAt,run_underlying ht,Nat.not_lt.2 hn],.some _,h⟩
  ·exact h.elim
 ·exact qz9 hs ha h
def qG (w:World) (a:Addr) (vs:List Value):Prop:=∀(i:Nat) (v:Value),vs[i]?=some v->w.cell? (a.add i)=some v
def ldK (C:Cx) (t:TypeId) (a:Addr) (w:World) (K:Value->(World->Prop)->Prop):Prop :=
 match C.P.underlying t with
 | some (.struct _)=>match C.reg t,YH C t with
  | some r,some sz=>∃c:r.T,qG w a (r.cells c)/\qhw (Nat.beq (r.cells c).length sz) (K (.agg (r.cells c).toArray) λw=>qG w a (r.cells c))
  | _,_=>False
 | some (.array _ _)=>match C.reg t,YH C t with
  | some r,some sz=>∃c:r.T,qG w a (r.cells c)/\qhw (Nat.beq (r.cells c).length sz) (K (.agg (r.cells c).toArray) λw=>qG w a (r.cells c))
  | _,_=>False
 | _=>match C.one t with
  | some k=>∃x:k.T,w.cell? a=some (k.enc x)/\K (k.enc x) λw=>w.cell? a=some (k.enc x)
  | none=>False
theorem q2h {P:Program} {t:TypeId} {d:TypeDesc} (h:P.underlying t=some d) (hd:(∃fs,d=.struct fs)\/∃n e,d=.array n e) (w:World):(isAgg t).run P w=.ok true w:=by
 rcases hd with ⟨fs,rfl⟩ | ⟨n,e,rfl⟩<;>simp [isAgg,run_underlying h]
theorem q5s {P:Program} {t:TypeId} {d:TypeDesc} (h:P.underlying t=some d) (hd:∀fs,d≠.struct fs) (hd':∀n e,d≠.array n e) (w:World):(isAgg t).run P w=.ok false w:=by
 cases d<;>first | exact absurd rfl (hd _) | exact absurd rfl (hd' _ _) | simp [isAgg,run_underlying h]
theorem qxe {C:Cx} {t:TypeId} {a:Addr} {w:World} {K:Value->(World->Prop)->Prop} {d:TypeDesc} (ht:C.P.underlying t=some d) (hd:(∃fs,d=.struct fs)\/∃n e,d=.array n e)
  {r:Rep} {sz:Nat} (hsz:YH C t=some sz)
  (h:∃c:r.T,qG w a (r.cells c)/\qhw (Nat.beq (r.cells c).length sz) (K (.agg (r.cells c).toArray) λw=>qG w a (r.cells c))) :
  ∃v S,S w/\(∀w',S w'->(Instr.loadAt t (.pointer (some a))).run C.P w'=.ok v w')/\K v S:=by
 obtain ⟨c,hc,h⟩:=h;obtain ⟨hl,h⟩:=vE h;have hl':=Nat.eq_of_beq_eq_true hl;refine ⟨_,_,hc,λw' hw'=>?_,h⟩;have:=run_loadCells_list (P:=C.P) (w:=w') a (r.cells c) hw';rw [hl'] at this;simp [Instr.loadAt,Instr.sureAddr,loadVar,q2h ht hd,X9 hsz,this]
theorem qo3 {C:Cx} {t:TypeId} {a:Addr} {w:World} {K:Value->(World->Prop)->Prop} (h:ldK C t a w K) :
  ∃v S,S w/\(∀w',S w'->(Instr.loadAt t (.pointer (some a))).run C.P w'=.ok v w')/\K v S:=by
 unfold ldK at h;split at h
 ·rename_i fs ht;split at h
  ·rename_i r sz _ hsz;exact qxe ht (.inl ⟨_,rfl⟩) hsz h
  ·exact h.elim
 ·rename_i n e ht;split at h
  ·rename_i r sz _ hsz;exact qxe ht (.inr ⟨_,_,rfl⟩) hsz h
  ·exact h.elim
 ·rename_i hn1 hn2;split at h
  ·rename_i k hk;obtain ⟨x,hx,h⟩:=h;refine ⟨_,_,hx,λw' hw'=>?_,h⟩;cases ht:C.P.underlying t with
   | none=>simp [Cx.one,ht] at hk
   | some d =>
    have:=q5s (P:=C.P) ht (λfs e=>hn1 fs (by rw [ht,e])) (λn e he=>hn2 n e (by rw [ht,he])) w';simp [Instr.loadAt,Instr.sureAddr,loadVar,this,load,Sem.run,hw']
  ·exact h.elim
def q5o:Value->Bool
 | .agg _=>false
 | .tuple _=>false
 | _=>true
def zhk (w:World) (a:Addr) (vs:List Value):Prop:=∀i,i<vs.length->(∃u,w.cell? (a.add i)=some u)/\w.frozen? (a.add i)=false
def yd (w:World) (a:Addr) (i:Nat):List Value->World
 | []=>w
 | v::r=>yd (w.setCell (a.add i) v) a (i+1) r
def wr (w:World) (a:Addr) (vs:List Value):World:=yd w a 0 vs
theorem qpk {w:World} {p q:Addr} {v u:Value} (h:w.cell? q=some u):∃u',(w.setCell p v).cell? q=some u':=by
 by_cases e:p=q
 ·subst e;exact ⟨v,World.cell?_setCell_same w p v h⟩
 ·exact ⟨u,by rw [World.cell?_setCell_other w p q v e];exact h⟩
theorem qeq {P:Program} {a:Addr}:∀(vs:List Value) (i:Nat) (w:World),(∀v∈vs,q5o v=true)->(∀j,j<vs.length->(∃u,w.cell? (a.add (i+j))=some u)/\w.frozen? (a.add (i+j))=false) ->
  (storeCells a vs i).run P w=.ok () (yd w a i vs):=by
 intro vs
 induction vs with
 | nil=>intro i w _ _;simp [storeCells,yd]
 | cons v r ih =>
  intro i w h1 h2;obtain ⟨⟨u,hu⟩,hf⟩:=h2 0 (by simp);simp only [Nat.add_zero] at hu hf;have h1v:=h1 v (by simp);have hrest:=ih (i+1) (w.setCell (a.add i) v) (λx hx=>h1 x (by simp [hx])) (λj hj=>by
   obtain ⟨⟨u',hu'⟩,hf'⟩:=h2 (j+1) (by simp;omega);have e:i+1+j=i+(j+1):=by omega
   rw [e];exact ⟨qpk hu',by rw [World.frozen?_setCell];exact hf'⟩)
  have hst:(store (a.add i) v).run P w=.ok () (w.setCell (a.add i) v):=by
   cases v<;>first | (simp [q5o] at h1v;done) | simp [store,Sem.run,hu,hf]
  simp only [storeCells,run_bind,hst,andThen_ok,hrest,yd]
theorem q0v {C:Cx} {t:TypeId} {a:Addr} {v:Value} {w:World} {sz:Nat} (hsz:YH C t=some sz) (hv:Nat.beq v.cells.size sz=true)
  (h1:v.cells.toList.all q5o=true) (h:zhk w a v.cells.toList):(Instr.storeAt t (.pointer (some a)) v).run C.P w=.ok () (wr w a v.cells.toList):=by
 have hv':=Nat.eq_of_beq_eq_true hv;have:=qeq (P:=C.P) (a:=a) v.cells.toList 0 w (all_eq_true.1 h1) (λj hj=>by simpa using h j hj);simp [Instr.storeAt,Instr.sureAddr,storeVar,X9 hsz,hv',this,wr]
def zob:(ks:List Kind)->(List Value->Prop)->Prop
 | [],K=>K []
 | k::ks,K=>∃x:k.T,zob ks λl=>K (k.enc x::l)
theorem zd4 {ks:List Kind} {K:List Value->Prop} (h:zob ks K):∃l,K l:=by
 induction ks generalizing K with
 | nil=>exact ⟨[],h⟩
 | cons k ks ih=>obtain ⟨x,h⟩:=h;obtain ⟨l,hl⟩:=ih h;exact ⟨_,hl⟩
def tup:List Value->Value
 | [v]=>v
 | l=>.tuple l.toArray
def qtd (C:Cx) (t:TypeId):Option (List Kind) :=
 match C.P.underlying t with
 | some (.tuple es)=>zmu C es.toList
 | _=>match C.kind t with
  | some k=>some [k]
  | none=>none
def Cur:List Kind->Type
 | []=>World->Prop
 | k::ks=>k.T->Cur ks
def zig:(ks:List Kind)->(List Value->World->Prop)->Cur ks
 | [],G=>λw=>G [] w
 | k::ks,G=>λx=>zig ks λl=>G (k.enc x::l)
def zkk:(ks:List Kind)->Ending->World->(List Value->Value)->Cur ks->Prop
 | [],e,w',F,K=>e=.returned (F [])/\K w'
 | k::ks,e,w',F,K=>∃x:k.T,zkk ks e w' (λl=>F (k.enc x::l)) (K x)
def zn1 (R:Value->World->Prop):(ks:List Kind)->(List Value->Value)->Cur ks->Prop
 | [],F,K=>∃w',R (F []) w'/\K w'
 | k::ks,F,K=>∃x:k.T,zn1 R ks (λl=>F (k.enc x::l)) (K x)
theorem q2w {ks:List Kind} {e:Ending} {w':World}:∀{F:List Value->Value} {G:List Value->World->Prop},zkk ks e w' F (zig ks G)->∃l,e=.returned (F l)/\G l w':=by
 induction ks with
 | nil=>exact λh=>⟨[],h⟩
 | cons k ks ih =>
  intro F G h;obtain ⟨x,h⟩:=h;obtain ⟨l,h⟩:=ih h;exact ⟨_,h⟩
theorem zek {R:Value->World->Prop} {ks:List Kind}:∀{F:List Value->Value} {G:List Value->World->Prop},zn1 R ks F (zig ks G)->∃l w',R (F l) w'/\G l w':=by
 induction ks with
 | nil=>exact λh=>let ⟨w',h⟩:=h;⟨[],w',h⟩
 | cons k ks ih =>
  intro F G h;obtain ⟨x,h⟩:=h;obtain ⟨l,w',h⟩:=ih h;exact ⟨_,w',h⟩
def qw (P:Program) (g:Nat) (args:List Value) (ks:List Kind) (w:World) (K:Cur ks):Prop :=
 Calls P g args.toArray w λe w'=>zkk ks e w' tup K
def q2o (P:Program) (g:Nat) (args:List Value) (ks:List Kind) (w:World) (K:Cur ks):Prop :=
 zn1 (λv w'=>(callFunc g args.toArray).run P w=.ok (.value v) w') ks tup K
def qpd (C:Cx) (f:Value) (args:List Value) (ks:List Kind) (w:World) (K:Cur ks):Prop :=
 match f with
 | .func (.func g) first cap=>match C.plain g with
  | true=>qw C.P g (first.toList++args++cap.toList) ks w K
  | false=>q2o C.P g (first.toList++args++cap.toList) ks w K
 | _=>False
def qux (P:Program) (m:Sem Value) (ks:List Kind) (w:World) (K:Option Value->World->Prop):Prop :=
 zob ks λl=>∃w',m.run P w=.ok (tup l) w'/\K (some (tup l)) w'
def qma (P:Program) (m:Sem Unit) (w:World) (K:Option Value->World->Prop):Prop :=
 ∃w',m.run P w=.ok () w'/\K none w'
def qzy (C:Cx) (recv:Value) (name:String) (args:List Value) (ks:List Kind) (w:World) (K:Cur ks):Prop :=
 ∃t v g r,recv=.iface t v/\(method (C.P.types.size+Made.depth) t v name).run C.P w=.ok (g,r) w/\C.plain g=true/\qw C.P g (r::args) ks w K
def zb0 (P:Program) (t:TypeId) (x:Value) (w:World) (K:Addr->World->Prop):Prop :=
 ∃a w',(Instr.range t x).run P w=.ok (.pointer (some a)) w'/\K a w'
def zg8 (P:Program) (it:Value) (s:Bool) (t:TypeId) (w:World) (K0:World->Prop) (K1:Value->Value->World->Prop):Prop :=
 (∃w',(Instr.next it s t).run P w=.ok (.tuple #[.bool false]) w'/\K0 w')\/(∃k v w',(Instr.next it s t).run P w=.ok (.tuple #[.bool true,k,v]) w'/\K1 k v w')
def zoj (P:Program) (it:Value) (t:TypeId) (w:World) (K0:World->Prop) (K1:Int->Int->World->Prop):Prop :=
 (∃w',(Instr.next it true t).run P w=.ok (.tuple #[.bool false]) w'/\K0 w')\/(∃k v w',(Instr.next it true t).run P w=.ok (.tuple #[.bool true,.int .i64 k,.int .i32 v]) w'/\K1 k v w')
def zk0 (C:Cx) (r t:TypeId):Bool->Option (List Kind)
 | true=>match C.kind t with
  | some k=>some [k,.bool]
  | none=>none
 | false=>qtd C r
def hvK (C:Cx) (fr:Fr) (o:Oper) (w:World) (K:Option Value->World->Prop):Prop :=
 match o.op with
 | .store t x v=>match ev fr x,ev fr v,YH C t with
  | some (.pointer (some a)),some v,some sz=>qhw (Nat.beq v.cells.size sz) (qhw (v.cells.toList.all q5o) (zhk w a v.cells.toList/\K none (wr w a v.cells.toList)))
  | _,_,_=>False
 | .makeSlice t l c=>match ev fr l,ev fr c with
  | some l,some c=>qux C.P (Instr.makeSlice t l c) [.slice] w K
  | _,_=>False
 | .lookup t m k ok=>match ev fr m,ev fr k,qtd C o.type with
  | some m,some k,some ks=>qux C.P (Instr.lookup t m k ok) ks w K
  | _,_,_=>False
 | .mapUpdate t m k v=>match ev fr m,ev fr k,ev fr v with
  | some m,some k,some v=>qma C.P (Instr.mapUpdate t m k v) w K
  | _,_,_=>False
 | .insert t m k v=>match ev fr m,ev fr k,ev fr v with
  | some m,some k,some v=>qma C.P (Instr.mapUpdate t m k v) w K
  | _,_,_=>False
 | .convert s d x=>match ev fr x,C.kind d with
  | some x,some k=>qux C.P (convert s d x) [k] w K
  | _,_=>False
 | .call ⟨.builtin b,args,ts⟩=>match known fr o with
  | false=>False
  | true=>match b with
   | .append=>qux C.P (append_ ts o.type (args.map (evV fr))) [.slice] w K
   | .copy=>qux C.P (Builtin.copy_ ts o.type (args.map (evV fr))) [.int .i64] w K
   | .len=>qux C.P (Builtin.len_ ts o.type (args.map (evV fr))) [.int .i64] w K
   | .delete=>qux C.P (Builtin.delete_ ts o.type (args.map (evV fr))) [.raw] w K
   | .clear=>qux C.P (Builtin.clear_ ts o.type (args.map (evV fr))) [.raw] w K
   | .unsafeString=>qux C.P (Builtin.unsafeString_ ts o.type (args.map (evV fr))) [.string] w K
   | .unsafeSliceData=>qux C.P (Builtin.unsafeSliceData_ ts o.type (args.map (evV fr))) [.ptr] w K
   | _=>False
 | .call ⟨.value f,args,_⟩=>match known fr o,qtd C o.type with
  | true,some ks=>qpd C (evV fr f) (args.map (evV fr)).toList ks w (zig ks λl w'=>K (some (tup l)) w')
  | _,_=>False
 | .call ⟨.invoke r name,args,_⟩=>match known fr o,qtd C o.type with
  | true,some ks=>qzy C (evV fr r) name (args.map (evV fr)).toList ks w (zig ks λl w'=>K (some (tup l)) w')
  | _,_=>False
 | .typeAssert x xt t ok=>match ev fr x,zk0 C o.type t ok with
  | some x,some ks=>qux C.P (Instr.typeAssert x xt t ok) ks w K
  | _,_=>False
 | .range t x=>match ev fr x with
  | some x=>zb0 C.P t x w λa w'=>K (some (.pointer (some a))) w'
  | none=>False
 | .next it s=>match ev fr it,s with
  | some it,false=>zg8 C.P it false o.type w (λw'=>K (some (.tuple #[.bool false])) w') λk v w'=>K (some (.tuple #[.bool true,k,v])) w'
  | some it,true=>zoj C.P it o.type w (λw'=>K (some (.tuple #[.bool false])) w') λk v w'=>K (some (.tuple #[.bool true,.int .i64 k,.int .i32 v])) w'
  | none,_=>False
 | .entry (.tmp it)=>match C.ents it,ev fr (.tmp it) with
  | some ks,some v=>qux C.P (Instr.entry v) ks w K
  | _,_=>False
 | _=>match known fr o with
  | true=>match qvb C.P (execOp (evV fr) o) w with
   | some (.value v,w')=>K (some v) w'
   | _=>False
  | false=>False
def yO (P:Program) (g:Nat):Bool :=
 match P.funcs[g]? with
 | some fn => fn.body.isSome && !(fn.name == "runtime.NumGoroutine")
 | none=>false
theorem qdd {P:Program} {g:Nat} {args:Array Value} {w:World} (h:yO P g=true):(callFunc g args).run P w=.ok (.enter g args) w:=by
 unfold yO at h;cases hf:P.funcs[g]? with
 | none=>simp [hf] at h
 | some fn =>
  simp only [hf,Bool.and_eq_true,Bool.not_eq_true'] at h;obtain ⟨h1,h2⟩:=h;have h3:fn.body≠none:=by intro hb;rw [hb] at h1;cases h1
  have h4 : fn.name ≠ "runtime.NumGoroutine" := by simpa using h2
  simp [callFunc,program,Sem.run,hf,h3,h4]
def zke (o:Oper) (a:Act) (K:Option Value->World->Prop) (a':Act) (w':World):Prop:=∃ov v,a'=a.put o.dst v/\q00 ov v/\K ov w'
theorem VB {P:Program} {m:Sem Value} {ks:List Kind} {w:World} {K:Option Value->World->Prop} (h:qux P m ks w K) :
  ∃v w',m.run P w=.ok v w'/\K (some v) w':=by
 obtain ⟨l,w',hr,h⟩:=zd4 h;exact ⟨_,_,hr,h⟩
theorem jF {P:Program} {o:Oper} {a:Act} {w w':World} {v:Value} {K:Option Value->World->Prop} {Q:Exit->Act->World->Prop} {ov:Option Value}
  (hr:(execOp a.eval o).run P w=.ok (.value v) w') (hf:q00 ov v) (h:K ov w'):o.wp P a w (zke o a K) Q:=by
 simp only [Oper.wp,hr,Oper.upon];exact ⟨ov,v,rfl,hf,h⟩
theorem qrp {P:Program} {o:Oper} {a:Act} {w w':World} {K:Option Value->World->Prop} {Q:Exit->Act->World->Prop}
  (hr:(execOp a.eval o).run P w=.ok .skip w') (h:K none w'):o.wp P a w (zke o a K) Q:=by
 simp only [Oper.wp,hr,Oper.upon];exact ⟨none,_,rfl,.none _,h⟩
theorem qvs {C:Cx} (hp:∀g,C.plain g=true->yO C.P g=true) {fr:Fr} {a:Act} {o:Oper} {w:World} {K:Option Value->World->Prop} {Q:Exit->Act->World->Prop}
  (hs:∀cs b,o.op≠.select cs b) (ha:Agree fr a) (h:hvK C fr o w K):o.wp C.P a w (zke o a K) Q:=by
 unfold hvK at h;split at h
 ·rename_i t x v ho;split at h
  ·rename_i ad v hx hv hsz;obtain ⟨h1,h⟩:=vE h;obtain ⟨h2,h3,h⟩:=vE h;refine qrp ?_ h;simp [execOp,ho,ha.ev hx,ha.ev hv,q0v hsz h1 h2 h3]
  ·exact h.elim
 ·rename_i t l c ho;split at h
  ·rename_i lv cv hl hc;obtain ⟨v,w',hr,h⟩:=VB h;refine jF ?_ (.some v) h;simp [execOp,ho,ha.ev hl,ha.ev hc,hr]
  ·exact h.elim
 ·rename_i t m k ok ho;split at h
  ·rename_i mv kv ks hm hk _;obtain ⟨v,w',hr,h⟩:=VB h;refine jF ?_ (.some v) h;simp [execOp,ho,ha.ev hm,ha.ev hk,hr]
  ·exact h.elim
 ·rename_i t m k v ho;split at h
  ·rename_i mv kv vv hm hk hv;obtain ⟨w',hr,h⟩:=h;refine qrp ?_ h;simp [execOp,ho,ha.ev hm,ha.ev hk,ha.ev hv,hr]
  ·exact h.elim
 ·rename_i t m k v ho;split at h
  ·rename_i mv kv vv hm hk hv;obtain ⟨w',hr,h⟩:=h;refine qrp ?_ h;simp [execOp,ho,ha.ev hm,ha.ev hk,ha.ev hv,hr]
  ·exact h.elim
 ·rename_i s d x ho;split at h
  ·rename_i xv k hx _;obtain ⟨v,w',hr,h⟩:=VB h;refine jF ?_ (.some v) h;simp [execOp,ho,ha.ev hx,hr]
  ·exact h.elim
 ·rename_i b args ts ho;cases hk:known fr o with
  | false=>simp only [hk] at h
  | true =>
   simp only [hk] at h;have hargs:args.map (evV fr)=args.map a.eval:=Array.map_congr_left λx hx=>ha.known hk x (by simp [ho,Op.operands,Call.operands,hx]);rw [hargs] at h;split at h<;>first
    | exact h.elim
    | (
      obtain ⟨v,w',hr,h⟩:=VB h;refine jF ?_ (.some v) h;simp [execOp,ho,resolve,invoke,builtin,hr])
 ·rename_i f args ts ho;cases hk:known fr o with
  | false=>simp only [hk] at h
  | true =>
   simp only [hk] at h;have hargs:args.map (evV fr)=args.map a.eval:=Array.map_congr_left λx hx=>ha.known hk x (by simp [ho,Op.operands,Call.operands,hx]);have hf:evV fr f=a.eval f:=ha.known hk f (by simp [ho,Op.operands,Call.operands]);rw [hargs,hf] at h;split at h
   ·rename_i ks _ _;unfold qpd at h;split at h
    ·rename_i g first cap hfv;have e:(first.toList++(args.map a.eval).toList++cap.toList).toArray=first++args.map a.eval++cap:=by simp
     cases hpl:C.plain g with
     | false =>
     simp only [hpl] at h;unfold q2o at h;rw [e] at h;obtain ⟨l,w',hr,hK⟩:=zek h;refine jF (v:=tup l) (w':=w') ?_ (.some _) hK;rw [Array.append_assoc] at hr;simp [execOp,ho,resolve,hfv,Deferred.ofValue,invoke,hr]
     | true =>
     simp only [hpl] at h;have hrun:(execOp a.eval o).run C.P w=.ok (.enter g (first++args.map a.eval++cap)) w:=by
      simp [execOp,ho,resolve,hfv,Deferred.ofValue,invoke,qdd (hp g hpl)]
     simp only [Oper.wp,hrun,Oper.upon];unfold qw at h;rw [e] at h;refine Calls.mono h λe w' he=>?_;obtain ⟨l,rfl,hK⟩:=q2w he;exact ⟨_,_,rfl,.some _,hK⟩
    ·exact h.elim
   ·exact h.elim
 ·rename_i r name args ts ho;cases hk:known fr o with
  | false=>simp only [hk] at h
  | true =>
   simp only [hk] at h;have hargs:args.map (evV fr)=args.map a.eval:=Array.map_congr_left λx hx=>ha.known hk x (by simp [ho,Op.operands,Call.operands,hx]);have hr:evV fr r=a.eval r:=ha.known hk r (by simp [ho,Op.operands,Call.operands]);rw [hargs,hr] at h;split at h
   ·rename_i ks _ _;obtain ⟨t,v,g,rv,h1,h2,h3,h⟩:=h;have e:(rv::(args.map a.eval).toList).toArray=#[rv]++args.map a.eval:=by simp
    have hx:(#[Value.iface t v]++args.map a.eval).extract 1 (#[Value.iface t v]++args.map a.eval).size=args.map a.eval:=by
     apply Array.ext';simp;exact List.take_of_length_le (by simp)
    have hrun:(execOp a.eval o).run C.P w=.ok (.enter g (#[rv]++args.map a.eval)) w:=by
     simp only [execOp,ho,resolve,run_bind,Sem.run_pure,andThen_ok,invoke];rw [h1];have h0:(#[Value.iface t v]++args.map a.eval)[0]?=some (Value.iface t v):=by rw [Array.getElem?_append_left (Nat.zero_lt_one)];rfl
     rw [h0,hx];simp only [callMethod,run_bind,Go.program,Sem.run,h2,andThen_ok,qdd (hp g h3)]
    simp only [Oper.wp,hrun,Oper.upon];unfold qw at h;rw [e] at h;refine Calls.mono h λe w' he=>?_;obtain ⟨l,rfl,hK⟩:=q2w he;exact ⟨_,_,rfl,.some _,hK⟩
   ·exact h.elim
 ·rename_i x xt t ok ho;split at h
  ·rename_i xv ks hx _;obtain ⟨v,w',hr,h⟩:=VB h;refine jF ?_ (.some v) h;simp [execOp,ho,ha.ev hx,hr]
  ·exact h.elim
 ·rename_i t x ho;split at h
  ·rename_i xv hx;obtain ⟨ad,w',hr,h⟩:=h;refine jF ?_ (.some _) h;simp [execOp,ho,ha.ev hx,hr]
  ·exact h.elim
 ·rename_i it s ho;split at h
  ·rename_i iv hx;rcases h with ⟨w',hr,h⟩ | ⟨k,v,w',hr,h⟩
   ·refine jF ?_ (.some _) h;simp [execOp,ho,ha.ev hx,hr]
   ·refine jF ?_ (.some _) h;simp [execOp,ho,ha.ev hx,hr]
  ·rename_i iv hx;rcases h with ⟨w',hr,h⟩ | ⟨k,v,w',hr,h⟩
   ·refine jF ?_ (.some _) h;simp [execOp,ho,ha.ev hx,hr]
   ·refine jF ?_ (.some _) h;simp [execOp,ho,ha.ev hx,hr]
  ·exact h.elim
 ·rename_i it ho;split at h
  ·rename_i ks iv _ hx;obtain ⟨v,w',hr,h⟩:=VB h;refine jF ?_ (.some v) h;simp [execOp,ho,ha.ev hx,hr]
  ·exact h.elim
 ·cases hk:known fr o with
  | false=>simp only [hk] at h
  | true =>
   simp only [hk] at h;have e:execOp (evV fr) o=execOp a.eval o:=execOp_congr o hs λx hx=>ha.known hk x hx;rw [e] at h;split at h
   ·rename_i v w' hr;exact jF (zcn _ hr) (.some v) h
   ·exact h.elim
def cls (C:Cx) (o:Oper):Nat :=
 match o.op with
 | .load _ _=>1
 | .move _ | .assign _ | .pick .. | .nilCheck _ | .indexAddr .. | .index .. | .slice .. | .binOp .. | .unOp .. | .fieldAddr .. | .field .. | .build .. | .extract .. | .makeFunc .. | .makeInterface .. | .sliceToArrayPointer ..=>0
 | .convert s d _=>match C.P.underlying s,C.P.underlying d with
  | some (.int _),some (.int _)=>0
  | some .string,some .string=>0
  | _,_=>2
 | .call ⟨.builtin .len,_,ts⟩=>match C.P.underlying (ts.toList.getD 0 0) with
  | some (.map _ _)=>2
  | _=>0
 | .call ⟨.builtin .cap,_,_⟩=>0
 | .call ⟨.builtin .min,_,_⟩=>0
 | .call ⟨.builtin .max,_,_⟩=>0
 | _=>2
def zod (C:Cx) (fr:Fr) (o:Oper) (w:World) (K:Option Value->World->Prop):Prop :=
 match cls C o with
 | 0=>q3p C fr o λv=>K v w
 | 1=>match o.op with
  | .load t x=>match ev fr x with
   | some (.pointer (some a))=>ldK C t a w λv _=>K (some v) w
   | _=>False
  | _=>False
 | _=>hvK C fr o w K
theorem zcp {C:Cx} (hp:∀g,C.plain g=true->yO C.P g=true) {fr:Fr} {a:Act} {o:Oper} {w:World} {K:Option Value->World->Prop} {Q:Exit->Act->World->Prop}
  (hs:∀cs b,o.op≠.select cs b) (ha:Agree fr a) (h:zod C fr o w K):o.wp C.P a w (zke o a K) Q:=by
 unfold zod at h;split at h
 ·obtain ⟨v,ov,hr,hf,h⟩:=qed hs ha h;exact jF (hr w) hf h
 ·split at h
  ·rename_i t x ho;split at h
   ·rename_i ad hx;obtain ⟨v,S,hS,hr,h⟩:=qo3 h;refine jF ?_ (.some v) h;simp [execOp,ho,ha.ev hx,hr w hS]
   ·exact h.elim
  ·exact h.elim
 ·exact qvs hp hs ha h
def zb1 (ops:List Oper) (j:Nat):Option Tmp:=(ops[j]?).bind (·.dst)
def qnr (ops:List Oper) (fr:Fr) (o:Oper) (Yes No:Fr->Prop):Prop :=
 match o.guard with
 | none=>Yes fr
 | some (j,want)=>match zb1 ops j with
  | none=>False
  | some d=>match fr.getD d none with
   | some (.bool b)=>cond b (cond want (Yes (fr.set d (some (.bool true)))) (No (fr.set d (some (.bool true))))) (cond want (No (fr.set d (some (.bool false)))) (Yes (fr.set d (some (.bool false)))))
   | some (.tuple _)=>No fr
   | _=>False
theorem Agree.set_same {fr:Fr} {a:Act} (ha:Agree fr a) {d:Nat} {v:Value} (h:fr.getD d none=some v):Agree (fr.set d (some v)) a:=by
 refine ⟨by simp [ha.len],λi u hu=>?_,ha.nod⟩;by_cases hi:i=d
 ·subst hi;by_cases hl:i<fr.length
  ·rw [List.getElem?_set_self hl] at hu;obtain rfl:=Option.some.inj (Option.some.inj hu);rw [List.getD_eq_getElem?_getD] at h;cases hx:fr[i]? with
   | none=>simp [hx] at h
   | some y=>simp [hx] at h;subst h;exact ha.at_ i _ hx
  ·rw [List.getElem?_eq_none (by simpa using hl)] at hu;cases hu
 ·rw [List.getElem?_set_ne (Ne.symm hi)] at hu;exact ha.at_ i u hu
theorem Agree.yielded {fr:Fr} {a:Act} (ha:Agree fr a) {ops:List Oper} {j d:Nat} (hd:zb1 ops j=some d) {v:Value} (h:fr.getD d none=some v) :
  Go.yielded ops.toArray a.tmps j=match v with | .bool b=>some b | _=>none:=by
 have hx:a.tmps[d]?=some v:=by
  rw [List.getD_eq_getElem?_getD] at h;cases hx:fr[d]? with
  | none=>simp [hx] at h
  | some y=>simp [hx] at h;subst h;exact ha.at_ d _ hx
 have hd':(ops.toArray[j]?).bind (·.dst)=some d:=by simpa [zb1] using hd
 unfold Go.yielded;rw [hd'];simp only [Option.bind_some,hx];cases v<;>rfl
theorem Zx {ops:List Oper} {fr:Fr} {a:Act} {o:Oper} {Yes No:Fr->Prop} (ha:Agree fr a) (h:qnr ops fr o Yes No) :
  (Region.wanted o (yielded ops.toArray a.tmps)=true/\∃fr',Agree fr' a/\Yes fr')\/(Region.wanted o (yielded ops.toArray a.tmps)=false/\∃fr',Agree fr' a/\No fr'):=by
 unfold qnr at h;split at h
 ·rename_i hg;exact .inl ⟨by simp [Region.wanted,hg],fr,ha,h⟩
 ·rename_i j want hg;split at h
  ·exact h.elim
  ·rename_i d hd;split at h
   ·rename_i b hb;have hy:=ha.yielded hd hb;simp only at hy;cases b with
    | true =>
     have ha':=ha.set_same hb;cases want with
     | true=>exact .inl ⟨by simp [Region.wanted,hg,hy],_,ha',h⟩
     | false=>exact .inr ⟨by simp [Region.wanted,hg,hy],_,ha',h⟩
    | false =>
     have ha':=ha.set_same hb;cases want with
     | true=>exact .inr ⟨by simp [Region.wanted,hg,hy],_,ha',h⟩
     | false=>exact .inl ⟨by simp [Region.wanted,hg,hy],_,ha',h⟩
   ·rename_i vs hb;have hy:=ha.yielded hd hb;exact .inr ⟨by simp [Region.wanted,hg,hy],_,ha,h⟩
   ·exact h.elim
def q0r (C:Cx) (ops:List Oper):List Oper->Fr->World->(Fr->World->Prop)->Prop
 | [],fr,w,K=>K fr w
 | o::r,fr,w,K=>qnr ops fr o (λfr=>zod C fr o w λv w'=>q0r C ops r (qm0 fr o.dst v) w' K) (λfr=>q0r C ops r (qm0 fr o.dst (some undef)) w K)
structure Keep (W:List Nat) (a a':Act):Prop where
 size:a'.tmps.size=a.tmps.size
 out:∀i:Nat,i ∉ W->a'.tmps[i]?=a.tmps[i]?
theorem Keep.refl (W:List Nat) (a:Act):Keep W a a:=⟨rfl,λ_ _=>rfl⟩
theorem Keep.trans {W:List Nat} {a b c:Act} (h:Keep W a b) (h':Keep W b c):Keep W a c:=⟨h'.size.trans h.size,λi hi=>(h'.out i hi).trans (h.out i hi)⟩
theorem Keep.put {W:List Nat} {a b:Act} (h:Keep W a b) {dst:Option Tmp} (hd:∀d,dst=some d->d∈W) (v:Value):Keep W a (b.put dst v):=by
 cases dst with
 | none=>exact h
 | some d =>
  refine ⟨by simp [Act.put,h.size],λi hi=>?_⟩;have:d≠i:=λe=>hi (e ▸ hd d rfl);simp only [Act.put,Array.getElem?_setIfInBounds_ne this];exact h.out i hi
theorem Keep.mono {W W':List Nat} {a b:Act} (h:Keep W a b) (hw:∀i,i∈W->i∈W'):Keep W' a b:=⟨h.size,λi hi=>h.out i λe=>hi (hw i e)⟩
def qdl (W:List Nat) (a:Act) (K:Fr->World->Prop) (a':Act) (w':World):Prop:=∃fr',Agree fr' a'/\Keep W a a'/\K fr' w'
theorem q01 {C:Cx} (hp:∀g,C.plain g=true->yO C.P g=true) {ops:List Oper} {W:List Nat} {a0:Act} {K:Fr->World->Prop} {Q:Exit->Act->World->Prop} (hsel:Region.noSelect ops.toArray=true) {l2:List Oper}
  (hQ:∀a w,qdl W a0 K a w->wpList C.P ops.toArray Q l2 a w) :
  ∀(l:List Oper),(∀o∈l,o∈ops/\∀d,o.dst=some d->d∈W)->∀(fr:Fr) (a:Act) (w:World),Agree fr a->Keep W a0 a->q0r C ops l fr w K->wpList C.P ops.toArray Q (l++l2) a w:=by
 intro l
 induction l with
 | nil=>intro _ fr a w ha hk h;exact hQ a w ⟨fr,ha,hk,h⟩
 | cons o r ih =>
  intro hl fr a w ha hk h;obtain ⟨hin,hd⟩:=hl o (by simp);have hs:∀cs b,o.op≠.select cs b:=by
   obtain ⟨j,hj⟩:=List.getElem?_of_mem hin;exact λcs b=>noSelect_spec hsel j o cs b (by simpa using hj)
  rw [List.cons_append];unfold wpList;rcases Zx ha h with ⟨hw,fr',ha',h⟩ | ⟨hw,fr',ha',h⟩
  ·rw [if_pos hw];refine .inl (Oper.wp_mono ?_ (zcp hp hs ha' h));rintro a' w' ⟨ov,v,rfl,hf,h⟩;exact ih (λo ho=>hl o (by simp [ho])) _ _ _ (ha'.put hf) (hk.put hd v) h
  ·rw [if_neg (by simp [hw])];exact ih (λo ho=>hl o (by simp [ho])) _ _ _ (ha'.put (.some undef)) (hk.put hd undef) h
theorem qwq {C:Cx} (hp:∀g,C.plain g=true->yO C.P g=true) {ops:List Oper} {W:List Nat} {a0:Act} {K:Fr->World->Prop} {Q:Exit->Act->World->Prop} (hsel:Region.noSelect ops.toArray=true)
  (hQ:∀a w,qdl W a0 K a w->Q .normal a w) (l:List Oper) (hl:∀o∈l,o∈ops/\∀d,o.dst=some d->d∈W) (fr:Fr) (a:Act) (w:World) (ha:Agree fr a) (hk:Keep W a0 a) (h:q0r C ops l fr w K):wpList C.P ops.toArray Q l a w:=by
 have:=q01 hp hsel (l2:=[]) hQ l hl fr a w ha hk h
 rwa [List.append_nil] at this
def qir (listed:List Bool) (es:List Edge):Bool:=es.all λe=>!Region.binds .any e || listed.getD e.on false
def qc9 (ops:List Oper) (listed:List Bool) (i:Nat):Bool:=!(listed.getD i true) && match ops[i]? with
 | some o=>qir listed o.after.toList
 | none=>false
def qsr (ops:List Oper) (listed:List Bool):List Nat:=(List.range ops.length).filter (qc9 ops listed)
theorem Qo {ops:List Oper} {listed:List Bool} {i:Nat}:qc9 ops listed i=true↔i∈Region.ready .any ops.toArray listed.toArray:=by
 rw [mem_ready];unfold qc9 qir;cases ho:ops[i]? with
 | none=>simp [ho]
 | some o =>
  simp only [Bool.and_eq_true,Bool.not_eq_true',all_eq_true,Bool.or_eq_true,List.getElem?_toArray,ho,Option.some.injEq,exists_eq_left',Array.getD_eq_getD_getElem?,List.getD_eq_getElem?_getD,Array.mem_toList_iff];constructor
  ·rintro ⟨h0,h⟩;exact ⟨h0,λe he hb=>(h e he).resolve_left (by simp [hb])⟩
  ·rintro ⟨h0,h⟩;refine ⟨h0,λe he=>?_⟩;cases hb:Region.binds .any e
   ·exact .inl rfl
   ·exact .inr (h e he hb)
theorem Js {ops:List Oper} {listed:List Bool} {i:Nat}:i∈qsr ops listed↔i∈Region.ready .any ops.toArray listed.toArray:=by
 unfold qsr;rw [List.mem_filter,Qo];constructor
 ·exact λh=>h.2
 ·intro h;refine ⟨?_,h⟩;obtain ⟨_,o,ho,_⟩:=mem_ready.1 h;have:=(Array.getElem?_eq_some_iff.1 ho).1;simpa using this
def zjy (acc:List Nat) (es:List Edge):Nat:=es.foldl (λs e=>cond (Region.binds .any e) (Nat.lor (Nat.lor s (Nat.pow 2 e.on)) (acc.getD e.on 0)) s) 0
def Xs (ops:List Oper):List Nat:=ops.foldl (λacc o=>acc++[zjy acc o.after.toList]) []
def bef (ms:List Nat) (i j:Nat):Bool:=Nat.testBit (ms.getD j 0) i
def Dn (ops:List Oper) (listed:List Bool):Prop:=∀j o,ops[j]?=some o->listed.getD j false=true->qir listed o.after.toList=true
def Pre (ops:List Oper) (es:List Edge) (i:Nat):Prop:=∀listed,Dn ops listed->qir listed es=true->listed.getD i false=true
theorem qwf {listed:List Bool} {es:List Edge} (h:qir listed es=true) {e:Edge} (he:e∈es) (hb:Region.binds .any e=true):listed.getD e.on false=true:=by
 have:=all_eq_true.1 h e he;simpa [hb] using this
theorem q6i {ops:List Oper} {acc:List Nat} (hacc:∀k o i,ops[k]?=some o->Nat.testBit (acc.getD k 0) i=true->Pre ops o.after.toList i) (hall:∀k,ops[k]?=none->acc.getD k 0=0) :
  ∀(es all:List Edge) (s:Nat),(∀e∈es,e∈all)->(∀i,Nat.testBit s i=true->Pre ops all i) ->
   ∀i,Nat.testBit (es.foldl (λs e=>cond (Region.binds .any e) (Nat.lor (Nat.lor s (Nat.pow 2 e.on)) (acc.getD e.on 0)) s) s) i=true->Pre ops all i:=by
 intro es
 induction es with
 | nil=>intro all s _ hs i h;exact hs i h
 | cons e r ih =>
  intro all s hm hs i h;simp only [List.foldl_cons] at h;refine ih all _ (λx hx=>hm x (by simp [hx])) ?_ i h;intro i hi;cases hb:Region.binds .any e with
  | false=>rw [hb] at hi;exact hs i hi
  | true =>
   rw [hb] at hi;have hi':Nat.testBit ((s ||| 2^e.on) ||| acc.getD e.on 0) i=true:=hi;rw [Nat.testBit_or,Nat.testBit_or,Bool.or_eq_true,Bool.or_eq_true] at hi';rcases hi' with (h1 | h1) | h1
   ·exact hs i h1
   ·rw [Nat.testBit_two_pow] at h1;have h1:=of_decide_eq_true h1;subst h1;exact λlisted _ hin=>qwf hin (hm e (by simp)) hb
   ·intro listed hd hin;have hon:=qwf hin (hm e (by simp)) hb;cases ho:ops[e.on]? with
    | none=>rw [hall _ ho] at h1;simp at h1
    | some o=>exact hacc e.on o i ho h1 listed hd (hd e.on o ho hon)
theorem ziv {ops:List Oper}:∀(l:List Oper) (acc:List Nat),(∀k o i,ops[k]?=some o->Nat.testBit (acc.getD k 0) i=true->Pre ops o.after.toList i)->acc.length+l.length=ops.length->(∀j,l[j]?=ops[acc.length+j]?) ->
  ∀k o i,ops[k]?=some o->Nat.testBit ((l.foldl (λacc o=>acc++[zjy acc o.after.toList]) acc).getD k 0) i=true->Pre ops o.after.toList i:=by
 intro l
 induction l with
 | nil=>intro acc h _ _;exact h
 | cons x r ih =>
  intro acc h hlen hl;simp only [List.foldl_cons];refine ih _ ?_ (by simp at hlen ⊢;omega) (λj=>by have:=hl (j+1);simpa [Nat.add_assoc,Nat.add_comm 1 j] using this);intro k o i ho hi;by_cases hk:k<acc.length
  ·exact h k o i ho (by rw [List.getD_eq_getElem?_getD] at hi ⊢;rw [List.getElem?_append_left hk] at hi;exact hi)
  ·by_cases hk':k=acc.length
   ·subst hk';have hx:ops[acc.length]?=some x:=by have:=hl 0;simpa using this.symm
    rw [hx] at ho;obtain rfl:=Option.some.inj ho;rw [List.getD_eq_getElem?_getD,List.getElem?_append_right (Nat.le_refl _)] at hi;simp only [Nat.sub_self,List.getElem?_cons_zero,Option.getD_some] at hi;have hall:∀k,ops[k]?=none->acc.getD k 0=0:=by
     intro k hk;have:ops.length<=k:=by simpa using hk
     rw [List.getD_eq_getElem?_getD,List.getElem?_eq_none (by simp at hlen;omega)];rfl
    exact q6i h hall x.after.toList x.after.toList 0 (λ_ h=>h) (λi h=>by simp at h) i hi
   ·rw [List.getD_eq_getElem?_getD,List.getElem?_eq_none (by simp;omega)] at hi;simp at hi
theorem zin {ops:List Oper} {i j:Nat} {o:Oper} (hj:ops[j]?=some o) (h:bef (Xs ops) i j=true):Pre ops o.after.toList i :=
 ziv ops [] (λ_ _ _ _ h=>by simp at h) (by simp) (λj=>by simp) j o i hj h
theorem zdm {ops:List Oper} {listed:List Bool} (hd:Dn ops listed) {i j:Nat} (hj:qc9 ops listed j=true) (hi:listed.getD i true=false):bef (Xs ops) i j=false:=by
 cases hb:bef (Xs ops) i j with
 | false=>rfl
 | true =>
  unfold qc9 at hj;cases ho:ops[j]? with
  | none=>simp [ho] at hj
  | some o =>
   simp only [ho,Bool.and_eq_true] at hj;have:=zin ho hb listed hd hj.2;rw [List.getD_eq_getElem?_getD] at this hi;cases hx:listed[i]?<;>simp [hx] at this hi;rw [this] at hi;cases hi
def YF (ops:List Oper):Bool :=
 (List.range ops.length).all λi=>(List.range ops.length).all λj=>i==j || bef (Xs ops) i j || bef (Xs ops) j i || match ops[i]?,ops[j]? with
  | some oi,some oj=>oi.apart ops.toArray oj
  | _,_=>true
theorem q11 {ops:List Oper} (h:YF ops=true) {i j:Nat} {oi oj:Oper} (hi:ops[i]?=some oi) (hj:ops[j]?=some oj) (hne:i≠j)
  (h1:bef (Xs ops) i j=false) (h2:bef (Xs ops) j i=false):oi.apart ops.toArray oj=true:=by
 have hil:i<ops.length:=(List.getElem?_eq_some_iff.1 hi).1;have hjl:j<ops.length:=(List.getElem?_eq_some_iff.1 hj).1;have:=all_eq_true.1 (all_eq_true.1 h i (mem_range.2 hil)) j (mem_range.2 hjl);simpa [hi,hj,hne,h1,h2] using this
abbrev Obl:=List (Nat×(World->Prop))
def QM (P:Program) (ops:List Oper) (w:World) (o:Oper) (v:Value) (a:Act):Prop :=
 (Region.wanted o (yielded ops.toArray a.tmps)=true/\(execOp a.eval o).run P w=.ok (.value v) w)\/(Region.wanted o (yielded ops.toArray a.tmps)=false/\v=undef)
def kept (ms:List Nat) (O:Obl) (j:Nat) (w':World):Prop:=∀p∈O,bef ms p.1 j=false->p.2 w'
def wpO (P:Program) (ops:List Oper) (Q:Exit->Act->World->Prop) (O:Obl):Nat->List Bool->Act->World->Prop
 | 0,listed,a,w=>Region.ready .any ops.toArray listed.toArray=[]/\Q .normal a w
 | n+1,listed,a,w=>(Region.ready .any ops.toArray listed.toArray=[]->Q .normal a w)/\∀j∈Region.ready .any ops.toArray listed.toArray,∃o,ops[j]?=some o /\
   (
    (∃v,QM P ops w o v a/\wpO P ops Q O n (listed.set j true) (a.put o.dst v) w) \/
    wpOp P ops.toArray Q j (λa' w'=>kept (Xs ops) O j w'/\wpO P ops Q O n (listed.set j true) a' w') a w)
theorem QM.wpOp {P:Program} {ops:List Oper} {Q:Exit->Act->World->Prop} {w:World} {o:Oper} {v:Value} {a:Act} {j:Nat} (hj:ops[j]?=some o) (hy:QM P ops w o v a) {K:Act->World->Prop}
  (h:K (a.put o.dst v) w):Go.wpOp P ops.toArray Q j K a w:=by
 unfold Go.wpOp;have hj':ops.toArray[j]?=some o:=by simpa using hj
 simp only [hj'];rcases hy with ⟨hw,hv⟩ | ⟨hw,rfl⟩
 ·simp only [hw,if_true,Oper.wp,hv,Oper.upon];exact .inl h
 ·simp only [hw,Bool.false_eq_true,if_false];exact h
theorem zc4 {P:Program} {ops:List Oper} {Q:Exit->Act->World->Prop} {O:Obl}:∀(n:Nat) (listed:List Bool) (a:Act) (w:World),wpO P ops Q O n listed a w->wpAny P .any ops.toArray Q n listed.toArray a w:=by
 intro n
 induction n with
 | zero=>intro listed a w h;exact h
 | succ n ih =>
  intro listed a w h;refine ⟨h.1,λj hj=>?_⟩;obtain ⟨o,ho,h2⟩:=h.2 j hj;have e:listed.toArray.setIfInBounds j true=(listed.set j true).toArray:=by simp
  rw [e];rcases h2 with ⟨v,hy,h2⟩ | h2
  ·exact hy.wpOp ho (ih _ _ _ h2)
  ·exact wpOp_mono (λa' w' hh=>ih _ _ _ hh.2) h2
theorem JQ {P:Program} {ops:List Oper} {Q:Exit->Act->World->Prop} {O O':Obl} (hO:∀j w',kept (Xs ops) O j w'->kept (Xs ops) O' j w'):∀(n:Nat) (listed:List Bool) (a:Act) (w:World),wpO P ops Q O n listed a w->wpO P ops Q O' n listed a w:=by
 intro n
 induction n with
 | zero=>intro listed a w h;exact h
 | succ n ih =>
  intro listed a w h;refine ⟨h.1,λj hj=>?_⟩;obtain ⟨o,ho,h2⟩:=h.2 j hj;refine ⟨o,ho,?_⟩;rcases h2 with ⟨v,hy,h2⟩ | h2
  ·exact .inl ⟨v,hy,ih _ _ _ h2⟩
  ·exact .inr (wpOp_mono (λa' w' hh=>⟨hO _ _ hh.1,ih _ _ _ hh.2⟩) h2)
theorem QM.moved {P:Program} {ops:List Oper} {w:World} {o:Oper} {v u:Value} {a:Act} {dst:Option Tmp} (hs:∀cs b,o.op≠.select cs b) (hd:∀d,dst=some d->d ∉ o.looksAt ops.toArray)
  (h:QM P ops w o v (a.put dst u)):QM P ops w o v a:=by
 unfold QM at *;rw [execOp_put o hs a dst u hd,wanted_put o a dst u hd] at h;exact h
theorem Dn.set {ops:List Oper} {listed:List Bool} (hd:Dn ops listed) {i:Nat} (hi:qc9 ops listed i=true):Dn ops (listed.set i true):=by
 have mono:∀es,qir listed es=true->qir (listed.set i true) es=true:=by
  intro es h;refine all_eq_true.2 λe he=>?_;have:=all_eq_true.1 h e he;cases hb:Region.binds .any e with
  | false=>simp
  | true =>
   simp only [hb,Bool.not_true,Bool.false_or] at this ⊢;rw [List.getD_eq_getElem?_getD] at this ⊢;by_cases hei:i=e.on
   ·subst hei;have hl:e.on<listed.length:=by
     rcases Nat.lt_or_ge e.on listed.length with h' | h'
     ·exact h'
     ·rw [List.getElem?_eq_none h'] at this;cases this
    rw [List.getElem?_set_self hl];rfl
   ·rw [List.getElem?_set_ne hei];exact this
 intro j o hj hl;by_cases hij:i=j
 ·subst hij;unfold qc9 at hi;simp only [hj,Bool.and_eq_true] at hi;exact mono _ hi.2
 ·refine mono _ (hd j o hj ?_);rw [List.getD_eq_getElem?_getD] at hl ⊢;rw [List.getElem?_set_ne hij] at hl;exact hl
theorem Zt {ops:List Oper} {listed:List Bool} {i:Nat} (h:qc9 ops listed i=true):listed.getD i true=false:=by
 unfold qc9 at h;simp only [Bool.and_eq_true,Bool.not_eq_true'] at h;exact h.1
theorem YB {P:Program} {ops:List Oper} {Q:Exit->Act->World->Prop} (hsel:Region.noSelect ops.toArray=true) (hap:YF ops=true) (hQ:∀c a w,¬Q (.panic c) a w)
  {i:Nat} {oi:Oper} {v:Value} {S:World->Prop} (hi:ops[i]?=some oi) {O:Obl} :
  ∀(n:Nat) (listed:List Bool) (a:Act) (w:World),Dn ops listed->qc9 ops listed i=true->YieldsIf P ops.toArray S oi v a->S w ->
   wpO P ops Q ((i,S)::O) n (listed.set i true) (a.put oi.dst v) w->wpO P ops Q O (n+1) listed a w:=by
 have hi':ops.toArray[i]?=some oi:=by simpa using hi
 have hsi:∀cs b,oi.op≠.select cs b:=λcs b=>noSelect_spec hsel i oi cs b hi';have here:∀{a:Act} {w:World},YieldsIf P ops.toArray S oi v a->S w->QM P ops w oi v a:=λhy hS=>hy.imp (λ⟨h1,h2⟩=>⟨h1,h2 _ hS⟩) id;have toArr:∀(listed:List Bool) (j:Nat),listed.toArray.setIfInBounds j true=(listed.set j true).toArray:=by intros;simp
 intro n
 induction n with
 | zero =>
  intro listed a w hd hr hy hS H;have hr':=Qo.1 hr;refine ⟨λh=>(by rw [h] at hr';cases hr'),λj hj=>?_⟩;by_cases hji:j=i
  ·subst hji;exact ⟨oi,hi,.inl ⟨v,here hy hS,H⟩⟩
  ·have:=ready_mono hj hji;rw [toArr,H.1] at this;cases this
 | succ n ih =>
  intro listed a w hd hr hy hS H;have hr':=Qo.1 hr;refine ⟨λh=>(by rw [h] at hr';cases hr'),λj hj=>?_⟩;by_cases hji:j=i
  ·subst hji;exact ⟨oi,hi,.inl ⟨v,here hy hS,JQ (λj w' h p hp hb=>h p (by simp [hp]) hb) _ _ _ _ H⟩⟩
  ·have hj2:=ready_mono hj hji;rw [toArr] at hj2;obtain ⟨oj,hoj,h2⟩:=H.2 j hj2;have hoj':ops.toArray[j]?=some oj:=by simpa using hoj
   have hsj:∀cs b,oj.op≠.select cs b:=λcs b=>noSelect_spec hsel j oj cs b hoj';have hjr:=Qo.2 hj;have hbij:bef (Xs ops) i j=false:=zdm hd hjr (Zt hr);have hbji:bef (Xs ops) j i=false:=zdm hd hr (Zt hjr);have hapij:oi.apart ops.toArray oj=true:=q11 hap hi hoj (Ne.symm hji) hbij hbji;obtain ⟨p1,p2,p3⟩:=Oper.apart_spec hapij;have hri:qc9 ops (listed.set j true) i=true:=by
    rw [Qo,<-toArr];exact ready_mono hr' (Ne.symm hji)
   refine ⟨oj,hoj,?_⟩;rcases h2 with ⟨u,hyj,h2⟩ | h2
   ·refine .inl ⟨u,hyj.moved hsj p1,ih _ _ _ (hd.set hjr) hri ?_ hS ?_⟩
    ·exact hy.of_same (execOp_put oi hsi a oj.dst u p3) (wanted_put oi a oj.dst u p3)
    ·rw [List.set_comm _ _ hji,<-Act.put_comm a v u p2];exact h2
   ·refine .inr (wpOp_mono ?_ (wpOp_putIf hoj' hapij hsi hsj (λc a w h=>absurd h (hQ _ _ _)) hy h2));rintro a' w' ⟨hy',hk,h3⟩;refine ⟨λp hp hb=>hk p (by simp [hp]) hb,ih _ _ _ (hd.set hjr) hri hy' (hk (i,S) (by simp) hbij) ?_⟩;rw [List.set_comm _ _ hji];exact h3
def obl (ms:List Nat) (j:Nat) (w':World) (X:Prop):Obl->Prop
 | []=>X
 | p::r=>match bef ms p.1 j with
  | true=>obl ms j w' X r
  | false=>p.2 w'/\obl ms j w' X r
theorem q6u {ms:List Nat} {j:Nat} {w':World} {X:Prop}:∀{O:Obl},obl ms j w' X O->kept ms O j w'/\X:=by
 intro O
 induction O with
 | nil=>exact λh=>⟨λp hp=>(nomatch hp),h⟩
 | cons p r ih =>
  intro h;unfold obl at h;split at h
  ·rename_i hb;refine ⟨λq hq hbq=>?_,(ih h).2⟩;rcases mem_cons.1 hq with rfl | hq
   ·rw [hb] at hbq;cases hbq
   ·exact (ih h).1 q hq hbq
  ·refine ⟨λq hq hbq=>?_,(ih h.2).2⟩;rcases mem_cons.1 hq with rfl | hq
   ·exact h.1
   ·exact (ih h.2).1 q hq hbq
def qe5 (C:Cx) (ops:List Oper):List Nat->Option Nat
 | []=>none
 | i::r=>match ops[i]? with
  | some o=>match cls C o with
   | 2=>qe5 C ops r
   | _=>some i
  | none=>qe5 C ops r
def zdg (f:Nat->Prop):List Nat->Prop
 | []=>True
 | [j]=>f j
 | j::r=>f j/\zdg f r
theorem q3n {f:Nat->Prop}:∀{l:List Nat},zdg f l->∀j∈l,f j:=by
 intro l
 induction l with
 | nil=>intro _ j hj;cases hj
 | cons i r ih =>
  intro h j hj;cases r with
  | nil=>simp at hj;subst hj;exact h
  | cons k r' =>
   rcases mem_cons.1 hj with rfl | hj
   ·exact h.1
   ·exact ih h.2 j hj
def vcD (C:Cx) (ops:List Oper) (ms:List Nat):Nat->List Bool->Fr->World->Obl->(Fr->World->Prop)->Prop
 | 0,listed,fr,w,_,K=>match qsr ops listed with
  | []=>K fr w
  | _=>False
 | n+1,listed,fr,w,O,K=>match qsr ops listed with
  | []=>K fr w
  | r=>match qe5 C ops r with
   | some i=>match ops[i]? with
    | none=>False
    | some o=>qnr ops fr o (λfr=>match cls C o with
      | 0=>q3p C fr o λv=>vcD C ops ms n (listed.set i true) (qm0 fr o.dst v) w O K
      | _=>match o.op with
       | .load t x=>match ev fr x with
        | some (.pointer (some a))=>ldK C t a w λv S=>vcD C ops ms n (listed.set i true) (qm0 fr o.dst (some v)) w ((i,S)::O) K
        | _=>False
       | _=>False)
      (λfr=>vcD C ops ms n (listed.set i true) (qm0 fr o.dst (some undef)) w O K)
   | none=>zdg (λj=>match ops[j]? with
    | none=>False
    | some o=>qnr ops fr o (λfr=>hvK C fr o w λv w'=>obl ms j w' (vcD C ops ms n (listed.set j true) (qm0 fr o.dst v) w' O K) O)
      (λfr=>vcD C ops ms n (listed.set j true) (qm0 fr o.dst (some undef)) w O K)) r
theorem qnh {C:Cx} {ops:List Oper}:∀{l:List Nat} {i:Nat},qe5 C ops l=some i->i∈l:=by
 intro l
 induction l with
 | nil=>intro i h;simp [qe5] at h
 | cons j r ih =>
  intro i h;unfold qe5 at h;split at h
  ·split at h
   ·exact List.mem_cons_of_mem _ (ih h)
   ·simp at h;subst h;simp
  ·exact List.mem_cons_of_mem _ (ih h)
theorem zgj {C:Cx} (hp:∀g,C.plain g=true->yO C.P g=true) {ops:List Oper} {W:List Nat} {a0:Act} {K:Fr->World->Prop} {Q:Exit->Act->World->Prop} (hsel:Region.noSelect ops.toArray=true) (hap:YF ops=true)
  (hQ:∀a w,qdl W a0 K a w->Q .normal a w) (hQp:∀c a w,¬Q (.panic c) a w) (hW:∀o∈ops,∀d,o.dst=some d->d∈W) :
  ∀(n:Nat) (listed:List Bool) (fr:Fr) (a:Act) (w:World) (O:Obl),Agree fr a->Keep W a0 a->Dn ops listed->vcD C ops (Xs ops) n listed fr w O K->wpO C.P ops Q O n listed a w:=by
 intro n
 induction n with
 | zero =>
  intro listed fr a w O ha hk hd h;unfold vcD at h;split at h
  ·rename_i hr;refine ⟨?_,hQ a w ⟨fr,ha,hk,h⟩⟩;cases hx:Region.ready .any ops.toArray listed.toArray with
   | nil=>rfl
   | cons j r =>
    have:j∈qsr ops listed:=Js.2 (by rw [hx];simp);rw [hr] at this;cases this
  ·exact h.elim
 | succ n ih =>
  intro listed fr a w O ha hk hd h;unfold vcD at h;split at h
  ·rename_i hr;have hx:Region.ready .any ops.toArray listed.toArray=[]:=by
    cases hx:Region.ready .any ops.toArray listed.toArray with
    | nil=>rfl
    | cons j r =>
     have:j∈qsr ops listed:=Js.2 (by rw [hx];simp);rw [hr] at this;cases this
   exact ⟨λ_=>hQ a w ⟨fr,ha,hk,h⟩,λj hj=>by rw [hx] at hj;cases hj⟩
  ·have hne:Region.ready .any ops.toArray listed.toArray≠[]:=by
    intro hx;rename_i hr;refine hr ?_;cases hy:qsr ops listed with
    | nil=>rfl
    | cons j r =>
     have:j∈Region.ready .any ops.toArray listed.toArray:=Js.1 (by rw [hy];simp);rw [hx] at this;cases this
   split at h
   ·rename_i i hl;have hir:qc9 ops listed i=true:=Qo.2 (Js.1 (qnh hl));split at h
    ·exact h.elim
    ·rename_i o ho;have ho':ops.toArray[i]?=some o:=by simpa using ho
     have hs:∀cs b,o.op≠.select cs b:=λcs b=>noSelect_spec hsel i o cs b ho';have hd':=hd.set hir;have hWo:=hW o (List.mem_of_getElem? ho);have V9:∀j w',kept (Xs ops) O j w'->kept (Xs ops) ((i,λ_=>True)::O) j w':=by
      intro j w' h p hp hb;rcases mem_cons.1 hp with rfl | hp
      ·trivial
      ·exact h p hp hb
     rcases Zx ha h with ⟨hw,fr',ha',h⟩ | ⟨hw,fr',ha',h⟩
     ·split at h
      ·obtain ⟨v,ov,hr,hf,h⟩:=qed hs ha' h;refine YB hsel hap hQp ho (S:=λ_=>True) (v:=v) n listed a w hd hir (.inl ⟨hw,λw' _=>hr w'⟩) trivial ?_;exact JQ V9 _ _ _ _ (ih _ _ _ _ _ (ha'.put hf) (hk.put hWo v) hd' h)
      ·split at h
       ·rename_i t x hop;split at h
        ·rename_i ad hx;obtain ⟨v,S,hS,hr,h⟩:=qo3 h;refine YB hsel hap hQp ho (S:=S) (v:=v) n listed a w hd hir (.inl ⟨hw,λw' hw'=>?_⟩) hS (ih _ _ _ _ _ (ha'.put (.some v)) (hk.put hWo v) hd' h);simp [execOp,hop,ha'.ev hx,hr w' hw']
        ·exact h.elim
       ·exact h.elim
     ·refine YB hsel hap hQp ho (S:=λ_=>True) (v:=undef) n listed a w hd hir (.inr ⟨hw,rfl⟩) trivial ?_;exact JQ V9 _ _ _ _ (ih _ _ _ _ _ (ha'.put (.some undef)) (hk.put hWo undef) hd' h)
   ·refine ⟨λhx=>absurd hx hne,λj hj=>?_⟩;have h:=q3n h j (Js.2 hj);have hjr:=Qo.2 hj;split at h
    ·exact h.elim
    ·rename_i o ho;have ho':ops.toArray[j]?=some o:=by simpa using ho
     have hs:∀cs b,o.op≠.select cs b:=λcs b=>noSelect_spec hsel j o cs b ho';have hd':=hd.set hjr;have hWo:=hW o (List.mem_of_getElem? ho);refine ⟨o,ho,?_⟩;rcases Zx ha h with ⟨hw,fr',ha',h⟩ | ⟨hw,fr',ha',h⟩
     ·refine .inr ?_;unfold Go.wpOp;simp only [ho',hw,if_true];refine .inl (Oper.wp_mono ?_ (qvs hp hs ha' h));rintro a' w' ⟨ov,v,rfl,hf,h⟩;obtain ⟨h1,h2⟩:=q6u h;exact ⟨h1,ih _ _ _ _ _ (ha'.put hf) (hk.put hWo v) hd' h2⟩
     ·exact .inl ⟨undef,.inr ⟨hw,rfl⟩,ih _ _ _ _ _ (ha'.put (.some undef)) (hk.put hWo undef) hd' h⟩
inductive X where
 | normal | exit (id:Nat) | ret
abbrev Ks:=List (Nat×Kind)
def Den:Ks->Type
 | []=>Unit
 | p::r=>p.2.T×Den r
def q0y:(ks:Ks)->Fr->Option (Den ks)
 | [],_=>some ()
 | p::r,fr=>match fr.getD p.1 none with
  | none=>none
  | some v=>match p.2.get v with
   | none=>none
   | some x=>match q0y r fr with
    | none=>none
    | some s=>some (x,s)
def zjq:(ks:Ks)->Den ks->Fr->Fr
 | [],_,fr=>fr
 | p::r,s,fr=>zjq r s.2 (fr.set p.1 (some (p.2.enc s.1)))
def qvq (W:List Nat) (fr:Fr):Fr:=W.foldl (λf i=>f.set i none) fr
def head (ks:Ks) (W:List Nat) (fr:Fr) (s:Den ks):Fr:=zjq ks s (qvq W fr)
def quv (ks:Ks) (J:Den ks->World->Prop) (fr:Fr) (w:World):Prop :=
 match q0y ks fr with
 | some s=>J s w
 | none=>False
def zf {σ:Type} (K:σ->World->Prop) (body:(σ->World->Prop)->Prop):Prop:=∀J:σ->World->Prop,(∀s w,K s w->J s w)->body J
def zh {σ:Type} (body:(σ->World->Prop)->σ->World->Prop) (s0:σ) (w0:World):Prop:=∀I:σ->World->Prop,(∀s w,body I s w->I s w)->I s0 w0
inductive Ann where
 | none
 | join (ks:Ks) (W:List Nat)
 | jn (ks:Ks)
 | dead
 | cut (n:Nat) (ks:Ks)
 | dag (ks:Ks) (W:List Nat) (st:List (List Bool×Ks))
def zl8 (l W:List Nat):Bool:=l.all λi=>W.elem i
def qt5 (ops:List Oper):List Nat:=ops.filterMap (·.dst)
def jK:Code->List Nat
 | .region _ ops _=>qt5 ops.toList
 | .seq x y=>jK x++jK y
 | .cond _ x y=>jK x++jK y
 | .block _ x=>jK x
 | .loop x=>jK x
 | .scope x=>jK x
 | _=>[]
def cnt:Code->Nat
 | .seq x y=>1+cnt x+cnt y
 | .cond _ x y=>cnt x+cnt y
 | .block _ x=>cnt x
 | .loop x=>1+cnt x
 | .scope x=>cnt x
 | _=>0
def q8e (ops:List Oper):Bool:=ops.all λo=>match o.op with | .select ..=>false | _=>true
def qln:List Bool->Nat
 | []=>0
 | b::l=>cond b (qln l) (qln l+1)
def zjo:List Bool->List Bool->Bool
 | [],[]=>true
 | a::x,b::y=>(a==b) && zjo x y
 | _,_=>false
abbrev Tb:=List (List Bool×(Fr->World->Prop))
def zda:Tb->List Bool->Option (Fr->World->Prop)
 | [],_=>none
 | p::r,l=>cond (zjo p.1 l) (some p.2) (zda r l)
def vcT (C:Cx) (ops:List Oper) (ms:List Nat) (O:Obl) (tb:Tb):Nat->List Bool->Fr->World->(Fr->World->Prop)->Prop
 | 0,listed,fr,w,K=>match qsr ops listed with
  | []=>K fr w
  | _=>False
 | n+1,listed,fr,w,K=>match qsr ops listed with
  | []=>K fr w
  | r=>match qe5 C ops r with
   | some i=>match ops[i]? with
    | none=>False
    | some o=>qnr ops fr o (λfr=>match cls C o with
      | 0=>q3p C fr o λv=>vcT C ops ms O tb n (listed.set i true) (qm0 fr o.dst v) w K
      | _=>False)
      (λfr=>vcT C ops ms O tb n (listed.set i true) (qm0 fr o.dst (some undef)) w K)
   | none=>match zda tb listed with
    | some F=>F fr w
    | none=>zdg (λj=>match ops[j]? with
     | none=>False
     | some o=>qnr ops fr o (λfr=>hvK C fr o w λv w'=>obl ms j w' (vcT C ops ms O tb n (listed.set j true) (qm0 fr o.dst v) w' K) O)
       (λfr=>vcT C ops ms O tb n (listed.set j true) (qm0 fr o.dst (some undef)) w K)) r
def qqj (ops:List Oper) (l0:List Bool):List Nat:=(List.range ops.length).filterMap λi=>cond (l0.getD i true) none (match ops[i]? with
 | some o=>o.dst
 | none=>none)
def vcJ (C:Cx) (ops:List Oper) (ms:List Nat) (O:Obl) (l0:List Bool) (fr0:Fr) (K:Fr->World->Prop):List (List Bool×Ks)->Tb->(Tb->Prop)->Prop
 | [],tb,B=>B tb
 | p::r,tb,B=>zf (λs w=>vcT C ops ms O tb (qln p.1) p.1 (head p.2 (qqj ops l0) fr0 s) w K) λJ=>vcJ C ops ms O l0 fr0 K r ((p.1,quv p.2 J)::tb) B
def vcS (C:Cx) (ops:List Oper) (fin:List Bool->Fr->World->Obl->Prop):Nat->List Bool->Fr->World->Obl->Prop
 | 0,_,_,_,_=>False
 | n+1,listed,fr,w,O=>match qe5 C ops (qsr ops listed) with
  | some i=>match ops[i]? with
   | none=>False
   | some o=>qnr ops fr o (λfr=>match cls C o with
     | 0=>q3p C fr o λv=>vcS C ops fin n (listed.set i true) (qm0 fr o.dst v) w O
     | _=>match o.op with
      | .load t x=>match ev fr x with
       | some (.pointer (some a))=>ldK C t a w λv S=>vcS C ops fin n (listed.set i true) (qm0 fr o.dst (some v)) w ((i,S)::O)
       | _=>False
      | _=>False)
     (λfr=>vcS C ops fin n (listed.set i true) (qm0 fr o.dst (some undef)) w O)
  | none=>fin listed fr w O
def zhz (C:Cx):Code->List (List Bool×Ks)->(Fr->World->Prop)->Fr->World->Prop
 | .region _ ops true,st,K,fr,w=>qhw (q8e ops.toList && YF ops.toList) (vcS C ops.toList (λl fr w O=>vcJ C ops.toList (Xs ops.toList) O l fr K st [] λtb=>vcT C ops.toList (Xs ops.toList) O tb (qln l) l fr w K) ops.toList.length (List.replicate ops.toList.length false) fr w.drew [])
 | _,_,_,_,_=>False
def vc (C:Cx):Code->List Ann->(X->Fr->World->Prop)->Fr->World->Prop
 | .skip,_,Q,fr,w=>Q .normal fr w
 | .region _ ops false,_,Q,fr,w=>qhw (q8e ops.toList) (q0r C ops.toList ops.toList fr w (Q .normal))
 | .region _ ops true,_,Q,fr,w=>qhw (q8e ops.toList && YF ops.toList) (vcD C ops.toList (Xs ops.toList) ops.toList.length (List.replicate ops.toList.length false) fr w.drew [] (Q .normal))
 | .seq x y,ann,Q,fr,w=>match ann with
  | .none::r=>vc C x r (λe fr w=>match e with | .normal=>vc C y (r.drop (cnt x)) Q fr w | e=>Q e fr w) fr w
  | .join ks W::r=>qhw (zl8 (jK x) W) (zf (λs w=>vc C y (r.drop (cnt x)) Q (head ks W fr s) w) λJ=>vc C x r (λe fr' w'=>match e with | .normal=>quv ks J fr' w' | e=>Q e fr' w') fr w)
  | .dag ks W st::r=>qhw (zl8 (jK x) W) (zf (λs w=>vc C y (r.drop (cnt x)) Q (head ks W fr s) w) λJ=>zhz C x st (quv ks J) fr w)
  | .dead::_=>False
  | .cut n ks::r=>match x with
   | .region _ ops false=>qhw (q8e ops.toList) (zf (λs w=>q0r C ops.toList (ops.toList.drop n) (head ks (qt5 ops.toList) fr s) w λfr w=>vc C y (r.drop (cnt x)) Q fr w) λJ=>q0r C ops.toList (ops.toList.take n) fr w (quv ks J))
   | _=>False
  | .jn ks::r=>zf (λs w=>vc C y (r.drop (cnt x)) Q (head ks (jK x) fr s) w) λJ=>vc C x r (λe fr' w'=>match e with | .normal=>quv ks J fr' w' | e=>Q e fr' w') fr w
  | []=>vc C x [] (λe fr w=>match e with | .normal=>vc C y [] Q fr w | e=>Q e fr w) fr w
 | .loop c,ann,Q,fr,w=>match ann with
  | .join ks W::r=>match q0y ks fr with
   | some s0=>qhw (zl8 (jK c) W) (zh (λI s w=>vc C c r (λe fr' w'=>match e with | .normal=>quv ks I fr' w' | e=>Q e fr' w') (head ks W fr s) w) s0 w)
   | none=>False
  | .jn ks::r=>match q0y ks fr with
   | some s0=>zh (λI s w=>vc C c r (λe fr' w'=>match e with | .normal=>quv ks I fr' w' | e=>Q e fr' w') (head ks (jK c) fr s) w) s0 w
   | none=>False
  | _=>False
 | .cond c x y,ann,Q,fr,w=>match ev fr c with
  | some (.bool b)=>cond b (vc C x ann Q fr w) (vc C y (ann.drop (cnt x)) Q fr w)
  | _=>False
 | .block id x,ann,Q,fr,w=>vc C x ann (λe fr w=>match e with
  | .exit i=>cond (Nat.beq i id) (Q .normal fr w) (Q (.exit i) fr w)
  | e=>Q e fr w) fr w
 | .scope x,ann,Q,fr,w=>vc C x ann Q fr w
 | .exit id,_,Q,fr,w=>Q (.exit id) fr w
 | .ret,_,Q,fr,w=>Q .ret fr w
 | .label _,_,Q,fr,w=>Q .normal fr w
 | _,_,_,_,_=>False
def qrn (W:List Nat) (a0:Act) (Q:X->Fr->World->Prop):Exit->Act->World->Prop
 | .normal,a,w=>qdl W a0 (Q .normal) a w
 | .exit id,a,w=>qdl W a0 (Q (.exit id)) a w
 | .ret,a,w=>qdl W a0 (Q .ret) a w
 | _,_,_=>False
theorem qdl.mono {W W':List Nat} {a0 a:Act} {K K':Fr->World->Prop} {w:World} (h:qdl W a0 K a w) (hW:∀i,i∈W->i∈W') (hK:∀fr w,K fr w->K' fr w):qdl W' a0 K' a w:=by
 obtain ⟨fr,ha,hk,h⟩:=h;exact ⟨fr,ha,hk.mono hW,hK _ _ h⟩
theorem qdl.after {W:List Nat} {a0 a1 a:Act} {K:Fr->World->Prop} {w:World} (hk:Keep W a0 a1) (h:qdl W a1 K a w):qdl W a0 K a w:=by
 obtain ⟨fr,ha,hk',h⟩:=h;exact ⟨fr,ha,hk.trans hk',h⟩
theorem qg5 {ks:Ks}:∀{fr0 fr:Fr} {s:Den ks} {a:Act},Agree fr a->Agree fr0 a->q0y ks fr=some s->Agree (zjq ks s fr0) a:=by
 induction ks with
 | nil=>intro fr0 fr s a _ h0 _;exact h0
 | cons p r ih =>
  intro fr0 fr s a ha h0 h;unfold q0y at h;split at h
  ·cases h
  ·rename_i v hv;split at h
   ·cases h
   ·rename_i x hx;split at h
    ·cases h
    ·rename_i s' hs';obtain rfl:=Option.some.inj h;refine ih ha ?_ hs';have hval:=Kind.get_enc hx;refine ⟨by simp [h0.len],λi u hu=>?_,h0.nod⟩;by_cases hi:i=p.1
     ·subst hi;by_cases hl:p.1<fr0.length
      ·rw [List.getElem?_set_self hl] at hu;have hu':=Option.some.inj (Option.some.inj hu);rw [<-hu',<-hval];rw [List.getD_eq_getElem?_getD] at hv;cases hy:fr[p.1]? with
       | none=>simp [hy] at hv
       | some z=>simp [hy] at hv;subst hv;exact ha.at_ _ _ hy
      ·rw [List.getElem?_eq_none (by simpa using hl)] at hu;cases hu
     ·rw [List.getElem?_set_ne (Ne.symm hi)] at hu;exact h0.at_ i u hu
theorem zax:∀(W:List Nat) (fr:Fr),(qvq W fr).length=fr.length/\∀(i:Nat) (v:Value),(qvq W fr)[i]?=some (some v)->i ∉ W/\fr[i]?=some (some v):=by
 intro W
 induction W with
 | nil=>intro fr;exact ⟨rfl,λi v h=>⟨by simp,h⟩⟩
 | cons j r ih =>
  intro fr;have hu:qvq (j::r) fr=qvq r (fr.set j none):=rfl;rw [hu];obtain ⟨h1,h2⟩:=ih (fr.set j none);refine ⟨by rw [h1];simp,λi v h=>?_⟩;obtain ⟨h3,h4⟩:=h2 i v h;by_cases hij:i=j
  ·subst hij;by_cases hl:i<fr.length
   ·rw [List.getElem?_set_self hl] at h4;cases h4
   ·rw [List.getElem?_eq_none (by simpa using hl)] at h4;cases h4
  ·rw [List.getElem?_set_ne (Ne.symm hij)] at h4;exact ⟨by simp [hij,h3],h4⟩
theorem Kf {fr:Fr} {a a':Act} {W:List Nat} (ha:Agree fr a) (hk:Keep W a a') (hd:a'.defers=[]):Agree (qvq W fr) a':=by
 obtain ⟨h1,h2⟩:=zax W fr;refine ⟨by rw [h1,ha.len,hk.size],λi v h=>?_,hd⟩;obtain ⟨hi,hv⟩:=h2 i v h;rw [hk.out i hi];exact ha.at_ i v hv
theorem qy2 {l W:List Nat} (h:zl8 l W=true) (i:Nat) (hi:i∈l):i∈W:=by
 have:=all_eq_true.1 h i hi;simpa using this
theorem qj7 {ops:Array Oper} (h:q8e ops.toList=true):Region.noSelect ops=true:=by
 unfold Region.noSelect;rw [Array.all_eq_true_iff_forall_mem];exact λo ho=>all_eq_true.1 h o (Array.mem_toList_iff.2 ho)
theorem qh3 {ops:List Oper} {o:Oper} (ho:o∈ops) {d:Nat} (hd:o.dst=some d):d∈qt5 ops:=List.mem_filterMap.2 ⟨o,ho,hd⟩
theorem q71 {P:Program} {c:Code} {Q:Exit->Act->World->Prop} {a:Act} {w:World}
  (h:∀R:Act->World->Prop,(∀a w,c.wp P (Exit.then R Q) a w->R a w)->R a w):(Code.loop c).wp P Q a w:=by
 intro b k cs;have:=h (λa w=>∃e a' w',Q e a' w'/\Arrives P (lone (b.at a (.code c::.inLoop c::k)) cs w) b k cs e a' w') (by
  intro a w hc;obtain ⟨e,a₁,w₁,hq,harr⟩:=hc b (.inLoop c::k) cs;cases e with
  | normal =>
   obtain ⟨e₂,a₂,w₂,hq₂,harr₂⟩:=hq;exact ⟨e₂,a₂,w₂,hq₂,.of_steps (Steps.trans harr (.one step_inLoop)) harr₂⟩
  | exit id=>exact ⟨_,a₁,w₁,hq,.pass (x:=.inLoop c) rfl (λ_ _=>.inl (by simp)) harr⟩
  | goto l=>exact ⟨_,a₁,w₁,hq,.pass (x:=.inLoop c) rfl (λ_ _=>.inl (by simp)) harr⟩
  | ret=>exact ⟨_,a₁,w₁,hq,.pass (x:=.inLoop c) rfl (λ_ _=>.inl (by simp)) harr⟩
  | panic ch=>exact ⟨_,a₁,w₁,hq,.pass (x:=.inLoop c) rfl (λ_ _=>.inl (by simp)) harr⟩
  | outgrown=>exact ⟨_,a₁,w₁,hq,.pass (x:=.inLoop c) rfl (λ_ _=>.inl (by simp)) harr⟩)
 obtain ⟨e,a',w',hq,harr⟩:=this;exact ⟨e,a',w',hq,.of_steps (.one step_loop) harr⟩
theorem qz2:∀{l:List Bool} {i:Nat},l.getD i true=false->qln l=qln (l.set i true)+1
 | [],i,h=>by simp at h
 | b::l,0,h=>by
  have h:b=false:=by simpa using h
  subst h;rfl
 | b::l,i+1,h=>by
  have h:l.getD i true=false:=by simpa using h
  have ih:=qz2 h;cases b
  ·show qln l+1=(qln (l.set i true)+1)+1;rw [ih]
  ·exact ih
theorem q9e:∀n,qln (List.replicate n false)=n
 | 0=>rfl
 | n+1=>by
  show qln (List.replicate n false)+1=n+1;rw [q9e n]
theorem zcy:∀{a b:List Bool},zjo a b=true->a=b
 | [],[],_=>rfl
 | x::a,y::b,h=>by
  have h:((x==y) && zjo a b)=true:=h;rw [Bool.and_eq_true] at h;rw [eq_of_beq h.1,zcy h.2]
 | [],_::_,h=>by cases h
 | _::_,[],h=>by cases h
theorem zc0 {ops:List Oper} {listed:List Bool} (hr:qsr ops listed=[]):Region.ready .any ops.toArray listed.toArray=[]:=by
 cases hx:Region.ready .any ops.toArray listed.toArray with
 | nil=>rfl
 | cons j r =>
  have:j∈qsr ops listed:=Js.2 (by rw [hx];simp);rw [hr] at this;cases this
theorem zm5 {ops:List Oper} {listed:List Bool} (hr:qsr ops listed=[]->False):Region.ready .any ops.toArray listed.toArray≠[]:=by
 intro hx;refine hr ?_;cases hy:qsr ops listed with
 | nil=>rfl
 | cons j r =>
  have:j∈Region.ready .any ops.toArray listed.toArray:=Js.1 (by rw [hy];simp);rw [hx] at this;cases this
theorem V9 {ms:List Nat} {O:Obl} {i:Nat} (j:Nat) (w':World) (h:kept ms O j w'):kept ms ((i,λ_=>True)::O) j w':=by
 intro p hp hb;rcases mem_cons.1 hp with rfl | hp
 ·trivial
 ·exact h p hp hb
def Up (l0 l:List Bool):Prop:=∀i,l.getD i true=false->l0.getD i true=false
theorem Up.set {l0 l:List Bool} (h:Up l0 l) (j:Nat):Up l0 (l.set j true):=λi hi=>h i (by
 rw [List.getD_eq_getElem?_getD] at hi ⊢;rw [List.getElem?_set] at hi;split at hi
 ·split at hi<;>simp at hi
 ·exact hi)
theorem q31 {ops:List Oper} {l0:List Bool} {i:Nat} {o:Oper} (ho:ops[i]?=some o) (hi:l0.getD i true=false) {d:Nat} (hd:o.dst=some d):d∈qqj ops l0:=by
 refine List.mem_filterMap.2 ⟨i,mem_range.2 (List.getElem?_eq_some_iff.1 ho).1,?_⟩;rw [hi,ho];exact hd
theorem zey {ops:List Oper} {l0:List Bool} {d:Nat} (h:d∈qqj ops l0):d∈qt5 ops:=by
 obtain ⟨i,_,h⟩:=List.mem_filterMap.1 h;cases hl:l0.getD i true with
 | true=>rw [hl] at h;cases h
 | false =>
  rw [hl] at h;have h:(match ops[i]? with
   | some o=>o.dst
   | none=>none)=some d:=h
  split at h
  ·rename_i o ho;exact qh3 (List.mem_of_getElem? ho) h
  ·cases h
def znd (C:Cx) (ops:List Oper) (Q:Exit->Act->World->Prop) (l0:List Bool) (a0:Act) (O:Obl) (tb:Tb):Prop :=
 ∀L F,zda tb L=some F->∀fr a w,Agree fr a->Keep (qqj ops l0) a0 a->Dn ops L->Up l0 L->F fr w->wpO C.P ops Q O (qln L) L a w
theorem q2t {C:Cx} (hp:∀g,C.plain g=true->yO C.P g=true) {ops:List Oper} {l0:List Bool} {a0:Act} {K:Fr->World->Prop} {Q:Exit->Act->World->Prop} (hsel:Region.noSelect ops.toArray=true) (hap:YF ops=true)
  (hQ:∀a w,qdl (qqj ops l0) a0 K a w->Q .normal a w) (hQp:∀c a w,¬Q (.panic c) a w) {O:Obl} {tb:Tb} (htb:znd C ops Q l0 a0 O tb) :
  ∀(n:Nat) (listed:List Bool) (fr:Fr) (a:Act) (w:World),qln listed=n->Agree fr a->Keep (qqj ops l0) a0 a->Dn ops listed->Up l0 listed->vcT C ops (Xs ops) O tb n listed fr w K->wpO C.P ops Q O n listed a w:=by
 intro n
 induction n with
 | zero =>
  intro listed fr a w hc ha hk hd hu h;unfold vcT at h;split at h
  ·rename_i hr;exact ⟨zc0 hr,hQ a w ⟨fr,ha,hk,h⟩⟩
  ·exact h.elim
 | succ n ih =>
  intro listed fr a w hc ha hk hd hu h;unfold vcT at h;split at h
  ·rename_i hr;exact ⟨λ_=>hQ a w ⟨fr,ha,hk,h⟩,λj hj=>by rw [zc0 hr] at hj;cases hj⟩
  ·rename_i hr;have hne:=zm5 hr;have step:∀{i:Nat},qc9 ops listed i=true->qln (listed.set i true)=n:=λhi=>by
    have:=qz2 (Zt hi);omega
   split at h
   ·rename_i i hl;have hir:qc9 ops listed i=true:=Qo.2 (Js.1 (qnh hl));split at h
    ·exact h.elim
    ·rename_i o ho;have ho':ops.toArray[i]?=some o:=by simpa using ho
     have hs:∀cs b,o.op≠.select cs b:=λcs b=>noSelect_spec hsel i o cs b ho';have hd':=hd.set hir;have hWo:=λd hd=>q31 (d:=d) ho (hu i (Zt hir)) hd;rcases Zx ha h with ⟨hw,fr',ha',h⟩ | ⟨hw,fr',ha',h⟩
     ·split at h
      ·obtain ⟨v,ov,hr,hf,h⟩:=qed hs ha' h;refine YB hsel hap hQp ho (S:=λ_=>True) (v:=v) n listed a w hd hir (.inl ⟨hw,λw' _=>hr w'⟩) trivial ?_;exact JQ V9 _ _ _ _ (ih _ _ _ _ (step hir) (ha'.put hf) (hk.put hWo v) hd' (hu.set _) h)
      ·exact h.elim
     ·refine YB hsel hap hQp ho (S:=λ_=>True) (v:=undef) n listed a w hd hir (.inr ⟨hw,rfl⟩) trivial ?_;exact JQ V9 _ _ _ _ (ih _ _ _ _ (step hir) (ha'.put (.some undef)) (hk.put hWo undef) hd' (hu.set _) h)
   ·split at h
    ·rename_i F hF;have:=htb listed F hF fr a w ha hk hd hu h;rw [hc] at this;exact this
    ·refine ⟨λhx=>absurd hx hne,λj hj=>?_⟩;have h:=q3n h j (Js.2 hj);have hjr:=Qo.2 hj;split at h
     ·exact h.elim
     ·rename_i o ho;have ho':ops.toArray[j]?=some o:=by simpa using ho
      have hs:∀cs b,o.op≠.select cs b:=λcs b=>noSelect_spec hsel j o cs b ho';have hd':=hd.set hjr;have hWo:=λd hd=>q31 (d:=d) ho (hu j (Zt hjr)) hd;refine ⟨o,ho,?_⟩;rcases Zx ha h with ⟨hw,fr',ha',h⟩ | ⟨hw,fr',ha',h⟩
      ·refine .inr ?_;unfold Go.wpOp;simp only [ho',hw,if_true];refine .inl (Oper.wp_mono ?_ (qvs hp hs ha' h));rintro a' w' ⟨ov,v,rfl,hf,h⟩;obtain ⟨h1,h2⟩:=q6u h;exact ⟨h1,ih _ _ _ _ (step hjr) (ha'.put hf) (hk.put hWo v) hd' (hu.set _) h2⟩
      ·exact .inl ⟨undef,.inr ⟨hw,rfl⟩,ih _ _ _ _ (step hjr) (ha'.put (.some undef)) (hk.put hWo undef) hd' (hu.set _) h⟩
theorem zd1 {C:Cx} (hp:∀g,C.plain g=true->yO C.P g=true) {ops:List Oper} {a0:Act} {l0:List Bool} {fr0:Fr} {K:Fr->World->Prop} {Q:Exit->Act->World->Prop} (hsel:Region.noSelect ops.toArray=true) (hap:YF ops=true)
  (hQ:∀a w,qdl (qqj ops l0) a0 K a w->Q .normal a w) (hQp:∀c a w,¬Q (.panic c) a w) {O:Obl} (h0:Agree fr0 a0) {X:Prop} {B:Tb->Prop} (hB:∀tb,znd C ops Q l0 a0 O tb->B tb->X) :
  ∀(st:List (List Bool×Ks)) (tb:Tb),znd C ops Q l0 a0 O tb->vcJ C ops (Xs ops) O l0 fr0 K st tb B->X:=by
 intro st
 induction st with
 | nil=>exact λtb htb h=>hB tb htb h
 | cons p r ih =>
  intro tb htb h;obtain ⟨L,ks⟩:=p;have h:=h (λs w=>∀a,Agree (head ks (qqj ops l0) fr0 s) a->Keep (qqj ops l0) a0 a->Dn ops L->Up l0 L->wpO C.P ops Q O (qln L) L a w)
   λs w hb a ha hk hd hu=>q2t hp hsel hap hQ hQp htb _ L _ a w rfl ha hk hd hu hb
  refine ih _ (λL' F hF fr a w ha hk hd hu hl=>?_) h;unfold zda at hF;cases he:zjo L L' with
  | false =>
   dsimp only at hF;rw [he] at hF;exact htb L' F hF fr a w ha hk hd hu hl
  | true =>
   dsimp only at hF;rw [he] at hF;obtain rfl:=zcy he;obtain rfl:=Option.some.inj hF;unfold quv at hl;split at hl
   ·rename_i s hs;exact hl a (qg5 ha (Kf h0 hk ha.nod) hs) hk hd hu
   ·exact hl.elim
theorem zfp {C:Cx} {ops:List Oper} {W:List Nat} {a0:Act} {Q:Exit->Act->World->Prop} (hsel:Region.noSelect ops.toArray=true) (hap:YF ops=true)
  (hQp:∀c a w,¬Q (.panic c) a w) (hW:∀o∈ops,∀d,o.dst=some d->d∈W) {fin:List Bool->Fr->World->Obl->Prop}
  (hfin:∀listed fr a w O,Agree fr a->Keep W a0 a->Dn ops listed->fin listed fr w O->wpO C.P ops Q O (qln listed) listed a w) :
  ∀(n:Nat) (listed:List Bool) (fr:Fr) (a:Act) (w:World) (O:Obl),qln listed=n->Agree fr a->Keep W a0 a->Dn ops listed->vcS C ops fin n listed fr w O->wpO C.P ops Q O n listed a w:=by
 intro n
 induction n with
 | zero=>intro listed fr a w O hc ha hk hd h;exact h.elim
 | succ n ih =>
  intro listed fr a w O hc ha hk hd h;unfold vcS at h;split at h
  ·rename_i i hl;have hir:qc9 ops listed i=true:=Qo.2 (Js.1 (qnh hl));have hc':qln (listed.set i true)=n:=by
    have:=qz2 (Zt hir);omega
   split at h
   ·exact h.elim
   ·rename_i o ho;have ho':ops.toArray[i]?=some o:=by simpa using ho
    have hs:∀cs b,o.op≠.select cs b:=λcs b=>noSelect_spec hsel i o cs b ho';have hd':=hd.set hir;have hWo:=hW o (List.mem_of_getElem? ho);rcases Zx ha h with ⟨hw,fr',ha',h⟩ | ⟨hw,fr',ha',h⟩
    ·split at h
     ·obtain ⟨v,ov,hr,hf,h⟩:=qed hs ha' h;refine YB hsel hap hQp ho (S:=λ_=>True) (v:=v) n listed a w hd hir (.inl ⟨hw,λw' _=>hr w'⟩) trivial ?_;exact JQ V9 _ _ _ _ (ih _ _ _ _ _ hc' (ha'.put hf) (hk.put hWo v) hd' h)
     ·split at h
      ·rename_i t x hop;split at h
       ·rename_i ad hx;obtain ⟨v,S,hS,hr,h⟩:=qo3 h;refine YB hsel hap hQp ho (S:=S) (v:=v) n listed a w hd hir (.inl ⟨hw,λw' hw'=>?_⟩) hS (ih _ _ _ _ _ hc' (ha'.put (.some v)) (hk.put hWo v) hd' h);simp [execOp,hop,ha'.ev hx,hr w' hw']
       ·exact h.elim
      ·exact h.elim
    ·refine YB hsel hap hQp ho (S:=λ_=>True) (v:=undef) n listed a w hd hir (.inr ⟨hw,rfl⟩) trivial ?_;exact JQ V9 _ _ _ _ (ih _ _ _ _ _ hc' (ha'.put (.some undef)) (hk.put hWo undef) hd' h)
  ·have:=hfin listed fr a w O ha hk hd h;rw [hc] at this;exact this
theorem q8q {C:Cx} (hp:∀g,C.plain g=true->yO C.P g=true) (hm:C.P.follows .mixedOrders=true) {c:Code} {st:List (List Bool×Ks)} {K:Fr->World->Prop} {fr:Fr} {a:Act} {w:World} (ha:Agree fr a) (h:zhz C c st K fr w) :
  c.wp C.P (qrn (jK c) a λe fr w=>match e with | .normal=>K fr w | _=>False) a w:=by
 unfold zhz at h;split at h
 ·rename_i id ops;obtain ⟨h1,h⟩:=vE h;rw [Bool.and_eq_true] at h1;refine wp_region_any hm ?_;have e:ops=ops.toList.toArray:=by simp
  have hn:Region.noSelect ops.toList.toArray=true:=by rw [<-e];exact qj7 h1.1
  have hd:Dn ops.toList (List.replicate ops.toList.length false):=by
   intro j o ho hl;rw [List.getD_eq_getElem?_getD] at hl;by_cases hj:j<ops.toList.length
   ·rw [List.getElem?_replicate_of_lt hj] at hl;simp at hl
   ·rw [List.getElem?_eq_none (by simpa using hj)] at hl;simp at hl
  have:=zc4 _ _ _ _ (zfp (a0:=a) (W:=qt5 ops.toList) (Q:=qrn (qt5 ops.toList) a λe fr w=>match e with | .normal=>K fr w | _=>False) hn h1.2 (λc a w h=>h) (λo ho d hd=>qh3 ho hd)
   (λlisted fr1 a1 w1 O ha1 hk1 hd1 hf=>
    have hQ:∀a2 w,qdl (qqj ops.toList listed) a1 K a2 w->qrn (qt5 ops.toList) a (λe fr w=>match e with | .normal=>K fr w | _=>False) .normal a2 w:=λa2 w h=>qdl.after hk1 (h.mono (λi hi=>zey hi) λ_ _ h=>h)
    zd1 hp hn h1.2 hQ (λc a w h=>h) ha1 (λtb htb hb=>q2t hp hn h1.2 hQ (λc a w h=>h) htb _ listed fr1 a1 w1 rfl ha1 (.refl _ _) hd1 (λ_ h=>h) hb) st [] (λL F hF=>by cases hF) hf)
   ops.toList.length (List.replicate ops.toList.length false) fr a w.drew [] (q9e _) ha (.refl _ _) hd h)
  rw [<-e] at this;simpa [jK] using this
 ·exact h.elim
theorem qkg {W W':List Nat} {a0 a1:Act} {Q:X->Fr->World->Prop} (hk:Keep W' a0 a1) (hW:∀i,i∈W->i∈W'):∀(e:Exit) (a:Act) (w:World),qrn W a1 Q e a w->qrn W' a0 Q e a w:=by
 intro e a w h;cases e with
 | normal=>exact qdl.after hk (h.mono hW λ_ _ h=>h)
 | exit id=>exact qdl.after hk (h.mono hW λ_ _ h=>h)
 | ret=>exact qdl.after hk (h.mono hW λ_ _ h=>h)
 | _=>exact h
theorem q0j {W W':List Nat} {a:Act} {Q:X->Fr->World->Prop} {N:Fr->World->Prop} {G:Act->World->Prop} (hW:∀i,i∈W->i∈W')
  (hN:∀fr a1 w1,Agree fr a1->Keep W a a1->N fr w1->G a1 w1) :
  ∀e a1 w1,qrn W a (λe fr w=>match e with | .normal=>N fr w | e=>Q e fr w) e a1 w1->Exit.then G (qrn W' a Q) e a1 w1:=by
 intro e a1 w1 hq;cases e with
 | normal=>obtain ⟨fr,h1,h2,h3⟩:=hq;exact hN fr a1 w1 h1 h2 h3
 | exit id=>exact qkg (Q:=Q) (.refl _ _) hW (.exit id) _ _ hq
 | ret=>exact qkg (Q:=Q) (.refl _ _) hW .ret _ _ hq
 | _=>exact hq
theorem zay {W:List Nat} {a:Act} {Q:X->Fr->World->Prop} {id:Nat} :
  ∀e a1 w1,qrn W a (λe fr w=>match e with | .exit i=>cond (Nat.beq i id) (Q .normal fr w) (Q (.exit i) fr w) | e=>Q e fr w) e a1 w1->Exit.inBlock id (qrn W a Q) e a1 w1:=by
 intro e a1 w1 hq;cases e with
 | exit i =>
  have hq:qdl W a (λfr w=>cond (Nat.beq i id) (Q .normal fr w) (Q (.exit i) fr w)) a1 w1:=hq;by_cases hi:i=id
  ·subst hi;simp only [Exit.inBlock,if_true];rw [Nat.beq_refl] at hq;exact hq
  ·simp only [Exit.inBlock,hi,if_false];have hb:Nat.beq i id=false:=by
    cases hb:Nat.beq i id with
    | false=>rfl
    | true=>exact absurd (Nat.eq_of_beq_eq_true hb) hi
   rw [hb] at hq;exact hq
 | _=>exact hq
theorem zjk {C:Cx} (hp:∀g,C.plain g=true->yO C.P g=true) (hm:C.P.follows .mixedOrders=true) :
  ∀(c:Code) (ann:List Ann) (Q:X->Fr->World->Prop) (fr:Fr) (a:Act) (w:World),Agree fr a->vc C c ann Q fr w->c.wp C.P (qrn (jK c) a Q) a w:=by
 intro c
 induction c with
 | skip=>intro ann Q fr a w ha h;exact wp_skip ⟨fr,ha,.refl _ _,h⟩
 | region id ops draw =>
  intro ann Q fr a w ha h;cases draw with
  | false =>
   obtain ⟨h1,h⟩:=vE h;refine wp_region_list ?_;have e:ops=ops.toList.toArray:=by simp
   rw [e];exact qwq hp (by rw [<-e];exact qj7 h1) (W:=qt5 ops.toList) (a0:=a) (λa w h=>h) ops.toList (λo ho=>⟨ho,λd hd=>qh3 ho hd⟩) fr a w ha (.refl _ _) h
  | true =>
   obtain ⟨h1,h⟩:=vE h;rw [Bool.and_eq_true] at h1;refine wp_region_any hm ?_;have e:ops=ops.toList.toArray:=by simp
   have hn:Region.noSelect ops.toList.toArray=true:=by rw [<-e];exact qj7 h1.1
   have hd:Dn ops.toList (List.replicate ops.toList.length false):=by
    intro j o ho hl;rw [List.getD_eq_getElem?_getD] at hl;by_cases hj:j<ops.toList.length
    ·rw [List.getElem?_replicate_of_lt hj] at hl;simp at hl
    ·rw [List.getElem?_eq_none (by simpa using hj)] at hl;simp at hl
   have:=zc4 _ _ _ _ (zgj hp hn h1.2 (W:=qt5 ops.toList) (a0:=a) (Q:=qrn (qt5 ops.toList) a Q) (λa w h=>h) (λc a w h=>h) (λo ho d hd=>qh3 ho hd)
    ops.toList.length (List.replicate ops.toList.length false) fr a w.drew [] ha (.refl _ _) hd h)
   rw [<-e] at this;simpa [jK] using this
 | seq x y ihx ihy =>
  intro ann Q fr a w ha h;unfold vc at h;refine wp_seq ?_;have hx:∀i,i∈jK x->i∈jK (.seq x y):=λi hi=>by simp [jK,hi]
  have hy:∀i,i∈jK y->i∈jK (.seq x y):=λi hi=>by simp [jK,hi]
  have S:∀(n n':List Ann),vc C x n (λe fr w=>match e with | .normal=>vc C y n' Q fr w | e=>Q e fr w) fr w->x.wp C.P (Exit.then (y.wp C.P (qrn (jK (.seq x y)) a Q)) (qrn (jK (.seq x y)) a Q)) a w :=
   λn n' h=>wp_mono (ihx n _ fr a w ha h) (q0j hx λfr1 a1 w1 ha1 hk1 hq=>wp_mono (ihy n' Q fr1 a1 w1 ha1 hq) (qkg (hk1.mono hx) hy))
  have J:∀(ks:Ks) (W:List Nat) (n:List Ann),(∀i,i∈jK x->i∈W)->∀fr1 a1 w1,Agree fr1 a1->Keep (jK x) a a1->quv ks (λs w=>vc C y n Q (head ks W fr s) w) fr1 w1->y.wp C.P (qrn (jK (.seq x y)) a Q) a1 w1:=by
   intro ks W n hsub fr1 a1 w1 ha1 hk1 hq;unfold quv at hq;split at hq
   ·rename_i s hs;exact wp_mono (ihy _ Q _ a1 w1 (qg5 ha1 (Kf ha (hk1.mono hsub) ha1.nod) hs) hq) (qkg (hk1.mono hx) hy)
   ·exact hq.elim
  split at h
  ·exact S _ _ h
  ·rename_i ks W r;obtain ⟨hsub,h⟩:=vE h;exact wp_mono (ihx r _ fr a w ha (h _ λ_ _ h=>h)) (q0j hx (J ks W _ (qy2 hsub)))
  ·rename_i ks W st r;obtain ⟨hsub,h⟩:=vE h;refine wp_mono (q8q hp hm ha (h _ λ_ _ h=>h)) ?_;intro e a1 w1 hq;cases e with
   | normal=>obtain ⟨fr1,h1,h2,h3⟩:=hq;exact J ks W _ (qy2 hsub) fr1 a1 w1 h1 h2 h3
   | exit id=>obtain ⟨_,_,_,hq⟩:=hq;exact hq.elim
   | ret=>obtain ⟨_,_,_,hq⟩:=hq;exact hq.elim
   | _=>exact hq
  ·exact h.elim
  ·rename_i n ks r;split at h
   ·rename_i id ops;obtain ⟨h1,h⟩:=vE h;refine wp_region_list ?_;have e:ops=ops.toList.toArray:=by simp
    rw [<-List.take_append_drop n ops.toList,e];have hn:=qj7 h1;rw [e] at hn;have mt:∀o∈ops.toList.take n,o∈ops.toList/\∀d,o.dst=some d->d∈qt5 ops.toList:=λo ho=>⟨List.mem_of_mem_take ho,λd hd=>qh3 (List.mem_of_mem_take ho) hd⟩;have md:∀o∈ops.toList.drop n,o∈ops.toList/\∀d,o.dst=some d->d∈qt5 ops.toList:=λo ho=>⟨List.mem_of_mem_drop ho,λd hd=>qh3 (List.mem_of_mem_drop ho) hd⟩;refine q01 hp hn (W:=qt5 ops.toList) (a0:=a) (λa1 w1 hp1=>?_) _ mt fr a w ha (.refl _ _) (h _ λ_ _ h=>h);obtain ⟨fr1,ha1,hk1,hq⟩:=hp1;unfold quv at hq;split at hq
    ·rename_i s hs;refine qwq hp hn (W:=qt5 ops.toList) (a0:=a) (λa2 w2 hp2=>?_) _ md _ a1 w1 (qg5 ha1 (Kf ha hk1 ha1.nod) hs) hk1 hq;obtain ⟨fr2,ha2,hk2,hq2⟩:=hp2;exact wp_mono (ihy _ Q fr2 a2 w2 ha2 hq2) (qkg (hk2.mono hx) hy)
    ·exact hq.elim
   ·exact h.elim
  ·rename_i ks r;exact wp_mono (ihx r _ fr a w ha (h _ λ_ _ h=>h)) (q0j hx (J ks (jK x) _ λi hi=>hi))
  ·exact S _ _ h
 | cond c x y ihx ihy =>
  intro ann Q fr a w ha h;unfold vc at h;split at h
  ·rename_i b hb;have hc:=ha.ev hb;cases b with
   | true=>exact wp_cond_true hc (wp_mono (ihx _ Q fr a w ha h) (qkg (.refl _ _) λi hi=>by simp [jK,hi]))
   | false=>exact wp_cond_false hc (wp_mono (ihy _ Q fr a w ha h) (qkg (.refl _ _) λi hi=>by simp [jK,hi]))
  ·exact h.elim
 | block id x ih =>
  intro ann Q fr a w ha h;unfold vc at h;exact wp_block (wp_mono (ih ann _ fr a w ha h) zay)
 | loop c ih =>
  intro ann Q fr a w ha h;unfold vc at h;have L:∀(ks:Ks) (W:List Nat) (r:List Ann) (s0:Den ks),(∀i,i∈jK c->i∈W)->q0y ks fr=some s0->zh (λI s w=>vc C c r (λe fr' w'=>match e with | .normal=>quv ks I fr' w' | e=>Q e fr' w') (head ks W fr s) w) s0 w->(Code.loop c).wp C.P (qrn (jK (.loop c)) a Q) a w:=by
   intro ks W r s0 hsub hs0 h;refine q71 λR hR=>?_;have key:=h (λs w=>∀a',Agree (head ks W fr s) a'->Keep (jK c) a a'->R a' w) (by
    intro s w1 hb a1 ha1 hk1;refine hR a1 w1 (wp_mono (ih r _ _ a1 w1 ha1 hb) ?_);intro e a2 w2 hq;cases e with
    | normal =>
     obtain ⟨fr2,ha2,hk2,hq⟩:=hq;unfold quv at hq;simp only at hq;split at hq
     ·rename_i s2 hs2;have hk:Keep (jK c) a a2:=hk1.trans hk2;exact hq a2 (qg5 ha2 (Kf ha (hk.mono hsub) ha2.nod) hs2) hk
     ·exact hq.elim
    | exit id=>exact qdl.after hk1 hq
    | ret=>exact qdl.after hk1 hq
    | _=>exact hq)
   exact key a (qg5 ha (Kf ha (.refl _ _) ha.nod) hs0) (.refl _ _)
  split at h
  ·rename_i ks W r;split at h
   ·rename_i s0 hs0;obtain ⟨hsub,h⟩:=vE h;exact L ks W r s0 (qy2 hsub) hs0 h
   ·exact h.elim
  ·rename_i ks r;split at h
   ·rename_i s0 hs0;exact L ks _ r s0 (λi hi=>hi) hs0 h
   ·exact h.elim
  ·exact h.elim
 | scope x ih =>
  intro ann Q fr a w ha h;unfold vc at h;refine wp_scope_straight (wp_mono (ih ann Q fr a w ha h) ?_);intro e a1 w1 hq;cases e<;>exact hq
 | exit id=>intro ann Q fr a w ha h;exact wp_exit ⟨fr,ha,.refl _ _,h⟩
 | ret=>intro ann Q fr a w ha h;exact wp_ret ⟨fr,ha,.refl _ _,h⟩
 | label l=>intro ann Q fr a w ha h;exact wp_label ⟨fr,ha,.refl _ _,h⟩
 | _=>intro ann Q fr a w ha h;exact h.elim
def qpb (C:Cx) (ks:List Kind):List ResultVar->Fr->World->(List Value->Prop)->Prop
 | [],_,_,K=>K []
 | .tmp t::r,fr,w,K=>match fr.getD t none with
  | some v=>qpb C ks r fr w λl=>K (v::l)
  | none=>False
 | .cell a t::r,fr,w,K=>match fr.getD a none with
  | some (.pointer (some p))=>ldK C t p w λv _=>qpb C ks r fr w λl=>K (v::l)
  | _=>False
def qxw:List Kind->Type
 | []=>Unit
 | k::r=>k.T×qxw r
def zky:(ks:List Kind)->List Value->Option (qxw ks)
 | [],[]=>some ()
 | k::r,v::l=>match k.get v with
  | none=>none
  | some x=>match zky r l with
   | none=>none
   | some s=>some (x,s)
 | _,_=>none
def zaw:(ks:List Kind)->qxw ks->List Value
 | [],_=>[]
 | k::r,s=>k.enc s.1::zaw r s.2
theorem zjc:∀{ks:List Kind} {l:List Value} {s:qxw ks},zky ks l=some s->l=zaw ks s:=by
 intro ks
 induction ks with
 | nil =>
  intro l s h;cases l with
  | nil=>rfl
  | cons v l=>cases h
 | cons k r ih =>
  intro l s h;cases l with
  | nil=>cases h
  | cons v l =>
   unfold zky at h;split at h
   ·cases h
   ·rename_i x hx;split at h
    ·cases h
    ·rename_i s' hs';obtain rfl:=Option.some.inj h;rw [Kind.get_enc hx,ih hs'];rfl
def zg7 (C:Cx) (ks:List Kind) (rs:List ResultVar) (K:qxw ks->World->Prop) (fr:Fr) (w:World):Prop :=
 qpb C ks rs fr w λl=>match zky ks l with
  | some s=>K s w
  | none=>False
def zn9 (C:Cx) (c:Code) (rs:List ResultVar) (n:Nat) (ann:List Ann) (ks:List Kind) (args:List Value) (w:World) (K:qxw ks->World->Prop):Prop :=
 vc C c ann (λe fr w=>match e with
  | .exit _=>False
  | _=>zg7 C ks rs K fr w) (args.map some++List.replicate (n-args.length) none) w
def q4p (tmps:Array Value):ResultVar->Sem Value
 | .tmp t=>pure (tmps.getD t undef)
 | .cell a t=>do loadVar t (<-asAddr (tmps.getD a undef))
theorem zak (fn:Func) (tmps:Array Value):results fn tmps=(do
  let vs <-fn.results.mapM (q4p tmps)
  pure (if h:vs.size=1 then vs[0] else .tuple vs)):=by
 unfold results;congr 1
theorem q1y {C:Cx} {ks:List Kind} {fr:Fr} {a:Act} (ha:Agree fr a) {w:World}:∀{rs:List ResultVar} {K:List Value->Prop},qpb C ks rs fr w K ->
  ∃l,(rs.mapM (q4p a.tmps)).run C.P w=Result.ok l w/\K l:=by
 intro rs
 induction rs with
 | nil=>intro K h;exact ⟨[],by simp,h⟩
 | cons r rs ih =>
  intro K h;cases r with
  | tmp t =>
   unfold qpb at h;split at h
   ·rename_i v hv;obtain ⟨l,hl,hK⟩:=ih h;exact ⟨v::l,by simp only [List.mapM_cons,q4p,ha.getD hv,run_bind,Sem.run_pure,andThen_ok,hl],hK⟩
   ·exact h.elim
  | cell p t =>
   unfold qpb at h;split at h
   ·rename_i ad hv;obtain ⟨v,S,hS,hr,h⟩:=qo3 h;obtain ⟨l,hl,hK⟩:=ih h;have hr':=hr w hS;simp only [Instr.loadAt,Instr.sureAddr,run_bind,Sem.run_pure,andThen_ok] at hr';exact ⟨v::l,by simp only [List.mapM_cons,q4p,ha.getD hv,asAddr,run_bind,Sem.run_pure,andThen_ok,hr',hl],hK⟩
   ·exact h.elim
theorem cvc {C:Cx} (hp:∀g,C.plain g=true->yO C.P g=true) (hm:C.P.follows .mixedOrders=true) {f:FuncId} {fn:Func} {c:Code} {args:List Value} {ann:List Ann} {ks:List Kind} {w:World}
  {K:qxw ks->World->Prop} (hf:C.P.funcs[f]?=some fn) (hb:fn.body=some c) (h:zn9 C c fn.results.toList fn.ntmps ann ks args w K) :
  Calls C.P f args.toArray w λe w'=>∃s:qxw ks,e=.returned (tup (zaw ks s))/\K s w':=by
 refine calls_of_wp hf hb ?_;have ha:Agree (args.map some++List.replicate (fn.ntmps-args.length) none) { tmps:=args.toArray++Array.replicate (fn.ntmps-args.toArray.size) undef,defers:=[] }:=by
  refine ⟨by simp,λi v hv=>?_,rfl⟩;by_cases hi:i<args.length
  ·rw [List.getElem?_append_left (by simpa using hi)] at hv;rw [Array.getElem?_append_left (by simpa using hi)];simpa using hv
  ·rw [List.getElem?_append_right (by simpa using hi)] at hv;rw [List.getElem?_replicate] at hv;split at hv<;>simp at hv
 refine wp_mono (zjk hp hm c ann _ _ _ w ha h) ?_;have fin:∀(a':Act) (w':World),qdl (jK c) { tmps:=args.toArray++Array.replicate (fn.ntmps-args.toArray.size) undef,defers:=[] } (λfr w=>zg7 C ks fn.results.toList K fr w) a' w' ->
   a'.defers=[]/\∃v,(results fn a'.tmps).run C.P w'=.ok v w'/\∃s:qxw ks,Ending.returned v=.returned (tup (zaw ks s))/\K s w':=by
  rintro a' w' ⟨fr,ha',_,hl⟩;obtain ⟨l,hr,hK⟩:=q1y ha' hl;split at hK
  ·rename_i s hs;have hle:=zjc hs;refine ⟨ha'.nod,tup l,?_,s,by rw [hle],hK⟩;rw [zak,Array.mapM_eq_mapM_toList];simp only [run_bind,Sem.run_pure,map_eq_pure_bind,hr,andThen_ok];cases l with
   | nil=>rfl
   | cons v l =>
    cases l with
    | nil=>rfl
    | cons u l=>rfl
  ·exact hK.elim
 intro e a' w' hq;cases e with
 | normal=>exact fin a' w' hq
 | ret=>exact fin a' w' hq
 | exit id=>obtain ⟨_,_,_,h⟩:=hq;exact h.elim
 | goto l=>exact hq.elim
 | panic ch=>exact hq.elim
 | outgrown=>exact hq.elim
def zly:(ks:List Kind)->Cur ks->qxw ks->World->Prop
 | [],K,_,w=>K w
 | _::r,K,s,w=>zly r (K s.1) s.2 w
theorem zhp {ks:List Kind} {e:Ending} {w:World}:∀{F:List Value->Value} {K:Cur ks} (s:qxw ks),e=.returned (F (zaw ks s))->zly ks K s w->zkk ks e w F K:=by
 induction ks with
 | nil=>exact λs he h=>⟨he,h⟩
 | cons k r ih=>exact λs he h=>⟨s.1,ih s.2 he h⟩
theorem qv1 {C:Cx} (hp:∀g,C.plain g=true->yO C.P g=true) (hm:C.P.follows .mixedOrders=true) {f:FuncId} {fn:Func} {c:Code} {args:List Value} {ann:List Ann} {ks:List Kind} {w:World}
  {K:Cur ks} (hf:C.P.funcs[f]?=some fn) (hb:fn.body=some c) (h:zn9 C c fn.results.toList fn.ntmps ann ks args w (zly ks K)):qw C.P f args ks w K:=by
 refine Calls.mono (cvc hp hm hf hb h) ?_;rintro e w' ⟨s,he,hK⟩;exact zhp s he hK
abbrev ag (r:Rep) (x:r.T):Value:=.agg (r.cells x).toArray
def ziw (T:Type):List Kind->Type
 | []=>T
 | k::r=>k.T->ziw T r
def xw {T:Type}:(ks:List Kind)->ziw T ks->List Value->Option T
 | [],c,[]=>some c
 | k::r,f,v::l=>match k.get v with
  | some x=>xw r (f x) l
  | none=>none
 | _,_,_=>none
def zny {T:Type}:(ks:List Kind)->ziw T ks->qxw ks->T
 | [],c,_=>c
 | _::r,f,s=>zny r (f s.1) s.2
theorem zjd {T:Type} {ks:List Kind}:∀{f:ziw T ks} {l:List Value} {c:T},xw ks f l=some c->∃s,l=zaw ks s/\zny ks f s=c:=by
 induction ks with
 | nil =>
  intro f l c h;cases l with
  | nil=>exact ⟨(),rfl,Option.some.inj h⟩
  | cons v l=>cases h
 | cons k r ih =>
  intro f l c h;cases l with
  | nil=>cases h
  | cons v l =>
   unfold xw at h;split at h
   ·rename_i x hx;obtain ⟨s,rfl,hc⟩:=ih h;exact ⟨(x,s),by rw [Kind.get_enc hx];rfl,hc⟩
   ·cases h
theorem zn {T:Type} {cells:T->List Value} {ks:List Kind} {f:ziw T ks} (h:∀s,cells (zny ks f s)=zaw ks s) (l:List Value) (c:T) (hc:xw ks f l=some c):cells c=l:=by
 obtain ⟨s,rfl,rfl⟩:=zjd hc;exact h s
def jN (op:BinOp) (k:IntKind) (x y:Int):Int :=
 match op with
 | .and=>k.wrap (BitVec.ofInt k.bits x &&& BitVec.ofInt k.bits y).toNat
 | .or=>k.wrap (BitVec.ofInt k.bits x ||| BitVec.ofInt k.bits y).toNat
 | .xor=>k.wrap (BitVec.ofInt k.bits x ^^^ BitVec.ofInt k.bits y).toNat
 | _=>k.wrap (BitVec.ofInt k.bits x &&& ~~~ BitVec.ofInt k.bits y).toNat
def ixK (s:Slc) (i:Int) (sz:Nat) (K:Addr->Prop):Prop:=qH s.a λa=>(0<=i/\i<s.n)/\K (a.add (i.toNat*sz))
def ixA (a:Addr) (n:Nat) (i:Int) (sz:Nat) (K:Addr->Prop):Prop:=(0<=i/\i<n)/\K (a.add (i.toNat*sz))
def ixS (s:ByteArray) (i:Int) (K:Int->Prop):Prop:=(0<=i/\i<s.size)/\K (s.data.getD i.toNat 0).toNat
def slK (s:Slc) (lo hi:Option Int) (sz:Nat) (K:Slc->Prop):Prop:=bnd hi s.c s.n λh=>bnd lo h 0 λl=>K ⟨cut s.a l s.c sz,h-l,s.c-l⟩
def slK3 (s:Slc) (lo:Option Int) (hi mx:Int) (sz:Nat) (K:Slc->Prop):Prop:=bnd (some mx) s.c s.c λm=>bnd (some hi) m m λh=>bnd lo h 0 λl=>K ⟨cut s.a l m sz,h-l,m-l⟩
def slA (a:Addr) (n:Nat) (lo hi:Option Int) (sz:Nat) (K:Slc->Prop):Prop:=bnd hi n n λh=>bnd lo h 0 λl=>K ⟨some (if n=l then a else a.add (l*sz)),h-l,n-l⟩
def slS (s:ByteArray) (lo hi:Option Int) (K:ByteArray->Prop):Prop:=bnd hi s.size s.size λh=>bnd lo h 0 λl=>K (s.extract l h)
def ldI (k:IntKind) (a:Addr) (w:World) (K:Int->Prop):Prop:=∃x:Int,w.cell? a=some (.int k x)/\K x
def ldB (a:Addr) (w:World) (K:Bool->Prop):Prop:=∃x:Bool,w.cell? a=some (.bool x)/\K x
def qw1 (a:Addr) (w:World) (K:ByteArray->Prop):Prop:=∃x:ByteArray,w.cell? a=some (.string x)/\K x
def ldP (a:Addr) (w:World) (K:Option Addr->Prop):Prop:=∃x:Option Addr,w.cell? a=some (.pointer x)/\K x
def zW (a:Addr) (w:World) (K:Slc->Prop):Prop:=∃x:Slc,w.cell? a=some (.slice x.a x.n x.c)/\K x
def ldM (a:Addr) (w:World) (K:Option Nat->Prop):Prop:=∃x:Option Nat,w.cell? a=some (.map x)/\K x
def ldR (a:Addr) (w:World) (K:Value->Prop):Prop:=∃x:Value,w.cell? a=some x/\K x
def ldS (r:Rep) (a:Addr) (w:World) (K:r.T->Prop):Prop:=∃x:r.T,qG w a (r.cells x)/\K x
def stK (a:Addr) (vs:List Value) (w:World) (K:World->Prop):Prop:=zhk w a vs/\K (wr w a vs)
def stR (a:Addr) (v:Value) (w:World) (K:World->Prop):Prop:=qhw (Nat.beq v.cells.size 1) (qhw (v.cells.toList.all q5o) (zhk w a v.cells.toList/\K (wr w a v.cells.toList)))
def nw (t:TypeId) (vs:List Value) (w:World) (K:Addr->World->Prop):Prop:=K ⟨w.heap.size,0,none⟩ (w.alloc (.cells vs.toArray t))
def nwM (w:World) (K:Nat->World->Prop):Prop:=K w.heap.size (w.alloc (.map #[] 0))
def apK (P:Program) (ts:Array TypeId) (ty:TypeId) (s x:Slc) (w:World) (K:Slc->World->Prop):Prop :=
 ∃r:Slc,∃w',(append_ ts ty #[.slice s.a s.n s.c,.slice x.a x.n x.c]).run P w=.ok (.slice r.a r.n r.c) w'/\K r w'
def apS (P:Program) (ts:Array TypeId) (ty:TypeId) (s:Slc) (x:ByteArray) (w:World) (K:Slc->World->Prop):Prop :=
 ∃r:Slc,∃w',(append_ ts ty #[.slice s.a s.n s.c,.string x]).run P w=.ok (.slice r.a r.n r.c) w'/\K r w'
def apM (P:Program) (ts:Array TypeId) (ty:TypeId) (s:Slc) (n:Int) (k:IntKind) (w:World) (K:Slc->World->Prop):Prop :=
 ∃r:Slc,∃w',(append_ ts ty #[.slice s.a s.n s.c,.int k n]).run P w=.ok (.slice r.a r.n r.c) w'/\K r w'
def za5 (P:Program) (t:TypeId) (l c:Value) (w:World) (K:Slc->World->Prop):Prop :=
 ∃r:Slc,∃w',(Instr.makeSlice t l c).run P w=.ok (.slice r.a r.n r.c) w'/\K r w'
def zO (P:Program) (m:Sem Value) (k:Kind) (w:World) (K:k.T->World->Prop):Prop:=∃x:k.T,∃w',m.run P w=.ok (k.enc x) w'/\K x w'
def qep (P:Program) (m:Sem Value) (k k':Kind) (w:World) (K:k.T->k'.T->World->Prop):Prop:=∃x:k.T,∃y:k'.T,∃w',m.run P w=.ok (.tuple #[k.enc x,k'.enc y]) w'/\K x y w'
abbrev nmI (x:Int) (K:Int->Prop):Prop:=K x
abbrev qW (K:World->Prop) (b:(World->Prop)->Prop):Prop:=zf (σ:=Unit) (λ_=>K) λJ=>b (J ())
abbrev gI (p:Option Addr) (o:Nat) (w:World) (K:Int->Prop):Prop:=qH p λa=>ldI .i64 (a.add o) w K
abbrev gB (p:Option Addr) (o:Nat) (w:World) (K:Bool->Prop):Prop:=qH p λa=>ldB (a.add o) w K
abbrev gP (p:Option Addr) (o:Nat) (w:World) (K:Option Addr->Prop):Prop:=qH p λa=>ldP (a.add o) w K
abbrev gL (p:Option Addr) (o:Nat) (w:World) (K:Slc->Prop):Prop:=qH p λa=>zW (a.add o) w K
abbrev gM (p:Option Addr) (o:Nat) (w:World) (K:Option Nat->Prop):Prop:=qH p λa=>ldM (a.add o) w K
abbrev gS (r:Rep) (p:Option Addr) (o:Nat) (w:World) (K:r.T->Prop):Prop:=qH p λa=>ldS r (a.add o) w K
abbrev gR (p:Option Addr) (o:Nat) (w:World) (K:Value->Prop):Prop:=qH p λa=>ldR (a.add o) w K
abbrev gN (k:IntKind) (p:Option Addr) (o:Nat) (w:World) (K:Int->Prop):Prop:=qH p λa=>ldI k (a.add o) w K
abbrev gT (p:Option Addr) (o:Nat) (vs:List Value) (w:World) (K:World->Prop):Prop:=qH p λa=>stK (a.add o) vs w K
def j7 (C:Cx) (f:Value) (args:List Value) (ks:List Kind) (w:World) (K:Cur ks):Prop:=qpd C f args ks w K
end Go.Vc
namespace Go
theorem oFq {p:Prop} [Decidable p] (h:decide p=false):¬p:=of_decide_eq_false h
theorem oTq {p:Prop} [Decidable p] (h:decide p=true):p:=of_decide_eq_true h
theorem dFq {p:Prop} [Decidable p] (h:¬p):decide p=false:=decide_eq_false h
theorem dTq {p:Prop} [Decidable p] (h:p):decide p=true:=decide_eq_true h
end Go
namespace Go
open Go.Vc
abbrev Ua (x:Int):Value:=.int .i64 x
abbrev Ub:=World->Prop
theorem Ud {P:Prop} (h:P:=by omega):P:=h
theorem Ue {P:Prop} (h:P:=by decide):P:=h
theorem Uf {P:Prop} (h:P:=by kernel_rfl):P:=h
theorem Ug {P:Prop} (h:P:=by simp):P:=h
theorem Uh {P:Prop} (h:P:=by simp;omega):P:=h
abbrev Ui:=Ann.none
abbrev Uj:=Ann.jn []
end Go
