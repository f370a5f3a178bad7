import Derived.Test.YtedcpbkcamckoaaGreatDoorP5
import Derived.JoinedOf
import Derived.Test.YtedcpbkcamckoaaGreatDoorP1
set_option linter.unusedVariables false
namespace Go.Proofs.YtedcpbkcamckoaaGreatDoor
open Go.Vc Go.RowKit
set_option maxRecDepth 400000
open _root_.List (length_append length_cons length_nil take_append_drop take_length)
open _root_.Nat (le_refl zero_le)
theorem zjn (a:Int) {m:Nat} (hm:0<m):-(m:Int)<a.tmod m/\a.tmod m<m:=by
 have h:=Int.natAbs_tmod a (m:Int);have h2:(a.tmod m).natAbs<m:=by
  rw [h];exact Nat.mod_lt _ (by omega)
 omega
theorem zjm {o:Option qaa} (ho:∀k,o=some k->Wide (toL (keyM k 1))) {pre:List UInt8} {E:KE} (h:MidP o pre E):E.quota=8192/\∀C s,E.ld=some (C,s)->s.over=false/\potL s<=3*pre.length/\Wide (toL E.first):=by
 cases o with
 | none =>
  have h:E=newE 8192:=h;subst h;exact ⟨rfl,fun C s hl=>by cases hl⟩
 | some k =>
  obtain ⟨_,_,rfl⟩:=h;refine ⟨rfl,fun C s hl=>?_⟩;cases hl;obtain ⟨_,h1,h2⟩:=zb1 k pre;exact ⟨h2,h1,ho k rfl⟩
section
variable {w w':World} {base g n:Nat} {F F':KF} {E E':KE}
theorem u8_ne {b:UInt8} (h:b≠59):((b.toNat:Int) !=59)=true:=by
 rw [bne_iff_ne];intro e;exact h (UInt8.toNat_inj.1 (by show b.toNat=59;omega))
theorem zcd (hT:Tab w) {head text cuts:Slc} {hs ts:List UInt8} {cs:List Int} (hh:Rd qae w head hs) (ht:Rd qae w text ts) (hc:Rd E_int w cuts cs) (v:qaf) {K:Bool->World->Prop} (hK:∀w',Below w.heap.size w w'->K true w'):qrn head text cuts v w K:=by
 have h4:4<=w.heap.size:=zfr (g:=3) (by kernel_rfl) hT;refine qyn _ _ _ _ ?_;unfold qqi;have hhl:=hh.n;have htl:=ht.n;have hcl:=hc.n;refine nwb fun w1 hv1 hB1 hs1=>?_;refine q8c (hT.ext hB1) (by omega) fun w2 hB2=>cF rfl (jpO fun J1 hJ1=>?_);have B2:=qap hB1 hB2;have hv2:=hv1.ext hB2;refine cO (fun _=>hK _ B2) fun e1=>cO (fun _=>hK _ B2) fun e2=>cO (fun _=>hK _ B2) fun e3=>?_;have e1:=oFq e1;have e2:=oFq e2;have e3:=oFq e3;refine qal (r:=qaf.rep) (x:=v) hv2.cells (zgf v fun b w3 hB3=>?_);have B3:=qap B2 hB3;have hv3:=hv2.ext hB3;refine cO (fun _=>hK _ B3) fun _=>hJ1 _ _ ?_;refine lpR (fun (st:Slc×Int×Unit) w4=>∃k:Nat,st.2.1=(k:Int)/\k<=hs.length/\Below w3.heap.size w3 w4/\Go.Vc.Own qae w4 w3.heap.size st.1 ((hs.take k).filter fun b=>b !=59)) (fun st=>hs.length-st.2.1.toNat)
  ⟨0,rfl,zero_le _,Below.refl _ _,Go.Vc.Own.nil _ _ _⟩ ?_
 rintro ⟨s,i,u⟩ w4 ⟨k,hi,hk,hB4,ho4⟩ I hI;dsimp only at hi ho4 ⊢;subst hi;have B4:=qap B3 hB4;refine cO (fun e=>?_) fun e=>?_
 ·have e:=oTq e;have hlt:k<hs.length:=by omega
  obtain ⟨x,hx⟩:∃x,hs[k]?=some x:=⟨_,List.getElem?_eq_getElem hlt⟩;have tk:hs.take (k+1)=hs.take k++[x]:=by rw [List.take_add_one,hx];rfl
  have hfl:((hs.take k).filter fun b=>b !=59).length<=200:=by
   have:=List.length_filter_le (fun b:UInt8=>b !=59) (hs.take k);rw [List.length_take] at this;omega
  have ix:∀{X:Addr->Prop},(∀a,qaw w4 a (qae.cells x)->X a)->ixK head (k:Int) 1 X:=fun {X} hX=>(hh.ext B4).ix (E:=qae) (i:=(k:Int)) rfl (by omega) (by omega) fun hc=>by
   have e1:hs[(k:Int).toNat]'(by omega)=x:=(List.getElem?_eq_some_iff.1 (by simpa using hx)).2;rw [e1] at hc;exact hX _ hc
  rw [w64i (x:=(k:Int)+1) (by omega)];refine ix fun a ha=>ldB8 ha ?_;by_cases hx59:x=59
  ·subst hx59;refine cF (by decide) (hI _ _ ⟨k+1,by simp,by omega,hB4,?_⟩ (by dsimp only;omega));rw [tk,List.filter_append];simpa using ho4
  ·refine cT (u8_ne hx59) (ix fun a ha=>ldB8 ha ?_);refine qht (E:=qae) qau ho4 (y:=x) rfl hB4.size (by rw [qc0];omega) (by unfold maxLen;omega) fun r w5 ho5 hc5 _=>?_;refine hI _ _ ⟨k+1,by simp,by omega,hB4.trans (hc5.below hB4.size fun i hi hs=>by have:=(ho4.lt i hs).1;omega),?_⟩ (by dsimp only;omega);rw [tk,List.filter_append];have e2:[x].filter (fun b=>b !=59)=[x]:=by simp [hx59]
   rw [e2];exact ho5
 have e:=oFq e;have hkl:k=hs.length:=by omega
 rw [hkl,take_length] at ho4;obtain ⟨H,hH⟩:∃H,(hs.filter fun b=>b !=59)=H:=⟨_,rfl⟩;have hH59:∀b∈H,b≠59:=fun b hb=>by
  rw [<-hH] at hb;simpa using (List.mem_filter.1 hb).2
 have hHl:H.length<=200:=by
  have:=List.length_filter_le (fun b:UInt8=>b !=59) hs;rw [hH] at this;omega
 rw [hH] at ho4;clear hI;refine q0x (fun h=>by cases h) fun _ ga Fa w5 hga ha5 hB5=>q0x (fun h=>by cases h) fun _ gb Fb w6 hgb hb6 hB6=>jpO fun J3 hJ3=>?_;refine cF rfl (cF rfl (cF rfl (cF rfl (hJ3 _ _ ?_))));refine q7a (bs:=[71]) rfl rfl fun s7 w7 ho7 hB7=>?_;have B6:=qap (qap B4 hB5) hB6;have hH7:=(((ho4.rd.ext hB5).ext hB6).ext hB7);refine ho7.apK hB7 hH7 (by simp;omega) fun s8 w8 ho8 hB8 _ _=>?_;have es:(⟨#[44,97,61,84,44,113,61,48,44,105,61,55,44,73,61,48,44,112,61,48,44,109,61]⟩:ByteArray)=strB [44,97,61,84,44,113,61,48,44,105,61,55,44,73,61,48,44,112,61,48,44,109,61]:=rfl;rw [es];refine ho8.apS hB8 (by simp) (by simp;omega) fun s9 w9 ho9 hB9 _ _=>?_;have ho9:Go.Vc.Own qae w9 w6.heap.size s9 (qeh H):=ho9;have hfl:(qeh H).length<=300:=by simp [qeh];omega
 have B9:=qap B6 hB9;have ha9:=(ha5.ext hB6).ext hB9;have hb9:=hb6.ext hB9;have hT9:=hT.ext B9;have hv9:=hv3.below (qap (qap (qap hB4 hB5) hB6) hB9) hv3.lt;have hf9:=ho9.rd;have ht9:=ht.ext B9;have z2:=B2.size;have z3:=hB3.size;have z4:=hB4.size;have z5:=hB5.size;have z6:=hB6.size;have z9:=hB9.size;obtain ⟨o,how,ho⟩:=ziu hHl hH59;have hfirst:∀P,doK (newE 8192) (qeh H++[48,59]++ts) P v=sayF o 0 ts P v:=fun P=>by
  have:=ho 48 (.inl rfl) (newE 8192) ts P v;rw [List.append_assoc];exact this.trans (by cases o<;>rfl)
 refine jpO fun J4 hJ4=>?_;have tys:tyFar qai:=by decide
 have nLS:∀k,¬Fa.LS k:=ha9.nl rfl;have hvx:∀{wx:World},Below w9.heap.size w9 wx->qaw wx ⟨w.heap.size,0,none⟩ (qaf.rep.cells v):=fun h=>(hv9.ext h).cells
 suffices j4:∀(x:Nat) (P:Slc) (r:qad) (F':KF) (w':World),Blk w' x qai (qad.rep.cells r)->w9.heap.size<=x->ResM w' r (sayF o 0 ts P v).2->EngT w4.heap.size ga w9 Fa F' (sayF o 0 ts P v).1 2 w'->(∀j,r.Reply.blk=some j->w9.heap.size<=j)->J4 (⟨x,0,none⟩,()) w' by
  have full:(qeh H++[48,59]++ts).length<=2000:=by simp only [length_append,length_cons,length_nil];omega
  have dox:∀{wx:World} {s:Slc} {X:qad->World->Prop},Below w9.heap.size w9 wx->Cmd wx w9.heap.size s (qeh H++[48,59]++ts) ->
    (∀P r F' w',wx.heap.size<=w'.heap.size->Chg (engS ga Fa) wx w'->(∀k,F'.LS k->wx.heap.size<=k)->ResM w' r (sayF o 0 ts P v).2->EngT w4.heap.size ga w9 Fa F' (sayF o 0 ts P v).1 2 w'->(∀j,r.Reply.blk=some j->wx.heap.size<=j)->X r w')->qba (some ⟨ga,0,none⟩) s v wx X:=by
   intro wx s X hG hs hX;have hEx:=EngT.of_ext ha9 hG;refine q1q hEx.m (by omega) (hT9.ext hG) (by omega) (by decide) (by omega) (hs.rd (by omega)) (fun C s hl=>by cases hl) v fun P r F' w' hr hE hrb=>?_;rw [hfirst] at hr hE;exact hX P r F' w' hE.chg.size hE.chg (fun k hk=>(hE.ls k hk).resolve_left (nLS k)) hr (hEx.trans hE) fun j hj=>(hrb j hj).1
  have fin:∀{wx:World} {s:Slc} {x:Nat},Below w9.heap.size w9 wx->Cmd wx w9.heap.size s (qeh H++[48,59]++ts)->Blk wx x qai [(.slice none 0 0),(.int .i64 0),(.int .i64 0),(.bool false)]->w9.heap.size<=x ->
    qba (some ⟨ga,0,none⟩) s v wx fun r w'=>stK ⟨x,0,none⟩ (qad.rep.cells r) w' fun w''=>J4 (⟨x,0,none⟩,()) w'':=by
   intro wx s x hG hs hx hxw;have hEx:=EngT.of_ext ha9 hG;have hxl:=hx.lt;refine dox hG hs fun P r F' w' hsz hc hls hr hE hrb=>?_;have hx':=hx.chg hc (hEx.m.not_in hx tys (nLS _));refine qbx hx' rfl fun w'' hb hc'' hs''=>?_;exact j4 x P r F' w'' hb hxw ⟨hr.1.chg hc'' fun a ha e=>by have:=hrb a.block (slk.2 ⟨a,ha,rfl⟩);omega,hr.2⟩ (hE.other hx' tys (fun hs=>by have:=hls _ hs;omega) hxw hc'') fun j hj=>Nat.le_trans hG.size (hrb j hj)
  have x3:∀{wx:World} {s:Slc} {x:Nat},Below w9.heap.size w9 wx->Cmd wx w9.heap.size s (qeh H++[48,59])->Blk wx x qai [(.slice none 0 0),(.int .i64 0),(.int .i64 0),(.bool false)]->w9.heap.size<=x ->
    qaw wx ⟨w.heap.size,0,none⟩ (qaf.rep.cells v)/\apK PG #[qab,qab] qab s text wx fun t w'=>qaw w' ⟨w.heap.size,0,none⟩ (qaf.rep.cells v)/\qba (some ⟨ga,0,none⟩) t v w' fun r w'=>stK ⟨x,0,none⟩ (qad.rep.cells r) w' fun w''=>J4 (⟨x,0,none⟩,()) w'' :=
   fun hG hs hx hxw=>⟨hvx hG,hs.apK hG (ht9.ext hG) (by rw [length_append];simp only [length_cons,length_nil];omega) fun t w' ht hG' _ kp=>⟨hvx hG',fin hG' ht (kp _ _ _ hx (by decide)) hxw⟩⟩
  have x2:∀{wx:World} {s:Slc} {x:Nat},Below w9.heap.size w9 wx->Cmd wx w9.heap.size s (qeh H)->Blk wx x qai [(.slice none 0 0),(.int .i64 0),(.int .i64 0),(.bool false)]->w9.heap.size<=x ->
    qaw wx ⟨w.heap.size,0,none⟩ (qaf.rep.cells v)/\apS PG #[qab,qa1] qab s (strB [48,59]) wx fun t w'=>qaw w' ⟨w.heap.size,0,none⟩ (qaf.rep.cells v)/\apK PG #[qab,qab] qab t text w' fun t w'=>qaw w' ⟨w.heap.size,0,none⟩ (qaf.rep.cells v)/\qba (some ⟨ga,0,none⟩) t v w' fun r w'=>stK ⟨x,0,none⟩ (qad.rep.cells r) w' fun w''=>J4 (⟨x,0,none⟩,()) w'' :=
   fun hG hs hx hxw=>⟨hvx hG,hs.apS hG (by simp) (by simp only [length_cons,length_nil];omega) fun t w' ht hG' _ kp=>x3 hG' (.inl ht) (kp _ _ _ hx (by decide)) hxw⟩
  have x1:∀{wx:World} {s:Slc} {x:Nat},Below w9.heap.size w9 wx->Cmd wx w9.heap.size s []->Blk wx x qai [(.slice none 0 0),(.int .i64 0),(.int .i64 0),(.bool false)]->w9.heap.size<=x ->
    qaw wx ⟨w.heap.size,0,none⟩ (qaf.rep.cells v)/\apK PG #[qab,qab] qab s s9 wx fun t w'=>qaw w' ⟨w.heap.size,0,none⟩ (qaf.rep.cells v)/\apS PG #[qab,qa1] qab t (strB [48,59]) w' fun t w'=>qaw w' ⟨w.heap.size,0,none⟩ (qaf.rep.cells v)/\apK PG #[qab,qab] qab t text w' fun t w'=>qaw w' ⟨w.heap.size,0,none⟩ (qaf.rep.cells v)/\qba (some ⟨ga,0,none⟩) t v w' fun r w'=>stK ⟨x,0,none⟩ (qad.rep.cells r) w' fun w''=>J4 (⟨x,0,none⟩,()) w'' :=
   fun hG hs hx hxw=>⟨hvx hG,hs.apK hG (hf9.ext hG) (by simp only [length_nil];omega) fun t w' ht hG' _ kp=>x2 hG' ht (kp _ _ _ hx (by decide)) hxw⟩
  have hGd:=qcg w9;have cx:∀{wx wy:World} {s:Slc} {bs:List UInt8},Cmd wx w9.heap.size s bs->Below wx.heap.size wx wy->Cmd wy w9.heap.size s bs:=fun h hB=>h.imp (fun h=>h.ext hB) fun ⟨g,h1,h2,h3⟩=>⟨g,h1,h2,h3.chg (Chg.of_ext (S:=fun _=>False) hB) fun h=>h⟩;refine qal (r:=qaf.rep) (x:=v) (hvx hGd) ⟨?_,nwb fun wx hx hBx _=>⟨hvx (qap hGd hBx),nwb fun wa hba hBa _=>?_⟩⟩
  ·refine nwb fun wa hba hBa _=>?_;have Ga:=qap hGd hBa;have ca:Cmd wa w9.heap.size ⟨some ⟨w9.heap.size,0,none⟩,0,0⟩ []:=.inl (qjx hba (le_refl _));refine ⟨hvx Ga,?_,nwb fun wx hx hBx _=>x1 (qap Ga hBx) (cx ca hBx) hx Ga.size⟩;refine ca.apK Ga (hf9.ext Ga) (by simp only [length_nil];omega) fun sb wb cb Gb _ _=>⟨hvx Gb,?_,nwb fun wx hx hBx _=>x2 (qap Gb hBx) (cx cb hBx) hx Gb.size⟩;have cb:Cmd wb w9.heap.size sb (qeh H):=cb;show apS PG #[qab,qa1] qab sb (strB [48,59]) wb _;refine cb.apS Gb (by simp) (by simp only [length_cons,length_nil];omega) fun sc wc cc Gc _ _=>⟨hvx Gc,?_,nwb fun wx hx hBx _=>x3 (qap Gc hBx) (cx (.inl cc) hBx) hx Gc.size⟩;have cc:Cmd wc w9.heap.size sc (qeh H++[48,59]):=.inl cc;refine cc.apK Gc (ht9.ext Gc) (by rw [length_append];simp only [length_cons,length_nil];omega) fun sd wd cd Gd _ _=>⟨hvx Gd,?_,nwb fun wx hx hBx _=>⟨hvx (qap Gd hBx),fin (qap Gd hBx) (cx cd hBx) hx Gd.size⟩⟩;refine dox Gd cd fun P r F' w' hsz hc hls hr hE hrb=>nwb fun w'' hx hB'' hs''=>⟨?_,qbx hx rfl fun w3 hb hc3 hs3=>?_⟩
   ·have zv:=hv3.lt;have zd:=Gd.size;have z34:=hB4.size;exact (hv9.below ((EngT.belowB ha9 hE).trans (hB''.mono (by omega))) (by omega)).cells
   ·have hEm:=hE.m;refine j4 w'.heap.size P r F' w3 hb (by have:=Gd.size;omega) ⟨qil (hr.1.ext hB'') hc3 fun hp a ha e=>(by have:=rd_lt hr.1 hp a ha;omega),hr.2⟩ ((hE.ext hB'').other hx tys (fun hs=>by have:=(hEm.below _ (.inr (.inr (.inr hs)))).2;omega) (by have:=Gd.size;omega) hc3) fun j hj=>Nat.le_trans Gd.size (hrb j hj)
  ·have Ga:=qap (qap hGd hBx) hBa;exact x1 Ga (.inl (qjx hba (by have:=hBx.size;exact this))) (hx.ext hBa) (le_refl _)
 intro x Px rx Fx w10 hx10 hxw hrx hE10 hrbx;refine hJ4 _ _ ?_;have z10:=hE10.chg.size;have lx10:=hx10.lt;have aOld:∀k,engS ga Fx k->k<w5.heap.size\/(w9.heap.size<=k/\k<w10.heap.size):=fun k hk=>(hE10.old k hk).imp (fun h=>(ha5.below _ h).2) fun h=>⟨h,(hE10.m.below _ hk).2⟩;have bOld:∀k,engS gb Fb k->w5.heap.size<=k/\k<w6.heap.size:=hb6.below;have hb10:=hb9.chgS hE10.chg (fun k hk hs=>by have:=(ha5.below _ hs).2;have:=(hb6.below _ hk).1;omega) fun k ⟨p,hp,_⟩=>by cases hp
 refine nwb fun w11 hy11 hB11 hs11=>jpO fun J5 hJ5=>?_;have ha11:=hE10.m.ext hB11;have hb11:=hb10.ext hB11;have nLSb:∀k,¬Fb.LS k:=hb11.nl rfl;have B10:Below w.heap.size w w10:=B9.trans ((EngT.belowB ha9 hE10).mono (by omega));have B11:=qap B10 hB11;have hx11:=hx10.ext hB11;have hrx11:=hrx.1.ext hB11;have hT11:=hT.ext B11;have hlx:∀a,rx.Reply.a=some a->0<(sayF o 0 ts Px v).2.reply.length->w9.heap.size<=a.block/\a.block<w10.heap.size:=fun a ha hp=>⟨hrbx _ (slk.2 ⟨a,ha,rfl⟩),rd_lt hrx.1 hp a ha⟩;have j5:∀(W:World) (Fy:KF) (Ey:KE) (ny:Nat) (ry:qad) (Ry:KR),ny<=1000->EngM W w5.heap.size gb Fy Ey ny->EngM W w4.heap.size ga Fx (sayF o 0 ts Px v).1 2->Blk W w10.heap.size qai (qad.rep.cells ry)->ResM W ry Ry->Blk W x qai (qad.rep.cells rx)->Rd qae W rx.Reply (sayF o 0 ts Px v).2.reply->Alk (Ey,Ry) (sayF o 0 ts Px v)->Below w.heap.size w W->J5 (()) W:=by
  intro W Fy Ey ny ry Ry hny hb ha hy hry hx hrx' hal hBW;refine hJ5 _ _ ?_;have ⟨a1,a2,a3,a4⟩:=hal;dsimp only at a1 a2 a3 a4;subst a1;refine qn9 ha fun sg1 sr1 v1 _ _ hst1 hC1=>qyc hst1 ha.ok 7 fun P1 v2 hP1 hC2=>qcu (vs:=qac.rep.cells ⟨_,_,P1⟩) rfl fun v3 hm3 hC3 _=>?_;have D3:=qcn hC1 hC2 hC3;have hb3:=hb.ext D3;refine qn9 hb3 fun sg2 sr2 v4 _ _ hst4 hC4=>qyc hst4 hb3.ok 7 fun P2 v5 hP2 hC5=>qcu (vs:=qac.rep.cells ⟨_,_,P2⟩) rfl fun v6 ho6 hC6 _=>?_;have D36:=qcn hC4 hC5 hC6;have D6:=qap D3 D36;have hx6:=hx.ext D6;have hy6:=hy.ext D6;have hm6:=hm3.ext D36;have hrx6:=hrx'.ext D6;have hry6:=hry.1.ext D6;have hP16:=(hP1.ext hC3).ext D36;have hP26:=hP2.ext hC6;refine lSl (x:=rx.Reply) (hx6.cells 0 _ rfl) (qhe hrx6 ?_);refine lSl (x:=ry.Reply) (hy6.cells 0 _ rfl) (qhe hry6 (cT (by simp) ?_));refine lI (x:=rx.Rows) (hx6.cells 1 _ rfl) (lI (x:=ry.Rows) (hy6.cells 1 _ rfl) (cT (by rw [hrx.2.1,hry.2.1];simp) ?_));refine lI (x:=rx.Cols) (hx6.cells 2 _ rfl) (lI (x:=ry.Cols) (hy6.cells 2 _ rfl) (cT (by rw [hrx.2.2.1,hry.2.2.1];simp) ?_));refine qc5 (x:=rx.Moves) (hx6.cells 3 _ rfl) (qc5 (x:=ry.Moves) (hy6.cells 3 _ rfl) (cT (by rw [hrx.2.2.2,hry.2.2.2];simp) ?_));refine cT (by rw [a2];simp) ?_;refine lSl (x:=P1) (hm6.cells 2 _ rfl) (qhe hP16.rd ?_);refine lSl (x:=P2) (ho6.cells 2 _ rfl) (qhe hP26.rd (cT (by rw [a3];simp) ?_));refine qra (ha.ext D6) (by omega) fun t1 q1 v7 ht7 hC7=>qxf ht7 (by have:=ha.tl;omega) fun l1 v8 hl8 hC8=>?_;refine qra (((hb.ext D6).ext hC7).ext hC8) (by omega) fun t2 q2 v9 ht9 hC9=>qxf ht9 (by have:=hb.tl;omega) fun l2 v10 hl10 hC10=>?_;have e8:=hl8.rd.n;have e10:=hl10.rd.n;have e:(((l1.n:Nat):Int)==((l2.n:Nat):Int))=true:=by rw [e8,e10,a4];simp
  rw [e];exact hK _ (qap hBW (qap D6 (qap (qap hC7 hC8) (qap hC9 hC10))))
 have hb1011:EngT w5.heap.size gb w10 Fb Fb (newE 8192) 0 w11:=EngT.of_ext hb10 hB11;have hv34:=hv3.lt;have z34:=hB4.size;have hv10:=hv9.below (EngT.belowB ha9 hE10) (by omega);have aImg:∀k,imgS (sayF o 0 ts Px v).1.S k->k<w10.heap.size:=fun k ⟨q,hq,hqk⟩=>((hE10.m.st.img q hq).lt k hqk).2;have hf10:=ho9.chg hE10.chg fun k hk hs=>by have:=(ha5.below _ hs).2;have:=(ho9.lt k hk).1;omega
 refine lpR (fun (st:Slc×Int×Bool×Unit) W=>∃(k p:Nat) (Fy:KF) (Ey:KE) (ry:qad) (Ry:KR),st.2.1=(k:Int)/\k<=cs.length+1/\p<=ts.length/\Rd qae W st.1 (ts.drop p)/\(0<(ts.drop p).length->∀a,st.1.a=some a->a.block<w.heap.size)/\EngT w5.heap.size gb w10 Fb Fy Ey (2*k) W/\(∀j,Fy.LS j->w11.heap.size<=j)/\EngM W w4.heap.size ga Fx (sayF o 0 ts Px v).1 2/\Blk W w10.heap.size qai (qad.rep.cells ry)/\Blk W x qai (qad.rep.cells rx) /\
   Rd qae W rx.Reply (sayF o 0 ts Px v).2.reply/\Go.Vc.Own qae W w6.heap.size s9 (qeh H)/\(st.2.2.1=true/\ResM W ry Ry/\Alk (Ey,Ry) (sayF o 0 ts Px v)\/st.2.2.1=false/\k<=cs.length/\(k=0/\p=0/\Ey=newE 8192\/0<k/\MidP o (ts.take p) Ey))) (fun st=>if st.2.2.1 then 0 else cs.length+2-st.2.1.toNat)
  ⟨0,0,Fb,newE 8192,⟨⟨none,0,0⟩,0,0,false⟩,kr0,rfl,by omega,zero_le _,ht.ext B11,fun hp=>rd_lt ht hp,hb1011,fun j hj=>absurd hj (nLSb j),ha11,hy11,hx11,hrx11,hf10.ext hB11,.inr ⟨rfl,by omega,.inl ⟨rfl,rfl,rfl⟩⟩⟩ ?_
 rintro ⟨rest,i,done,u⟩ W ⟨k,p,Fy,Ey,ry,Ry,hi,hk,hp,hrest,hrestb,hb,hls,ha,hy,hx,hrxW,hfW,hst⟩ I hI;dsimp only at hi hrest hrestb hst ⊢;subst hi;have BbW:Below w5.heap.size w10 W:=EngT.belowB hb10 hb;have BW:Below w.heap.size w W:=B10.trans (BbW.mono (by omega));have hTW:=hT.ext BW;have zW:=hb.chg.size;have lyW:=hy.lt;rcases hst with ⟨rfl,hry,hal⟩ | ⟨rfl,hkc,hmid⟩
 ·exact cF rfl (j5 W Fy Ey (2*k) ry Ry (by omega) hb.m ha hy hry hx hrxW hal BW)
 refine cT rfl (jpO fun J7 hJ7=>?_);have hrn:rest.n=(ts.drop p).length:=hrest.n;have hdl:(ts.drop p).length=ts.length-p:=List.length_drop;have hvW:=hv10.below BbW (by omega);have hEok:Ey.quota=8192/\∀C s,Ey.ld=some (C,s)->s.over=false/\potL s<=4500/\Wide (toL Ey.first):=by
  rcases hmid with ⟨_,_,rfl⟩ | ⟨_,hm⟩
  ·exact ⟨rfl,fun C s hl=>by cases hl⟩
  ·obtain ⟨h1,h2⟩:=zjm how hm;refine ⟨h1,fun C s hl=>?_⟩;obtain ⟨a,b,c⟩:=h2 C s hl;rw [List.length_take] at b;exact ⟨a,by omega,c⟩
 have bW:∀j,engS gb Fy j->(w5.heap.size<=j/\j<w6.heap.size)\/w10.heap.size<=j:=fun j hj=>(hb.old j hj).imp (hb6.below j) id;have j7:∀m:Nat,m<=(ts.drop p).length->(k<cs.length\/m=(ts.drop p).length)->J7 ((m:Int),()) W:=by
  intro m hm hkm;refine hJ7 _ _ ?_;have hpl:((ts.drop p).take m).length<=1500:=by rw [List.length_take];omega
  refine q7a (bs:=[71,109,61,49,59]) rfl rfl fun c0 w12 hc0 hB12=>jpO fun J8 hJ8=>?_;have j8:∀(hd:UInt8->List UInt8) (c:Slc) (w13:World),Cmd w13 W.heap.size c (hd 49)->Below W.heap.size W w13->(hd 49).set ((hd 49).length-2) 48=hd 48->2<=(hd 49).length->(hd 49).length<=400->(hd 48).length<=400 ->
    (∀P,(m<(ts.drop p).length->((doK Ey (hd 49++(ts.drop p).take m) P v).2=kr0/\MidP o (ts.take (p+m)) (doK Ey (hd 49++(ts.drop p).take m) P v).1)\/((doK Ey (hd 49++(ts.drop p).take m) P v).2.reply≠[]/\Alk (doK Ey (hd 49++(ts.drop p).take m) P v) (sayF o 0 ts Px v))) /\
     (m=(ts.drop p).length->Alk (doK Ey (hd 48++(ts.drop p).take m) P v) (sayF o 0 ts Px v)))->J8 (c,()) w13:=by
   intro hd c w13 hc hG hset h2 hl4 hl8 hres;refine hJ8 _ _ (jpO fun J9 hJ9=>?_);have j9:∀(dn:Bool) (d:UInt8) (w14:World),Cmd w14 W.heap.size c (hd d)->(hd d).length<=400->Below W.heap.size W w14->(dn=false/\d=49/\m<(ts.drop p).length\/dn=true/\d=48/\m=(ts.drop p).length)->J9 (dn,()) w14:=by
    intro dn d w14 hc hdl4 hG hdn;refine hJ9 _ _ ?_;refine (hrest.ext hG).slK (E:=qae) rfl (.inl ⟨rfl,rfl⟩) (.inr rfl) (zero_le _) hm fun hpc=>?_;rw [List.drop_zero] at hpc;have hGd:=qap hG (qcg w14);refine qal (r:=qaf.rep) (x:=v) (hvW.ext hGd).cells ?_;have hcd:Cmd w14.drew W.heap.size c (hd d):=hc;refine hcd.apK hGd hpc.drew (by omega) fun t w15 hc15 hG15 z15 _=>⟨(hvW.ext hG15).cells,?_⟩;have hEx:=EngT.of_ext hb.m hG15;have hax:=ha.ext hG15;have hyx:=hy.ext hG15;have hxx:=hx.ext hG15;have hGs:=hG15.size;have hcl:(hd d++(ts.drop p).take m).length<=2000:=by rw [length_append];omega
    refine q1q hEx.m (by omega) (hTW.ext hG15) (by omega) (by rw [hEok.1];decide) (by omega) (hc15.rd (by omega)) (fun C s hl=>by obtain ⟨a,b,c⟩:=hEok.2 C s hl;exact ⟨a,by omega,c⟩) v fun P r F' w16 hr hE hrb=>?_;have hEb:=hb.trans (hEx.trans hE);have hls':∀j,F'.LS j->w11.heap.size<=j:=fun j hj=>by
     rcases hE.ls j hj with h1 | h1
     ·exact hls j h1
     ·omega
    have hyw:=hyx.chg hE.chg (hEx.m.not_in hyx tys fun h=>by have:=hls _ h;omega);have hxw16:=hxx.chg hE.chg (hEx.m.not_in hxx tys fun h=>by have:=hls _ h;omega);have ha16:=hax.chgS hE.chg (fun j hj hs=>by
     rcases aOld j hj with h1 | h1
     ·rcases bW j hs with h2 | h2<;>omega
     ·rcases bW j hs with h2 | h2<;>omega) (zgx hax hEx.m fun j hj hi=>by have:=hls j hj;have:=aImg j hi;omega)
    have hrx16:=qil (hrxW.ext hG15) hE.chg fun hp a ha hs=>by
     have:=hlx a ha hp;rcases bW _ hs with h2 | h2<;>omega
    have hf16:=(hfW.ext hG15).chg hE.chg fun j hj hs=>by
     have:=ho9.lt j hj;rcases bW _ hs with h2 | h2<;>omega
    have hrest16:=qil (hrest.ext hG15) hE.chg fun hp a ha hs=>by
     have:=hrestb hp a ha;rcases bW _ hs with h2 | h2<;>omega
    refine qbx hyw rfl fun w17 hy17 hc17 hs17=>?_;have hEb17:=hEb.other hyw tys (fun h=>by have:=hls' _ h;omega) (le_refl _) hc17;have ha17:=ha16.chgS hc17 (fun j hj hs=>by rcases aOld j hj with h1 | h1<;>omega) fun j hj hs=>by have:=aImg j hj;omega
    have hx17:=hxw16.chg hc17 (by omega);have hrx17:=qil hrx16 hc17 fun hp a ha hs=>by have:=hlx a ha hp;omega
    have hf17:=hf16.chg hc17 fun j hj hs=>by have:=ho9.lt j hj;omega
    have hrest17:=qil hrest16 hc17 fun hp a ha hs=>by have:=hrestb hp a ha;omega
    have hr17:ResM w17 r (doK Ey (hd d++(ts.drop p).take m) P v).2:=⟨hr.1.chg hc17 fun a ha e=>by have:=(hrb a.block (slk.2 ⟨a,ha,rfl⟩)).1;omega,hr.2⟩;have B17:Below w.heap.size w w17:=B10.trans ((EngT.belowB hb10 hEb17).mono (by omega));refine hrest17.slK (E:=qae) rfl (.inr rfl) (.inl ⟨rfl,rfl⟩) hm (le_refl _) fun hnew=>?_;rw [take_length,List.drop_drop] at hnew;have hnb:0<(ts.drop (p+m)).length->∀a,cut rest.a m rest.c qae.k=some a->a.block<w.heap.size:=fun hp a ha=>by
     obtain ⟨b,hb1,hb2⟩:=qgd ha;rw [hb2];rw [List.length_drop] at hp;exact hrestb (by omega) b hb1
    rw [w64i (x:=(k:Int)+1) (by omega)];rcases hdn with ⟨rfl,rfl,hml⟩ | ⟨rfl,rfl,hml⟩
    ·refine cT rfl (lSl (x:=r.Reply) (hy17.cells 0 _ rfl) ?_);have hrl:r.Reply.n=(doK Ey (hd 49++(ts.drop p).take m) P v).2.reply.length:=hr17.1.n;rcases (hres P).1 hml with ⟨h1,h2⟩ | ⟨h1,h2⟩
     ·refine cF (dFq (by rw [hrl,h1];decide)) (hI _ _ ⟨k+1,p+m,F',_,r,kr0,by simp,by omega,by omega,hnew,hnb,hEb17,hls',ha17,hy17,hx17,hrx17,hf17,.inr ⟨rfl,by omega,.inr ⟨by omega,h2⟩⟩⟩ (by dsimp only;simp only [Bool.false_eq_true,if_false];omega))
     ·have h3:=List.length_pos_iff.2 h1;exact cT (dTq (by omega)) (j5 w17 F' _ (2*k+2) r _ (by omega) hEb17.m ha17 hy17 hr17 hx17 hrx17 h2 B17)
    ·exact cF rfl (hI _ _ ⟨k+1,p+m,F',_,r,_,by simp,by omega,by omega,hnew,hnb,hEb17,hls',ha17,hy17,hx17,hrx17,hf17,.inl ⟨rfl,hr17,(hres P).2 hml⟩⟩ (by dsimp only;simp only [Bool.false_eq_true,if_false,if_true];omega))
   by_cases hml:m=(ts.drop p).length
   ·refine cT (by rw [hrn,hml];simp) ?_;have hcr:=hc.rd (by omega);have hcn:c.n=(hd 49).length:=hcr.n;rw [hcn,w64i (x:=(((hd 49).length:Nat):Int)-2) (by omega)];have e:(((hd 49).length:Nat):Int)-2=(((hd 49).length-2:Nat):Int):=by omega
    rw [e];refine hcr.ix (E:=qae) rfl (by omega) (by omega) fun _=>?_;rw [Int.toNat_natCast];refine Cmd.st (base:=W.heap.size) hc (i:=(hd 49).length-2) (by omega) 48 fun w14 hc14 hch _=>?_;rw [hset] at hc14;exact j9 true 48 w14 hc14 hl8 (hG.trans (hch.below hG.size fun i hi hs=>by omega)) (.inr ⟨rfl,rfl,hml⟩)
   ·refine cF (by rw [hrn];simpa using fun h:(m:Int)=_=>hml (by omega)) ?_;exact j9 false 49 w13 hc hl4 hG (.inl ⟨rfl,rfl,by omega⟩)
  rcases hmid with ⟨rfl,rfl,rfl⟩ | ⟨hk0,hmp⟩
  ·refine cT rfl (nwb fun w13 hb13 hB13 _=>?_);have G13:=qap hB12 hB13;have c13:Cmd w13 W.heap.size ⟨some ⟨w12.heap.size,0,none⟩,0,0⟩ []:=.inl (qjx hb13 hB12.size);refine c13.apK G13 (hfW.rd.ext G13) (by simp only [length_nil];omega) fun s14 w14 c14 G14 _ _=>?_;have c14:Cmd w14 W.heap.size s14 (qeh H):=c14;show apS PG #[qab,qa1] qab s14 (strB [49,59]) w14 _;refine c14.apS G14 (by simp) (by simp only [length_cons,length_nil];omega) fun s15 w15 c15 G15 _ _=>?_;have hdo:∀d:UInt8,d=48\/d=49->∀(l:List UInt8) P,doK (newE 8192) (qeh H++[d,59]++l) P v=sayF o (digI d) l P v:=fun d hd l P=>by
    have:=ho d hd (newE 8192) l P v;rw [List.append_assoc];exact this.trans (by cases o<;>rfl)
   refine j8 (fun d=>qeh H++[d,59]) s15 w15 (.inl c15) G15 ?_ (by simp) (by simp only [length_append,length_cons,length_nil];omega) (by simp only [length_append,length_cons,length_nil];omega) fun P=>⟨fun hml=>?_,fun hml=>?_⟩
   ·simp
   ·rw [hdo 49 (.inr rfl),show digI 49=1 from rfl];have:=zhg o (pre:=(ts.drop 0).take m) (suf:=(ts.drop 0).drop m) (by rw [take_append_drop];simp;omega) P Px v;rw [take_append_drop] at this;simpa using this
   ·rw [hdo 48 (.inl rfl),hml,take_length];exact zdc o (by omega) P Px v
  ·refine cF (by simp;omega) ?_;have hdo:∀d:UInt8,d=48\/d=49->∀(l:List UInt8) P,doK Ey (moreB d++l) P v=cmdK Ey (keyD (digI d)) l P v:=fun d hd l P=>zjx hd Ey l P v;have e:ts.take p++(ts.drop p).take m=ts.take (p+m):=by rw [List.take_add]
   refine j8 moreB c0 w12 hc0 hB12 rfl (by decide) (by decide) (by decide) fun P=>⟨fun hml=>?_,fun hml=>?_⟩
   ·rw [hdo 49 (.inr rfl)];have:=zkj hmp (ts:=(ts.drop p).take m) (suf:=ts.drop (p+m)) (by rw [e,take_append_drop];omega) P Px v;rw [e,take_append_drop] at this;exact this
   ·rw [hdo 48 (.inl rfl),hml,take_length];have:=zix hmp (ts:=ts.drop p) (by rw [take_append_drop];omega) P Px v;rw [take_append_drop] at this;exact this
 refine cO (fun e=>?_) fun e=>?_
 ·have e:=oTq e;have hlt:k<cs.length:=by omega
  obtain ⟨a,hxa⟩:∃a,cs[k]?=some a:=⟨_,List.getElem?_eq_getElem hlt⟩;refine (hc.ext BW).ix (E:=E_int) (i:=(k:Int)) rfl (by omega) (by omega) fun hcell=>?_;have e1:cs[(k:Int).toNat]'(by omega)=a:=(List.getElem?_eq_some_iff.1 (by simpa using hxa)).2;rw [e1] at hcell;refine lI (x:=a) (by simpa using hcell 0 _ rfl) ?_;rw [hrn,w64i (x:=(((ts.drop p).length:Nat):Int)+1) (by omega)];refine ⟨by omega,?_⟩;have htm:=zjn a (m:=(ts.drop p).length+1) (by omega);have e2:(((ts.drop p).length+1:Nat):Int)=(((ts.drop p).length:Nat):Int)+1:=by omega
  rw [e2] at htm;generalize a.tmod ((((ts.drop p).length:Nat):Int)+1)=q at *;refine cO (fun e=>?_) fun e=>?_
  ·have e:=oTq e;have h:=j7 (0-q).toNat (by omega) (.inl hlt);rw [Int.toNat_of_nonneg (by omega)] at h;rw [i64_in (x:=0-q) (by omega)];exact h
  ·have e:=oFq e;have h:=j7 q.toNat (by omega) (.inl hlt);rw [Int.toNat_of_nonneg (by omega)] at h;exact h
 ·have h:=j7 (ts.drop p).length (le_refl _) (.inr rfl);rw [<-hrn] at h;exact h
end
end Go.Proofs.YtedcpbkcamckoaaGreatDoor
namespace Go.Proofs.YtedcpbkcamckoaaGreatDoor
def jnA (P:Program) (fn:Func) (s:ChangeSpec) (c:OpenClaim):Bool :=
 c.wf (OpenSpec.ofChange s) && laidOutB P && mapsRowed P && fn.params.all (P.readableRec ·) && namedTie P c.named s.vars && (c.stops==[]) && (P.stops==[]) && (c.knobs==[]) && (P.stopKnobs==[])
def jnB (P:Program) (fn:Func) (s:ChangeSpec) (c:OpenClaim):Bool :=
 (c.maps==(fn.params.toList++s.plain.varTypes P).any (P.mapsRec ·)) && (c.ifaces==(fn.params.toList++s.plain.varTypes P).any (P.ifacesRec ·)) && (c.mapsOut==P.mapsAmong fn.resultTypes.toList) &&
 (c.loops==(fn.params.toList++s.plain.varTypes P).any (P.loopsFrom ·)) && (c.wideKeys==(fn.params.toList++s.plain.varTypes P++fn.resultTypes.toList).any (P.wideKeysFrom ·)) &&
 s.vars.all (P.varReadable ·) && fn.resultTypes.all (fun t=>P.readableRec t && decide (t<P.types.size)) && (c.ifacesOut==fn.resultTypes.toList.any (P.ifacesRec ·)) && (c.loopsOut==fn.resultTypes.toList.any (P.loopsFrom ·))
def jnC (P:Program) (fn:Func) (s:ChangeSpec) (c:OpenClaim):Bool :=
 (c.plainKeys==P.plainKeys) && c.shortTexts.isNone && P.stopsHeard && P.mayEnter && (c.lifted==P.liftsFinal) && (P.make==some c.make) && (c.kinds==(if c.domain.isEmpty then [] else fn.params.toList.map fun t=>match P.underlying t with | some (.int k)=>some k | _=>none)) && (c.pinned==c.pinnedBy) &&
 (c.veiled==(fn.params.toList++s.plain.varTypes P++fn.resultTypes.toList).any (P.veiledRec ·)) && c.veiledFits P fn.params.toList (fn.params.toList++s.plain.varTypes P++fn.resultTypes.toList)
theorem zeh {P:Program} {f:FuncId} {fn:Func} {s:ChangeSpec} {c:OpenClaim} (a:jnA P fn s c=true) (b1:(c.inPlace==P.inPlace f)=true) (b2:(c.unfollowed==P.unfollowed f)=true) (b3:(c.recurses==P.recurses f)=true) (b4:(c.named==P.varsNamed f)=true)
  (d:jnB P fn s c=true) (e:jnC P fn s c=true):joinedFacts P f fn s c=true:=by
 unfold jnA at a;unfold jnB at d;unfold jnC at e;unfold joinedFacts;simp only [Bool.and_eq_true,and_assoc] at a d e ⊢;exact ⟨a.1,a.2.1,a.2.2.1,a.2.2.2.1,a.2.2.2.2.1,a.2.2.2.2.2.1,a.2.2.2.2.2.2.1,a.2.2.2.2.2.2.2.1,a.2.2.2.2.2.2.2.2,b1,b2,b3,b4,d.1,d.2.1,d.2.2.1,d.2.2.2.1,d.2.2.2.2.1,d.2.2.2.2.2.1,d.2.2.2.2.2.2.1,d.2.2.2.2.2.2.2.1,d.2.2.2.2.2.2.2.2,e⟩
end Go.Proofs.YtedcpbkcamckoaaGreatDoor
