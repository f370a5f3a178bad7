import Derived.Test.YtokfefnmpjohpaaGreatDoorP1
import Derived.Test.YtokfefnmpjohpaaGreatDoorP6
import Derived.Test.YtokfefnmpjohpaaGreatDoorTie
import Derived.Test.YtokfefnmpjohpaaGreatDoorCards
import Derived.SevenTiedAt
namespace Go.Proofs.YtokfefnmpjohpaaGreatDoor
open Go.Vc Go.ChangeShapes Go.WideShapes Go.ChangeAt Go.RowKit
set_option maxRecDepth 100000
theorem q7g:Tryz.f3.params=#[3,3,22]:=by kernel_rfl
theorem qwm {H:Type} {enc:TypeId×Value->H} {W:World} {base:Nat} {args:Array Value} {ds:List (DataW H)} {p:List MemPlace} (hval:∀(j:Nat) t v,Tryz.f3.params[j]?=some t->args[j]?=some v->Value.okWide Tryz.prog W .any base t v)
  (hT:Tab W) (hA:DataW.TrodAll enc Tryz.prog W 0 (λ_=>true) true Tryz.f3.params.toList args.toList ds p):(∃d1 d2 d3,ds=[d1,d2,d3])/\Calls Tryz.prog 3 args W λe w'=>e=.returned (.bool true)/\Uc W w':=by
 rw [q7g] at hA hval;obtain ⟨v0,vs0,d0,ds0,p0,q0,hargs,rfl,rfl,h0,r0⟩:=trodAll_cons hA;obtain ⟨v1,vs1,d1,ds1,p1,q1,rfl,rfl,rfl,h1,r1⟩:=trodAll_cons r0;obtain ⟨v2,vs2,d2,ds2,p2,q2,rfl,rfl,rfl,h2,r2⟩:=trodAll_cons r1;obtain ⟨rfl,rfl,rfl⟩:=trodAll_nil r2;obtain rfl:args=#[v0,v1,v2]:=by cases args;simp_all
 refine ⟨⟨_,_,_,rfl⟩,?_⟩;obtain ⟨x0,rfl,_,_,wf0⟩:=open_int (k:=.i64) (by kernel_rfl) (hval 0 3 v0 rfl rfl) h0;obtain ⟨x1,rfl,_,_,wf1⟩:=open_int (k:=.i64) (by kernel_rfl) (hval 1 3 v1 rfl rfl) h1;obtain ⟨s2,xs2,rfl,hrd2,hq2⟩:=q9l (by kernel_rfl) (hval 2 22 v2 rfl rfl) h2;refine Calls.mono (zam hT hrd2 (K:=λb w'=>b=true/\Uc W w') λw' hB=>⟨rfl,hB⟩) ?_;rintro e w' ⟨r,rfl,rfl,hB⟩;exact ⟨rfl,hB⟩
theorem qsi (os:Os) (started:os.Started) (H:Type) (enc:TypeId×Value->H) :
  ReturnsInHanded {} Tryz.checked os 3 .any (λw args=>(Rows.topQuotaSpec.pre enc Tryz.prog Tryz.f3 Rows.topQuotaRow.domain false w args/\laidMetH Tryz.prog qzs w)/\sizedMet enc Tryz.prog Tryz.f3 (OpenSpec.ofChange Rows.topQuotaSpec) false w args)
   (Rows.topQuotaSpec.post enc Tryz.prog Tryz.f3 false true false false):=by
 refine returnsInHanded_of_change_and (C:=Tryz.checked) (X:=λw _=>laidMetH Tryz.prog qzs w) (λ_ _ _ hh h=>h.of_heap hh) own started (by kernel_rfl) Tryz.func3
  (ChangeSpec.witness_shaped (enc:=enc) (C:=Tryz.checked) (os:=os) (X:=λw _=>laidMetH Tryz.prog qzs w) false (World.laidAll Tryz.prog os qzs) #[.int .i64 0,.int .i64 0,.slice none 0 0] 8 (World.laidAll_os _ _ _)
   (q2c os) (by kernel_rfl) (by kernel_rfl) (by kernel_rfl) (zcl os _)) ?_
 intro W base args ds gs before hval hW _ _ hX _;have hW':=hW;obtain ⟨p,q,hA,_,_,_,_⟩:=hW;obtain ⟨⟨d1,d2,d3,rfl⟩,hw⟩:=qwm hval (q3s hX) hA;refine hw.mono ?_;rintro e W' ⟨rfl,hB⟩;exact ⟨_,rfl,zcx zfi (tb:=4) (by kernel_rfl) (by kernel_rfl) (by kernel_rfl) rfl rfl hW' hB⟩
theorem zgt {P:Program} {f:FuncId} (h:P.unfollowed f=true):P.recurses f=true:=by
 unfold Program.recurses;rw [h];rfl
theorem q01:jnA Tryz.checked.prog Tryz.f3 Rows.topQuotaSpec Rows.topQuotaRow=true:=by kernel_rfl
theorem q1k:(Rows.topQuotaRow.inPlace==Tryz.checked.prog.inPlace 3)=true:=by unfold Program.inPlace;rw [qyv];kernel_rfl
theorem qru:(Rows.topQuotaRow.unfollowed==Tryz.checked.prog.unfollowed 3)=true:=by unfold Program.unfollowed;rw [qyv];kernel_rfl
theorem q09:(Rows.topQuotaRow.recurses==Tryz.checked.prog.recurses 3)=true:=by rw [zgt (eq_of_beq qru).symm];rfl
theorem q3w:(Rows.topQuotaRow.named==Tryz.checked.prog.varsNamed 3)=true:=by unfold Program.varsNamed;rw [qyv];kernel_rfl
theorem q11:jnB Tryz.checked.prog Tryz.f3 Rows.topQuotaSpec Rows.topQuotaRow=true:=by kernel_rfl
theorem q1i:jnC Tryz.checked.prog Tryz.f3 Rows.topQuotaSpec Rows.topQuotaRow=true:=by kernel_rfl
theorem topQuota_holds:Rows.TopQuotaSaid :=
 OpenClaim.holds_of_wide 3 Tryz.f3 rfl rfl rfl rfl rfl rfl rfl ⟨rfl,rfl,rfl,rfl,rfl⟩ rfl rfl rfl rfl rfl (by kernel_rfl) Tryz.func3 (q9y q01 q1k qru q09 q3w q11 q1i)
  (oTq (by kernel_rfl)) (by unfold Func.isWrapper;first | (rw [if_pos (by decide +kernel)];kernel_rfl) | (rw [if_neg (by decide +kernel)];exact ⟨rfl,rfl⟩))
  (λos started H enc _=>qsi os started H enc)
theorem topQuota_card:Rows.TopQuotaCardSaid :=
 Claim7.holds_tied_plain_at .later [] [.data, .data, .data, .data, .pinned] true (true, "e1661810f03b8733a8ec06d9f366c2c837c5aa57fae0c4fa922c3ebcb800c608") true topQuota_holds (λ_ h=> by cases h) (by kernel_rfl) (λ_ h=> by cases h) topQuota_row_tie rfl ⟨rfl, rfl⟩ (by kernel_rfl) rfl
  (λf fn hf hfn=>by
   obtain rfl : f = 3 := Option.some.inj ((show Tryz.prog.funcNamed "phosphor/phosphortop.TopQuota" = some 3 by kernel_rfl).symm.trans hf) |>.symm
   obtain rfl:fn=Tryz.f3:=(Option.some.inj (Tryz.func3.symm.trans hfn)).symm;exact ⟨by kernel_rfl,λj t ht=>by
    rw [q7g] at ht;have hm:t∈[3,3,22]:=by simpa using Array.mem_of_getElem? ht
    have hall:([3,3,22].all λu=>!Tryz.prog.wantsStandIn u)=true:=by kernel_rfl
    exact (show Tryz.prog.wantsStandIn t=false by simpa using List.all_eq_true.1 hall t hm)⟩)
  (qzz q37 _ rfl).symm
#print axioms topQuota_card
end Go.Proofs.YtokfefnmpjohpaaGreatDoor
