import Derived.Test.YtlmpnfhmpjldaaaGreatDoorP1
import Derived.Test.YtlmpnfhmpjldaaaGreatDoorP6
import Derived.Test.YtlmpnfhmpjldaaaGreatDoorTi
import Derived.Test.YtlmpnfhmpjldaaaGreatDoorCards
import Derived.SevenTiedAt
namespace Go.Proofs.YtlmpnfhmpjldaaaGreatDoor
open Go.Vc Go.ChangeShapes Go.WideShapes Go.ChangeAt Go.RowKit
set_option maxRecDepth 100000
theorem zc2:Tryz.f3.params=#[23]:=by kernel_rfl
theorem q3o {H:Type} {enc:TypeId×Value->H} {W:World} {base:Nat} {args:Array Value} {ds:List (DataW H)} {p:List MemPlace} (hval:∀(j:Nat) t v,Tryz.f3.params[j]?=some t->args[j]?=some v->Value.okWide Tryz.prog W .any base t v)
  (hT:Tab W) (hA:DataW.TrodAll enc Tryz.prog W 0 (λ_=>true) true Tryz.f3.params.toList args.toList ds p):(∃d1,ds=[d1])/\Calls Tryz.prog 3 args W λe w'=>e=.returned (.bool true)/\Uc W w':=by
 rw [zc2] at hA hval;obtain ⟨v0,vs0,d0,ds0,p0,q0,hargs,rfl,rfl,h0,r0⟩:=trodAll_cons hA;obtain ⟨rfl,rfl,rfl⟩:=trodAll_nil r0;obtain rfl:args=#[v0]:=by cases args;simp_all
 refine ⟨⟨_,rfl⟩,?_⟩;obtain ⟨x0,rfl⟩:=zjb (hval 0 23 v0 rfl rfl) h0;refine Calls.mono (zjm hT x0 (K:=λb w'=>b=true/\Uc W w') λw' hB=>⟨rfl,hB⟩) ?_;rintro e w' ⟨r,rfl,rfl,hB⟩;exact ⟨rfl,hB⟩
theorem qza (os:Os) (started:os.Started) (H:Type) (enc:TypeId×Value->H) :
  ReturnsInHanded {} Tryz.checked os 3 .any (λw args=>(Rows.termNewSpec.pre enc Tryz.prog Tryz.f3 Rows.termNewRow.domain false w args/\laidMetH Tryz.prog q3v w)/\sizedMet enc Tryz.prog Tryz.f3 (OpenSpec.ofChange Rows.termNewSpec) false w args)
   (Rows.termNewSpec.post enc Tryz.prog Tryz.f3 false true false false):=by
 refine returnsInHanded_of_change_and (C:=Tryz.checked) (X:=λw _=>laidMetH Tryz.prog q3v w) (λ_ _ _ hh h=>h.of_heap hh) own started (by kernel_rfl) Tryz.func3
  (ChangeSpec.witness_shaped (enc:=enc) (C:=Tryz.checked) (os:=os) (X:=λw _=>laidMetH Tryz.prog q3v w) false (World.laidAll Tryz.prog os q3v) #[.agg #[.int .i64 0,.int .i64 0,.int .i64 0,.int .i64 0,.int .i64 0,.int .i64 0]] 8 (World.laidAll_os _ _ _)
   (q79 os) (by kernel_rfl) (by kernel_rfl) (by kernel_rfl) (zgz os _)) ?_
 intro W base args ds gs before hval hW _ _ hX _;have hW':=hW;obtain ⟨p,q,hA,_,_,_,_⟩:=hW;obtain ⟨⟨d1,rfl⟩,hw⟩:=q3o hval (q6y hX) hA;refine hw.mono ?_;rintro e W' ⟨rfl,hB⟩;exact ⟨_,rfl,zgn zc9 (tb:=4) (by kernel_rfl) (by kernel_rfl) (by kernel_rfl) rfl rfl hW' hB⟩
theorem zl3 {P:Program} {f:FuncId} (h:P.unfollowed f=true):P.recurses f=true:=by
 unfold Program.recurses;rw [h];rfl
theorem q4n:mapsRowed Tryz.checked.prog=true:=by kernel_rfl
theorem zb3:jnA Tryz.checked.prog Tryz.f3 Rows.termNewSpec Rows.termNewRow=true:=zlp zc9 q4n (by kernel_rfl)
theorem zcn:(Rows.termNewRow.inPlace==Tryz.checked.prog.inPlace 3)=true:=by unfold Program.inPlace;rw [q4v];kernel_rfl
theorem qx7:(Rows.termNewRow.unfollowed==Tryz.checked.prog.unfollowed 3)=true:=by unfold Program.unfollowed;rw [q4v];kernel_rfl
theorem zbz:(Rows.termNewRow.recurses==Tryz.checked.prog.recurses 3)=true:=by rw [zl3 (eq_of_beq qx7).symm];rfl
theorem zcg:(Rows.termNewRow.named==Tryz.checked.prog.varsNamed 3)=true:=by unfold Program.varsNamed;rw [q4v];kernel_rfl
theorem q96:jnB Tryz.checked.prog Tryz.f3 Rows.termNewSpec Rows.termNewRow=true:=by kernel_rfl
theorem q1g:(Rows.termNewRow.plainKeys==Tryz.checked.prog.plainKeys)=true:=by kernel_rfl
theorem q02:Tryz.checked.prog.stopsHeard=true:=by kernel_rfl
theorem q1h:Tryz.checked.prog.mayEnter=true:=by kernel_rfl
theorem zbq:jnC Tryz.checked.prog Tryz.f3 Rows.termNewSpec Rows.termNewRow=true:=zmb q1g q02 q1h (by kernel_rfl)
theorem termNew_holds:Rows.TermNewSaid :=
 OpenClaim.holds_of_wide 3 Tryz.f3 rfl rfl rfl rfl rfl rfl rfl ⟨rfl,rfl,rfl,rfl,rfl⟩ rfl rfl rfl rfl rfl (by kernel_rfl) Tryz.func3 (zd1 zb3 zcn qx7 zbz zcg q96 zbq)
  (oTq (by kernel_rfl)) (by unfold Func.isWrapper;first | (rw [if_pos (by decide +kernel)];kernel_rfl) | (rw [if_neg (by decide +kernel)];exact ⟨rfl,rfl⟩))
  (λos started H enc _=>qza os started H enc)
theorem termNew_card:Rows.TermNewCardSaid :=
 Claim7.holds_tied_plain_at .later [] [.data, .data, .data, .pinned, .data] true (true, "2ef1872af21a5b0e01c8b7f1a9b71e2fce09f376d3d58e48fd635fc081aba85f") true termNew_holds (λ_ h=> by cases h) (by kernel_rfl) (λ_ h=> by cases h) qwm rfl ⟨rfl, rfl⟩ (by kernel_rfl) rfl
  (λf fn hf hfn=>by
   obtain rfl : f = 3 := Option.some.inj ((show Tryz.prog.funcNamed "phosphor/phosphorlaw25.TermNew" = some 3 by kernel_rfl).symm.trans hf) |>.symm
   obtain rfl:fn=Tryz.f3:=(Option.some.inj (Tryz.func3.symm.trans hfn)).symm;exact ⟨by kernel_rfl,λj t ht=>by
    rw [zc2] at ht;have hm:t∈[23]:=by simpa using Array.mem_of_getElem? ht
    have hall:([23].all λu=>!Tryz.prog.wantsStandIn u)=true:=by kernel_rfl
    exact (show Tryz.prog.wantsStandIn t=false by simpa using List.all_eq_true.1 hall t hm)⟩)
  (q3z q7j _ rfl).symm
#print axioms termNew_card
end Go.Proofs.YtlmpnfhmpjldaaaGreatDoor
