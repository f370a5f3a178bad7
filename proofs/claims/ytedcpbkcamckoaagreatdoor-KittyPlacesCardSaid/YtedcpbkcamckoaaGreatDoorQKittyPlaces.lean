import Derived.Test.YtedcpbkcamckoaaGreatDoorP1
import Derived.Test.YtedcpbkcamckoaaGreatDoorP6
import Derived.Test.YtedcpbkcamckoaaGreatDoorP5
import Derived.Test.YtedcpbkcamckoaaGreatDoorTie
import Derived.Test.YtedcpbkcamckoaaGreatDoorCards
import Derived.SevenTiedAt
namespace Go.Proofs.YtedcpbkcamckoaaGreatDoor
open Go.Vc Go.ChangeShapes Go.WideShapes Go.ChangeAt Go.RowKit
set_option maxRecDepth 100000
theorem zds:Tryz.f6.params=#[3,26]:=by kernel_rfl
theorem q4d {H:Type} {enc:TypeId×Value->H} {W:World} {base:Nat} {args:Array Value} {ds:List (DataW H)} {p:List MemPlace} (hval:∀(j:Nat) t v,Tryz.f6.params[j]?=some t->args[j]?=some v->Value.okWide Tryz.prog W .any base t v)
  (hT:Tab W) (hA:DataW.TrodAll enc Tryz.prog W 0 (fun _=>true) true Tryz.f6.params.toList args.toList ds p):(∃d1 d2,ds=[d1,d2])/\Calls Tryz.prog 6 args W fun e w'=>e=.returned (.bool true)/\Below W.heap.size W w':=by
 rw [zds] at hA hval;obtain ⟨v0,vs0,d0,ds0,p0,q0,hargs,rfl,rfl,h0,r0⟩:=trodAll_cons hA;obtain ⟨v1,vs1,d1,ds1,p1,q1,rfl,rfl,rfl,h1,r1⟩:=trodAll_cons r0;obtain ⟨rfl,rfl,rfl⟩:=trodAll_nil r1;obtain rfl:args=#[v0,v1]:=by cases args;simp_all
 refine ⟨⟨_,_,rfl⟩,?_⟩;obtain ⟨x0,rfl,_,_,wf0⟩:=open_int (k:=.i64) (by kernel_rfl) (hval 0 3 v0 rfl rfl) h0;obtain ⟨s1,xs1,rfl,hrd1,hq1⟩:=zhw (by kernel_rfl) (hval 1 26 v1 rfl rfl) h1;refine Calls.mono (zd0 hT x0 ⟨hrd1,hq1⟩ (K:=fun b w'=>b=true/\Below W.heap.size W w') fun w' hB=>⟨rfl,hB⟩) ?_;rintro e w' ⟨r,rfl,rfl,hB⟩;exact ⟨rfl,hB⟩
theorem q12 (os:Os) (started:os.Started) (H:Type) (enc:TypeId×Value->H) :
  ReturnsInHanded {} Tryz.checked os 6 .any (fun w args=>(Rows.kittyPlacesSpec.pre enc Tryz.prog Tryz.f6 Rows.kittyPlacesRow.domain false w args/\laidMetH Tryz.prog tabs w)/\sizedMet enc Tryz.prog Tryz.f6 (OpenSpec.ofChange Rows.kittyPlacesSpec) false w args)
   (Rows.kittyPlacesSpec.post enc Tryz.prog Tryz.f6 false true false false):=by
 refine returnsInHanded_of_change_and (C:=Tryz.checked) (X:=fun w _=>laidMetH Tryz.prog tabs w) (fun _ _ _ hh h=>h.of_heap hh) own started (by kernel_rfl) Tryz.func6
  (ChangeSpec.witness_shaped (enc:=enc) (C:=Tryz.checked) (os:=os) (X:=fun w _=>laidMetH Tryz.prog tabs w) false (World.laidAll Tryz.prog os tabs) #[.int .i64 0,.slice none 0 0] 8 (World.laidAll_os _ _ _)
   (q3y os) (by kernel_rfl) (by kernel_rfl) (by kernel_rfl) (za7 os _)) ?_
 intro W base args ds gs before hval hW _ _ hX _;have hW':=hW;obtain ⟨p,q,hA,_,_,_,_⟩:=hW;obtain ⟨⟨d1,d2,rfl⟩,hw⟩:=q4d hval (q3q hX) hA;refine hw.mono ?_;rintro e W' ⟨rfl,hB⟩;exact ⟨_,rfl,zbf zdj (tb:=4) (by kernel_rfl) (by kernel_rfl) (by kernel_rfl) rfl rfl hW' hB⟩
theorem q62:jnA Tryz.checked.prog Tryz.f6 Rows.kittyPlacesSpec Rows.kittyPlacesRow=true:=by kernel_rfl
theorem q6x:(Rows.kittyPlacesRow.inPlace==Tryz.checked.prog.inPlace 6)=true:=by kernel_rfl
theorem q7h:(Rows.kittyPlacesRow.unfollowed==Tryz.checked.prog.unfollowed 6)=true:=by kernel_rfl
theorem q6u:(Rows.kittyPlacesRow.recurses==Tryz.checked.prog.recurses 6)=true:=by kernel_rfl
theorem q7n:(Rows.kittyPlacesRow.named==Tryz.checked.prog.varsNamed 6)=true:=by kernel_rfl
theorem q6w:jnB Tryz.checked.prog Tryz.f6 Rows.kittyPlacesSpec Rows.kittyPlacesRow=true:=by kernel_rfl
theorem q7o:jnC Tryz.checked.prog Tryz.f6 Rows.kittyPlacesSpec Rows.kittyPlacesRow=true:=by kernel_rfl
theorem kittyPlaces_holds:Rows.KittyPlacesSaid :=
 OpenClaim.holds_of_wide 6 Tryz.f6 rfl rfl rfl rfl rfl rfl rfl ⟨rfl,rfl,rfl,rfl,rfl⟩ rfl rfl rfl rfl rfl (by kernel_rfl) Tryz.func6 (q74 q62 q6x q7h q6u q7n q6w q7o)
  (oTq (by kernel_rfl)) (by unfold Func.isWrapper;first | (rw [if_pos (by decide +kernel)];kernel_rfl) | (rw [if_neg (by decide +kernel)];exact ⟨rfl,rfl⟩))
  (fun os started H enc _=>q12 os started H enc)
theorem kittyPlaces_card:Rows.KittyPlacesCardSaid :=
 Claim7.holds_tied_plain_at .later [] [.data, .data, .data, .data, .pinned] true (true, "fa1bc12d9d552c0af6ea24f8149c90922ec70d7c3696316cd74ec4dfe27e28d5") true kittyPlaces_holds (fun _ h => by cases h) (by kernel_rfl) (fun _ h => by cases h) kittyPlaces_row_tie rfl ⟨rfl, rfl⟩ (by kernel_rfl) rfl
  (fun f fn hf hfn=>by
   obtain rfl : f = 6 := Option.some.inj ((show Tryz.prog.funcNamed "phosphor/phosphorlaw23.KittyPlaces" = some 6 by kernel_rfl).symm.trans hf) |>.symm
   obtain rfl:fn=Tryz.f6:=(Option.some.inj (Tryz.func6.symm.trans hfn)).symm;exact ⟨by kernel_rfl,fun j t ht=>by
    rw [zds] at ht;have hm:t∈[3,26]:=by simpa using Array.mem_of_getElem? ht
    have hall:([3,26].all fun u=>!Tryz.prog.wantsStandIn u)=true:=by kernel_rfl
    exact (show Tryz.prog.wantsStandIn t=false by simpa using List.all_eq_true.1 hall t hm)⟩)
  (by kernel_rfl)
#print axioms kittyPlaces_card
end Go.Proofs.YtedcpbkcamckoaaGreatDoor
