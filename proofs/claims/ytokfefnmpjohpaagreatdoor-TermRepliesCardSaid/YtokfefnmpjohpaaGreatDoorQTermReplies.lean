import Derived.Test.YtokfefnmpjohpaaGreatDoorP1
import Derived.Test.YtokfefnmpjohpaaGreatDoorP5
import Derived.Test.YtokfefnmpjohpaaGreatDoorP6
import Derived.Test.YtokfefnmpjohpaaGreatDoorTie
import Derived.Test.YtokfefnmpjohpaaGreatDoorCards
import Derived.SevenTiedAt
namespace Go.Proofs.YtokfefnmpjohpaaGreatDoor
open Go.Vc Go.ChangeShapes Go.WideShapes Go.ChangeAt Go.RowKit
set_option maxRecDepth 100000
theorem q5c:Tryz.f4.params=#[22,47]:=by kernel_rfl
theorem qo2 {H:Type} {enc:TypeId×Value->H} {W:World} {base:Nat} {args:Array Value} {ds:List (DataW H)} {p:List MemPlace} (hval:∀(j:Nat) t v,Tryz.f4.params[j]?=some t->args[j]?=some v->Value.okWide Tryz.prog W .any base t v)
  (hT:Tab W) (hA:DataW.TrodAll enc Tryz.prog W 0 (λ_=>true) true Tryz.f4.params.toList args.toList ds p):(∃d1 d2,ds=[d1,d2])/\Calls Tryz.prog 4 args W λe w'=>e=.returned (.bool true)/\Uc W w':=by
 rw [q5c] at hA hval;obtain ⟨v0,vs0,d0,ds0,p0,q0,hargs,rfl,rfl,h0,r0⟩:=trodAll_cons hA;obtain ⟨v1,vs1,d1,ds1,p1,q1,rfl,rfl,rfl,h1,r1⟩:=trodAll_cons r0;obtain ⟨rfl,rfl,rfl⟩:=trodAll_nil r1;obtain rfl:args=#[v0,v1]:=by cases args;simp_all
 refine ⟨⟨_,_,rfl⟩,?_⟩;obtain ⟨s0,xs0,rfl,hrd0,hq0⟩:=q6s (by kernel_rfl) (hval 0 22 v0 rfl rfl) h0;obtain ⟨s1,xs1,rfl,hrd1,hq1⟩:=q3e (by kernel_rfl) (hval 1 47 v1 rfl rfl) h1;refine Calls.mono (q00 hT hrd0 hrd1 (K:=λb w'=>b=true/\Uc W w') λw' hB=>⟨rfl,hB⟩) ?_;rintro e w' ⟨r,rfl,rfl,hB⟩;exact ⟨rfl,hB⟩
theorem qma (os:Os) (started:os.Started) (H:Type) (enc:TypeId×Value->H) :
  ReturnsInHanded {} Tryz.checked os 4 .any (λw args=>(Rows.termRepliesSpec.pre enc Tryz.prog Tryz.f4 Rows.termRepliesRow.domain false w args/\laidMetH Tryz.prog qyv w)/\sizedMet enc Tryz.prog Tryz.f4 (OpenSpec.ofChange Rows.termRepliesSpec) false w args)
   (Rows.termRepliesSpec.post enc Tryz.prog Tryz.f4 false true false false):=by
 refine returnsInHanded_of_change_and (C:=Tryz.checked) (X:=λw _=>laidMetH Tryz.prog qyv w) (λ_ _ _ hh h=>h.of_heap hh) own started (by kernel_rfl) Tryz.func4
  (ChangeSpec.witness_shaped (enc:=enc) (C:=Tryz.checked) (os:=os) (X:=λw _=>laidMetH Tryz.prog qyv w) false (World.laidAll Tryz.prog os qyv) #[.slice none 0 0,.slice none 0 0] 8 (World.laidAll_os _ _ _)
   (qz1 os) (by kernel_rfl) (by kernel_rfl) (by kernel_rfl) (q93 os _)) ?_
 intro W base args ds gs before hval hW _ _ hX _;have hW':=hW;obtain ⟨p,q,hA,_,_,_,_⟩:=hW;obtain ⟨⟨d1,d2,rfl⟩,hw⟩:=qo2 hval (qz7 hX) hA;refine hw.mono ?_;rintro e W' ⟨rfl,hB⟩;exact ⟨_,rfl,q9r zcj (tb:=4) (by kernel_rfl) (by kernel_rfl) (by kernel_rfl) rfl rfl hW' hB⟩
theorem zer {P:Program} {f:FuncId} (h:P.unfollowed f=true):P.recurses f=true:=by
 unfold Program.recurses;rw [h];rfl
theorem que:jnA Tryz.checked.prog Tryz.f4 Rows.termRepliesSpec Rows.termRepliesRow=true:=by kernel_rfl
theorem qsl:(Rows.termRepliesRow.inPlace==Tryz.checked.prog.inPlace 4)=true:=by unfold Program.inPlace;rw [qy4];kernel_rfl
theorem qi6:(Rows.termRepliesRow.unfollowed==Tryz.checked.prog.unfollowed 4)=true:=by unfold Program.unfollowed;rw [qy4];kernel_rfl
theorem qtc:(Rows.termRepliesRow.recurses==Tryz.checked.prog.recurses 4)=true:=by rw [zer (eq_of_beq qi6).symm];rfl
theorem qs2:(Rows.termRepliesRow.named==Tryz.checked.prog.varsNamed 4)=true:=by unfold Program.varsNamed;rw [qy4];kernel_rfl
theorem qte:jnB Tryz.checked.prog Tryz.f4 Rows.termRepliesSpec Rows.termRepliesRow=true:=by kernel_rfl
theorem qto:jnC Tryz.checked.prog Tryz.f4 Rows.termRepliesSpec Rows.termRepliesRow=true:=by kernel_rfl
theorem termReplies_holds:Rows.TermRepliesSaid :=
 OpenClaim.holds_of_wide 4 Tryz.f4 rfl rfl rfl rfl rfl rfl rfl ⟨rfl,rfl,rfl,rfl,rfl⟩ rfl rfl rfl rfl rfl (by kernel_rfl) Tryz.func4 (q7x que qsl qi6 qtc qs2 qte qto)
  (oTq (by kernel_rfl)) (by unfold Func.isWrapper;first | (rw [if_pos (by decide +kernel)];kernel_rfl) | (rw [if_neg (by decide +kernel)];exact ⟨rfl,rfl⟩))
  (λos started H enc _=>qma os started H enc)
theorem termReplies_card:Rows.TermRepliesCardSaid :=
 Claim7.holds_tied_plain_at .later [] [.data, .data, .data, .data, .pinned] true (true, "e1661810f03b8733a8ec06d9f366c2c837c5aa57fae0c4fa922c3ebcb800c608") true termReplies_holds (λ_ h=> by cases h) (by kernel_rfl) (λ_ h=> by cases h) termReplies_row_tie rfl ⟨rfl, rfl⟩ (by kernel_rfl) rfl
  (λf fn hf hfn=>by
   obtain rfl : f = 4 := Option.some.inj ((show Tryz.prog.funcNamed "phosphor/phosphorlaw25.TermReplies" = some 4 by kernel_rfl).symm.trans hf) |>.symm
   obtain rfl:fn=Tryz.f4:=(Option.some.inj (Tryz.func4.symm.trans hfn)).symm;exact ⟨by kernel_rfl,λj t ht=>by
    rw [q5c] at ht;have hm:t∈[22,47]:=by simpa using Array.mem_of_getElem? ht
    have hall:([22,47].all λu=>!Tryz.prog.wantsStandIn u)=true:=by kernel_rfl
    exact (show Tryz.prog.wantsStandIn t=false by simpa using List.all_eq_true.1 hall t hm)⟩)
  (qxz q0q _ rfl).symm
#print axioms termReplies_card
end Go.Proofs.YtokfefnmpjohpaaGreatDoor
