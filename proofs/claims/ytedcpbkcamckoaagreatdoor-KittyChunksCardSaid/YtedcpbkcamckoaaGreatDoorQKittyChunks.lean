import Derived.Test.YtedcpbkcamckoaaGreatDoorP1
import Derived.Test.YtedcpbkcamckoaaGreatDoorP6
import Derived.Test.YtedcpbkcamckoaaGreatDoorTie
import Derived.Test.YtedcpbkcamckoaaGreatDoorCards
import Derived.SevenTiedAt
namespace Go.Proofs.YtedcpbkcamckoaaGreatDoor
open Go.Vc Go.ChangeShapes Go.WideShapes Go.ChangeAt Go.RowKit
set_option maxRecDepth 100000
theorem zb3:Tryz.f5.params=#[37,37,49,30]:=by kernel_rfl
theorem q3a {H:Type} {enc:TypeId×Value->H} {W:World} {base:Nat} {args:Array Value} {ds:List (DataW H)} {p:List MemPlace} (hval:∀(j:Nat) t v,Tryz.f5.params[j]?=some t->args[j]?=some v->Value.okWide Tryz.prog W .any base t v)
  (hT:Tab W) (hA:DataW.TrodAll enc Tryz.prog W 0 (fun _=>true) true Tryz.f5.params.toList args.toList ds p):(∃d1 d2 d3 d4,ds=[d1,d2,d3,d4])/\Calls Tryz.prog 5 args W fun e w'=>e=.returned (.bool true)/\Below W.heap.size W w':=by
 rw [zb3] at hA hval;obtain ⟨v0,vs0,d0,ds0,p0,q0,hargs,rfl,rfl,h0,r0⟩:=trodAll_cons hA;obtain ⟨v1,vs1,d1,ds1,p1,q1,rfl,rfl,rfl,h1,r1⟩:=trodAll_cons r0;obtain ⟨v2,vs2,d2,ds2,p2,q2,rfl,rfl,rfl,h2,r2⟩:=trodAll_cons r1;obtain ⟨v3,vs3,d3,ds3,p3,q3,rfl,rfl,rfl,h3,r3⟩:=trodAll_cons r2;obtain ⟨rfl,rfl,rfl⟩:=trodAll_nil r3;obtain rfl:args=#[v0,v1,v2,v3]:=by cases args;simp_all
 refine ⟨⟨_,_,_,_,rfl⟩,?_⟩;obtain ⟨s0,xs0,rfl,hrd0,hq0⟩:=q3q (by kernel_rfl) (hval 0 37 v0 rfl rfl) h0;obtain ⟨s1,xs1,rfl,hrd1,hq1⟩:=q3q (by kernel_rfl) (hval 1 37 v1 rfl rfl) h1;obtain ⟨s2,xs2,rfl,hrd2,hq2⟩:=zfh (by kernel_rfl) (hval 2 49 v2 rfl rfl) h2;obtain ⟨x3,rfl⟩:=zev (hval 3 30 v3 rfl rfl) h3;refine Calls.mono (zcd hT hrd0 hrd1 hrd2 x3 (K:=fun b w'=>b=true/\Below W.heap.size W w') fun w' hB=>⟨rfl,hB⟩) ?_;rintro e w' ⟨r,rfl,rfl,hB⟩;exact ⟨rfl,hB⟩
theorem q03 (os:Os) (started:os.Started) (H:Type) (enc:TypeId×Value->H) :
  ReturnsInHanded {} Tryz.checked os 5 .any (fun w args=>(Rows.kittyChunksSpec.pre enc Tryz.prog Tryz.f5 Rows.kittyChunksRow.domain false w args/\laidMetH Tryz.prog tabs w)/\sizedMet enc Tryz.prog Tryz.f5 (OpenSpec.ofChange Rows.kittyChunksSpec) false w args)
   (Rows.kittyChunksSpec.post enc Tryz.prog Tryz.f5 false true false false):=by
 refine returnsInHanded_of_change_and (C:=Tryz.checked) (X:=fun w _=>laidMetH Tryz.prog tabs w) (fun _ _ _ hh h=>h.of_heap hh) own started (by kernel_rfl) Tryz.func5
  (ChangeSpec.witness_shaped (enc:=enc) (C:=Tryz.checked) (os:=os) (X:=fun w _=>laidMetH Tryz.prog tabs w) false (World.laidAll Tryz.prog os tabs) #[.slice none 0 0,.slice none 0 0,.slice none 0 0,.agg #[.bool false,.int .i64 0,.int .i64 0,.int .i64 0,.int .i64 0,.int .i64 0,.int .i64 0,.int .i64 0]] 8 (World.laidAll_os _ _ _)
   (zaq os) (by kernel_rfl) (by kernel_rfl) (by kernel_rfl) (zie os _)) ?_
 intro W base args ds gs before hval hW _ _ hX _;have hW':=hW;obtain ⟨p,q,hA,_,_,_,_⟩:=hW;obtain ⟨⟨d1,d2,d3,d4,rfl⟩,hw⟩:=q3a hval (zaa hX) hA;refine hw.mono ?_;rintro e W' ⟨rfl,hB⟩;exact ⟨_,rfl,zhn zjh (tb:=4) (by kernel_rfl) (by kernel_rfl) (by kernel_rfl) rfl rfl hW' hB⟩
theorem q49:jnA Tryz.checked.prog Tryz.f5 Rows.kittyChunksSpec Rows.kittyChunksRow=true:=by kernel_rfl
theorem q5u:(Rows.kittyChunksRow.inPlace==Tryz.checked.prog.inPlace 5)=true:=by kernel_rfl
theorem q5j:(Rows.kittyChunksRow.unfollowed==Tryz.checked.prog.unfollowed 5)=true:=by kernel_rfl
theorem q59:(Rows.kittyChunksRow.recurses==Tryz.checked.prog.recurses 5)=true:=by kernel_rfl
theorem q57:(Rows.kittyChunksRow.named==Tryz.checked.prog.varsNamed 5)=true:=by kernel_rfl
theorem q5g:jnB Tryz.checked.prog Tryz.f5 Rows.kittyChunksSpec Rows.kittyChunksRow=true:=by kernel_rfl
theorem q47:jnC Tryz.checked.prog Tryz.f5 Rows.kittyChunksSpec Rows.kittyChunksRow=true:=by kernel_rfl
theorem kittyChunks_holds:Rows.KittyChunksSaid :=
 OpenClaim.holds_of_wide 5 Tryz.f5 rfl rfl rfl rfl rfl rfl rfl ⟨rfl,rfl,rfl,rfl,rfl⟩ rfl rfl rfl rfl rfl (by kernel_rfl) Tryz.func5 (zeh q49 q5u q5j q59 q57 q5g q47)
  (oTq (by kernel_rfl)) (by unfold Func.isWrapper;first | (rw [if_pos (by decide +kernel)];kernel_rfl) | (rw [if_neg (by decide +kernel)];exact ⟨rfl,rfl⟩))
  (fun os started H enc _=>q03 os started H enc)
theorem kittyChunks_card:Rows.KittyChunksCardSaid :=
 Claim7.holds_tied_plain_at .later [] [.data, .data, .data, .data, .pinned] true (true, "fa1bc12d9d552c0af6ea24f8149c90922ec70d7c3696316cd74ec4dfe27e28d5") true kittyChunks_holds (fun _ h => by cases h) (by kernel_rfl) (fun _ h => by cases h) kittyChunks_row_tie rfl ⟨rfl, rfl⟩ (by kernel_rfl) rfl
  (fun f fn hf hfn=>by
   obtain rfl : f = 5 := Option.some.inj ((show Tryz.prog.funcNamed "phosphor/phosphorlaw23.KittyChunks" = some 5 by kernel_rfl).symm.trans hf) |>.symm
   obtain rfl:fn=Tryz.f5:=(Option.some.inj (Tryz.func5.symm.trans hfn)).symm;exact ⟨by kernel_rfl,fun j t ht=>by
    rw [zb3] at ht;have hm:t∈[37,37,49,30]:=by simpa using Array.mem_of_getElem? ht
    have hall:([37,37,49,30].all fun u=>!Tryz.prog.wantsStandIn u)=true:=by kernel_rfl
    exact (show Tryz.prog.wantsStandIn t=false by simpa using List.all_eq_true.1 hall t hm)⟩)
  (by kernel_rfl)
#print axioms kittyChunks_card
end Go.Proofs.YtedcpbkcamckoaaGreatDoor
