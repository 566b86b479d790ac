/-
  TopicsLists is proved: whatever the text, the law returns true, and it reads afterwards as it did. Conditions: the listed variables (errors.errorType; math/bits' and strconv's tables, strings.asciiSpace; strconv.ErrRange, strconv.ErrSyntax), tied to the program's text by the given tie.
-/
import Derived.Test.YtobegmcbfgnpnaaGreatDoorU45
import Derived.Test.YtobegmcbfgnpnaaGreatDoorU46
import Derived.Test.YtobegmcbfgnpnaaGreatDoorTie
import Derived.Test.YtobegmcbfgnpnaaGreatDoorCards
import Derived.OpenShut
namespace Go.Proofs.YtobegmcbfgnpnaaGreatDoor.topicsLists
open Go.ChangeShapes Go.WideShapes Go.ChangeAt Go.RowKit
open Go.ChangeMaps (open_string shut_string)
theorem own:ownKnob Tryz.prog.godebug=none:=by kernel_rfl
set_option maxRecDepth 100000 in
theorem lifted (os:Os) (started:os.Started) (H:Type) (enc:TypeId×Value→H) :
  ReturnsInHanded {} Tryz.checked os 3 .any (fun w args=>(Rows.topicsListsSpec.pre enc Tryz.prog Tryz.f3 [] false w args∧laidMetH Tryz.prog seatLaid w)∧sizedMet enc Tryz.prog Tryz.f3 (OpenSpec.ofChange Rows.topicsListsSpec) false w args)
   (Rows.topicsListsSpec.post enc Tryz.prog Tryz.f3 false true false false):=by
 refine handed_and_shaped (C:=Tryz.checked) (X:=fun w _=>laidMetH Tryz.prog seatLaid w) (fun _ _ _ hh h=>h.of_heap hh) own started (by kernel_rfl) Tryz.func3
  (ChangeSpec.witness_shaped (enc:=enc) (C:=Tryz.checked) (os:=os) (X:=fun w _=>laidMetH Tryz.prog seatLaid w) false (laidWorld os) #[.string ⟨#[]⟩] 8 (laidWorld_os os)
   (World.shaped_of_ZipB (by kernel_rfl) (by kernel_rfl)) (by kernel_rfl) (by kernel_rfl) (by kernel_rfl) (laidWorld_met os _)) ?_
 intro W base args ds gs before hval0 hW hL hSH;have hval:∀ (j:Nat) t v,Tryz.f3.params[j]? = some t→args[j]? = some v→Value.okWide Tryz.prog W .any base t v:=hval0
 have hW':=hW
 obtain⟨p,q,hA0,hV,rfl,_,_⟩:=hW
 have hA:DataW.TrodAll enc Tryz.prog W 0 (fun _=>true) true Tryz.f3.params.toList args.toList ds p:=hA0
 rw[Tryz.params3] at hA hval
 obtain⟨v0,d0,rfl,rfl,h0⟩:=trodAll_one hA
 obtain⟨rfl,rfl⟩:=trodVars_none hV
 obtain⟨s,rfl,rfl,rfl,hs⟩:=open_string Tryz.underlying9 (hval 0 9 v0 rfl rfl) h0
 clear hA0 hval0;simp only[List.append_nil] at hW'
 have hsz:s.size≤9223372036854775807:=by
  have hmax:maxLen=9223372036854775807:=by decide
  omega
 refine (topicsLists_in s W (handle_of_laid hL) (tabE_of_laid hL) (maxL_of_shaped hSH) (tabA_of_laid hL) hsz).mono fun e W' ⟨he,hch⟩=>?_
 have bel:Below W.heap.size W W':=hch.below (fun _ _ h=>h)
 subst he;exact⟨_,rfl,_,_,_,[],[],[],hW',trodAll_mk1 (shut_bool Tryz.underlying4 _),trodAll_mk1 (shut_string Tryz.underlying9 hs),rfl,bel.frame _,fun h=>by cases h⟩
theorem c1:Rows.topicsListsRow.wf (OpenSpec.ofChange Rows.topicsListsSpec)=true:=by kernel_rfl
theorem c2:laidOutB Tryz.prog=true:=by kernel_rfl
theorem c3:mapsRowed Tryz.prog=true:=by kernel_rfl
theorem c4:namedTie Tryz.prog Rows.topicsListsRow.named Rows.topicsListsSpec.vars=true:=by kernel_rfl
theorem c5:(Rows.topicsListsRow.inPlace==Tryz.prog.inPlace 3)=true:=by kernel_rfl
theorem c6:(Rows.topicsListsRow.unfollowed==Tryz.prog.unfollowed 3)=true:=by kernel_rfl
theorem c7:(Rows.topicsListsRow.recurses==Tryz.prog.recurses 3)=true:=by kernel_rfl
theorem c8:(Rows.topicsListsRow.named==Tryz.prog.varsNamed 3)=true:=by kernel_rfl
theorem c9:Tryz.prog.stopsHeard=true:=by kernel_rfl
theorem c10:Tryz.prog.mayEnter=true:=by kernel_rfl
theorem c11:(Rows.topicsListsRow.lifted==Tryz.prog.liftsFinal)=true:=by kernel_rfl
theorem c12:(Rows.topicsListsRow.plainKeys==Tryz.prog.plainKeys)=true:=by kernel_rfl
theorem closed:joinedFacts Tryz.prog 3 Tryz.f3 Rows.topicsListsSpec Rows.topicsListsRow=true:=by
 unfold joinedFacts;rw[c1,c2,c3,c4,c5,c6,c7,c8,c9,c10,c11,c12];kernel_rfl
theorem over:Rows.topicsListsRow.holds Tryz.pinned (OpenSpec.ofChange Rows.topicsListsSpec):=
 OpenClaim.holds_of_wide 3 Tryz.f3 rfl rfl rfl rfl rfl rfl rfl ⟨rfl,rfl,rfl,rfl,rfl⟩ rfl rfl rfl rfl rfl (by kernel_rfl) Tryz.func3 closed
  (of_decide_eq_true (by kernel_rfl)) (by unfold Func.isWrapper;first | (rw[if_pos (by decide +kernel)];kernel_rfl) | (rw[if_neg (by decide +kernel)];exact⟨rfl,rfl⟩))
  (fun os started H enc _=>lifted os started H enc)
theorem card:Rows.TopicsListsCardSaid:=
 Claim7.holds_tied_plain_at .later [] [.data,.data,.data,.data,.handle,.sentinel,.sentinel,.listed,.data,.pinned] true Rows.topicsListsCard.stood.harness true
  over (fun _ h=>by cases h) (by kernel_rfl) (fun _ h=>by cases h) topicsLists_row_tie rfl ⟨rfl,rfl⟩ (by kernel_rfl) rfl
  (fun f fn hf hfn=>by
   obtain rfl:f=3:=Option.some.inj ((show Tryz.prog.funcNamed "conveyor/conveyorlaw.TopicsLists" = some 3 by kernel_rfl).symm.trans hf) |>.symm
   obtain rfl:fn=Tryz.f3:=(Option.some.inj (Tryz.func3.symm.trans hfn)).symm
   exact⟨by kernel_rfl,fun j t ht=>by
    rw[Tryz.params3] at ht;have h3:t=9:=by
     rcases j with _ | j
     ·simpa using ht.symm
     ·simp at ht
    subst h3;exact (show Tryz.prog.wantsStandIn 9=false by kernel_rfl)⟩)
  (by kernel_rfl)
end Go.Proofs.YtobegmcbfgnpnaaGreatDoor.topicsLists
namespace Go.Proofs.YtobegmcbfgnpnaaGreatDoor
theorem topicsLists_holds:Rows.TopicsListsCardSaid:=topicsLists.card
#print axioms topicsLists_holds
end Go.Proofs.YtobegmcbfgnpnaaGreatDoor
