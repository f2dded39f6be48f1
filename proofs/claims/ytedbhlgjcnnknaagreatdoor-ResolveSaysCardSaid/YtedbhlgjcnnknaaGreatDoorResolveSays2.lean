/-
 P9.1 (ResolveSays): whatever the tree and the wish,the law returns true,and its arguments read as they did.
-/
import Derived.Test.YtedbhlgjcnnknaaGreatDoorRows
import Derived.Test.YtedbhlgjcnnknaaGreatDoorCards
import Derived.Test.YtedbhlgjcnnknaaGreatDoorTie
import Derived.Test.YtedbhlgjcnnknaaGreatDoorQ29
import Derived.Test.YtedbhlgjcnnknaaGreatDoorQ30
import Derived.ShutString
import Derived.Below
import Derived.SevenTiedAt
import Derived.Lib.SmallJoins
import Derived.Lay
set_option linter.unusedVariables false
set_option linter.unusedSimpArgs false
set_option maxRecDepth 100000
set_option maxHeartbeats 3200000
namespace Go.Proofs.YtedbhlgjcnnknaaGreatDoor.resolveSaysDone
open Go.ChangeShapes Go.WideShapes Go.ChangeAt Go.ChangeMaps Go.RowKit Go.Joins
theorem own:ownKnob Tryz.prog.godebug=none:=by kernel_rfl
theorem laidOut:laidOutB Tryz.prog=true:=by kernel_rfl
theorem laid_met (os:Os) (args:Array Value):laidMetH Tryz.prog Rows.resolveSaysRow.laid ((World.laidAll Tryz.prog os Rows.resolveSaysRow.laid).forCall (fun _ _=>0) ⟨#[],args,[]⟩).memory:=by
 rw [MakeChecks.laidMetH_plain _ _ _ (by kernel_rfl)]
 exact laidMet_laidAll _ (by kernel_rfl) (by kernel_rfl)
theorem lifted (os:Os) (started:os.Started) (H:Type) (enc:TypeId×Value->H) :
  ReturnsInHanded {} Tryz.checked os 6 .any (fun w args=>(Rows.resolveSaysSpec.pre enc Tryz.prog Tryz.f6 [] false w args/\laidMetH Tryz.prog Rows.resolveSaysRow.laid w)/\sizedMet enc Tryz.prog Tryz.f6 (OpenSpec.ofChange Rows.resolveSaysSpec) false w args)
   (Rows.resolveSaysSpec.post enc Tryz.prog Tryz.f6 false true false false):=by
 refine handed_laid_shaped (C:=Tryz.checked) (X:=fun w _=>laidMetH Tryz.prog Rows.resolveSaysRow.laid w) (fun _ _ _ hh h=>h.of_heap hh) own started (by kernel_rfl) Tryz.func6
  (ChangeSpec.witness_shaped (enc:=enc) (C:=Tryz.checked) (os:=os) (X:=fun w _=>laidMetH Tryz.prog Rows.resolveSaysRow.laid w) false (World.laidAll Tryz.prog os Rows.resolveSaysRow.laid) #[.agg #[.slice none 0 0],.agg #[.slice none 0 0,.slice none 0 0,.slice none 0 0,.slice none 0 0]] 8 (World.laidAll_os _ _ _) (World.shaped_of_ZipB (by kernel_rfl) (by kernel_rfl)) (by kernel_rfl) (by kernel_rfl) (by kernel_rfl) (laid_met os _)) ?_
 intro W base args ds gs before hval0 hW hsz hL0 hsh
 have hval:∀ (j:Nat) t v,Tryz.f6.params[j]? = some t->args[j]? = some v->Value.okWide Tryz.prog W .any base t v:=hval0
 have hW':=hW
 obtain ⟨p,q,hA0,hV,rfl,hfz,hnd⟩:=hW
 have hA:DataW.TrodAll enc Tryz.prog W 0 (fun _=>true) true Tryz.f6.params.toList args.toList ds p:=hA0
 rw [Tryz.params6] at hA hval
 obtain ⟨v0,vs0,d0,ds0,p0,q0,hargs,rfl,rfl,h0,r0⟩:=trodAll_cons hA
 obtain ⟨v1,vs1,d1,ds1,p1,q1,rfl,rfl,rfl,h1,r1⟩:=trodAll_cons r0
 obtain ⟨rfl,rfl,rfl⟩:=trodAll_nil r1
 obtain rfl:args = #[v0,v1]:=by cases args;simp_all
 obtain ⟨rfl,rfl⟩:=trodVars_none hV
 have k0:=h0
 have lt0:∀ x∈p0,x.block<W.heap.size:=by obtain ⟨m,hm⟩:=k0;exact DataW.trod_lt m _ _ _ hm
 have k1:=h1
 have lt1:∀ x∈p1,x.block<W.heap.size:=by obtain ⟨m,hm⟩:=k1;exact DataW.trod_lt m _ _ _ hm
 obtain ⟨A0,n0,c0,ps0,rfl,hnc0,hc0,hT0⟩:=open_tree (hval 0 24 v0 rfl rfl) h0
 obtain ⟨A1_1,n1_1,c1_1,A2_1,n2_1,c2_1,A3_1,n3_1,c3_1,A4_1,n4_1,c4_1,u1,rfl,hW1⟩:=open_wish (hval 1 30 v1 rfl rfl) h1
 have hLd1:=hL0
 rw [MakeChecks.laidMetH_plain _ _ _ (by kernel_rfl)] at hLd1
 have hL:LaidV W:=laidV_of (l:=Rows.resolveSaysRow.laid) hLd1 (i:=2) (j:=4) (k:=5) rfl rfl rfl
 have hM:MaxW W:=cell_of_shapedOpen_int (g:=0) (t:=3) (zero:=#[.int .i64 0]) hsh (of_decide_eq_true (by kernel_rfl)) (by kernel_rfl) rfl (by kernel_rfl) (by kernel_rfl) Tryz.underlying3
 clear hA0 hval0 hL0
 refine (rsays_any ps0 u1 _ A0 n0 c0 A1_1 A2_1 A3_1 A4_1 n1_1 c1_1 n2_1 c2_1 n3_1 c3_1 n4_1 c4_1 W hT0 hnc0 hc0 hW1 (fun _ h=>h) hL hM).mono fun e W' ⟨he,bel⟩=>?_
 subst he
 exact ⟨_,rfl,_,_,_,[],_,[],hW',trodAll_mk1 (shut_bool Tryz.underlying4 _),(trodAll_cons_mk (Below.trod laidOut (by kernel_rfl) (of_decide_eq_true (by kernel_rfl)) k0 bel lt0) (trodAll_cons_mk (Below.trod laidOut (by kernel_rfl) (of_decide_eq_true (by kernel_rfl)) k1 bel lt1) trodAll_mk0)),rfl,bel.frame _,fun h=>by cases h⟩
theorem andI {a b:Bool} (h:a=true) (k:b=true):(a && b)=true:=by rw [h,k];rfl
theorem c_mapsRowed:mapsRowed Tryz.prog=true:=by kernel_rfl
theorem c_inPlace:(Rows.resolveSaysRow.inPlace == Tryz.prog.inPlace 6)=true:=by kernel_rfl
theorem c_unfollowed:(Rows.resolveSaysRow.unfollowed == Tryz.prog.unfollowed 6)=true:=by kernel_rfl
theorem c_recurses:(Rows.resolveSaysRow.recurses == Tryz.prog.recurses 6)=true:=by kernel_rfl
theorem c_varsNamed:(Rows.resolveSaysRow.named == Tryz.prog.varsNamed 6)=true:=by kernel_rfl
theorem c_stopsHeard:Tryz.prog.stopsHeard=true:=by kernel_rfl
theorem c_mayEnter:Tryz.prog.mayEnter=true:=by kernel_rfl
theorem c_lifts:(Rows.resolveSaysRow.lifted == Tryz.prog.liftsFinal)=true:=by kernel_rfl
theorem c_make_:(Tryz.prog.make == some Rows.resolveSaysRow.make)=true:=by kernel_rfl
theorem closed:joinedFacts Tryz.prog 6 Tryz.f6 Rows.resolveSaysSpec Rows.resolveSaysRow=true:=by
 unfold joinedFacts
 repeat' (with_reducible refine andI ?_ ?_)
 all_goals first | with_reducible exact laidOut | with_reducible exact c_mapsRowed | with_reducible exact c_inPlace | with_reducible exact c_unfollowed | with_reducible exact c_recurses | with_reducible exact c_varsNamed | with_reducible exact c_stopsHeard | with_reducible exact c_mayEnter | with_reducible exact c_lifts | with_reducible exact c_make_ | kernel_rfl
theorem over:Rows.ResolveSaysSaid:=
 OpenClaim.holds_of_wide 6 Tryz.f6 rfl rfl rfl rfl rfl rfl rfl ⟨rfl,rfl,rfl,rfl,rfl⟩ rfl rfl rfl rfl rfl (by kernel_rfl) Tryz.func6 closed
  (of_decide_eq_true (by kernel_rfl)) (by unfold Func.isWrapper;first | (rw [if_pos (by decide +kernel)];kernel_rfl) | (rw [if_neg (by decide +kernel)];exact ⟨rfl,rfl⟩))
  (fun os started H enc _=>lifted os started H enc)
theorem proved:Rows.ResolveSaysCardSaid:=
 Claim7.holds_tied_plain_at .later [] [.data, .data, .data, .data, .sentinel, .sentinel, .pinned] true (true, "973e39691549b59306eec90b81617cb5a508bc969c493343bf222e700cba3e9a") true
  over (fun _ h=>by cases h) (by kernel_rfl) (fun _ h=>by cases h) resolveSays_row_tie rfl ⟨rfl,rfl⟩ (by kernel_rfl) rfl
  (fun f fn hf hfn=>by
   obtain rfl : f = 6 := Option.some.inj ((show Tryz.prog.funcNamed "quartermaster/quartermasterlaw.ResolveSays" = some 6 by kernel_rfl).symm.trans hf) |>.symm
   obtain rfl:fn=Tryz.f6:=(Option.some.inj (Tryz.func6.symm.trans hfn)).symm
   exact ⟨by kernel_rfl,fun j t ht=>by
    rw [Tryz.params6] at ht
    have hm:t∈[24,30]:=by simpa using Array.mem_of_getElem? ht
    have hall:([24,30].all fun u=>!Tryz.prog.wantsStandIn u)=true:=by kernel_rfl
    exact (show Tryz.prog.wantsStandIn t=false by simpa using List.all_eq_true.1 hall t hm)⟩)
  (by kernel_rfl)
#print axioms proved
end Go.Proofs.YtedbhlgjcnnknaaGreatDoor.resolveSaysDone
