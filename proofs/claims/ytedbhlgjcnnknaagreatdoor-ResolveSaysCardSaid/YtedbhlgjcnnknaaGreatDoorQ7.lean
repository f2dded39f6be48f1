/- Parts. -/
import Derived.Test.YtedbhlgjcnnknaaGreatDoorQ6
import Derived.LoopN
import Derived.Test.YtedbhlgjcnnknaaGreatDoorQ5
set_option linter.unusedVariables false
set_option linter.unusedSimpArgs false
set_option linter.unusedSectionVars false
set_option maxRecDepth 100000
set_option maxHeartbeats 12800000
namespace Go.Proofs.YtedbhlgjcnnknaaGreatDoor
section
open Go.RowKit
def boolTo (v:List Int) (k:Nat):List Value:=((Qm.boolsOf v).take k).map .bool
theorem boolTo_succ {N:Nat} {v:List Int} (hf:Qm.Fine N v) {k:Nat} (hk:k<N):boolTo v (k+1)=boolTo v k++[.bool (decide (0<v.getD (k+1) 0))]:=by
 have hl:=Qm.boolsOf_len hf
 unfold boolTo
 rw [List.take_succ_eq_append_getElem (by omega),List.map_append]
 have:=Qm.boolsOf_at hf hk
 rw [qgd,qge (by omega)] at this
 simp only [Option.getD_some] at this
 rw [this];rfl
theorem from_any (base b N:Nat) (A:Option Addr) (n cap:Nat) (cs:List (List Int)) (S0:Nat->Prop) (hN:N<=400) (hn:n<=cap/\cap<=maxLen) (hcs:∀ c∈cs,Qm.IsCl N c) (hbb:b<base) :
  ∀ (g st:Nat) (pf:List (List Int)) (hs:List (Option Addr×Nat×Nat)) (P:Value) (tk v:List Int) (A' Av:Option Addr) (n' cap' cv:Nat) (w:World) (S T:Nat->Prop),
   SState base b N A n cap cs S0 st P hs pf w.heap.size w->st<=40000->pf.length+st<=100000->RInts w S A' n' tk->(∀ k,S k->k<w.heap.size/\k≠b/\P.ownBlock≠some k)->n'<=maxLen->Qm.IsCl N tk ->
   RInts w T Av (N+1) v->(∀ k,T k->k<w.heap.size/\k≠b)->Qm.Fine N v->Qm.zeros v<g ->
   Calls Tryz.prog 71 #[.pointer (some ⟨b,0,none⟩),.slice A' n' cap',.slice Av (N+1) cv] w (FromPost base b N A n cap cs S0 P w (Qm.search cs g st pf tk v)):=by
 obtain ⟨j0,hj,hj0,hj1,hj2⟩:=info_parts int_info'
 obtain ⟨k0,hkk,hk0,hk1,hk2⟩:=info_parts bool_info
 have Hj:=qh hj;have Hj0:=qh hj0;have Hj1:=qh hj1;have Hj2:=qh hj2
 have Hk':=qh hkk;have Hk0:=qh hk0;have Hk1:=qh hk1;have Hk2:=qh hk2
 have Hcs:=qh hcs;have Hn:=qh hn
 clear hj hj0 hj1 hj2 hkk hk0 hk1 hk2 hcs hn
 intro g
 induction g with
 | zero=>intro st pf hs P tk v A' Av n' cap' cv w S T _ _ _ _ _ _ _ _ _ _ hz;omega
 | succ g ih =>
  have Hih:=qh ih
  clear ih
  intro st pf hs P tk v A' Av n' cap' cv w S T h hst hpf hr hS hn' hl hv hT hf hz
  unfold maxLen at hn'
  have Hr:=qh hr;have Hl:=qh hl;have Hv:=qh hv;have Hf:=qh hf;have H:=qh h;have HS:=qh hS;have HT:=qh hT;have Hlen:=qh hr.len
  have Hz:=qh hz
  have hbw:b<w.heap.size:=h.blk.lt
  have hc1:=h.blk.cell 1;have hc2:=h.blk.cell 2
  have hc5:=h.blk.cell 5
  have hf2:=h.blk.free 2
  have hf5:=h.blk.free 5
  simp only [qgz,qgs] at hc1 hc2 hc5
  clear hr hl hv hf h hS hT hz
  by_cases hst0:st=0
  ·subst hst0
   have HR:Hid (Qm.search cs (g+1) 0 pf tk v=.out):=by show _=_;unfold Qm.search;rw [if_pos (.inl rfl)]
   go_enter Tryz.func71,Tryz.ntmps71
   go_wp2_with fail
   go_ret
   rw [HR.out]
   exact ⟨Far.set_ (D:=Touched b P) (.inl rfl) 5 _,rfl,_,_,Whole.set_ H.out.blk 5 (.bool true)⟩
  have hst1:((st:Int) == 0)=false:=by simp;omega
  by_cases h60:60<n'
  ·have h60':decide ((60:Int)<(n':Int))=true:=by simp;omega
   have HR:Hid (Qm.search cs (g+1) st pf tk v=.out):=by show _=_;unfold Qm.search;rw [if_pos (.inr (by rw [Hlen.out];exact h60))]
   go_enter Tryz.func71,Tryz.ntmps71
   go_wp2_with fail
   go_ret
   rw [HR.out]
   exact ⟨Far.set_ (D:=Touched b P) (.inl rfl) 5 _,rfl,_,_,Whole.set_ H.out.blk 5 (.bool true)⟩
  have h60':decide ((60:Int)<(n':Int))=false:=by simp;omega
  have HR:Hid (¬ (st=0\/60<tk.length)):=by show ¬ _;rw [Hlen.out];omega
  obtain ⟨s1,rfl⟩:∃ s,st=s+1:=⟨st - 1,by omega⟩
  go_enter Tryz.func71,Tryz.ntmps71
  go_wp2_with fail
  have h1:=H.out.steps (.inr hbb) s1
  have Hfar0:Hid (Far (fun i=>i=b) w (w.setCell ⟨b,2,none⟩ (.int .i64 (s1:Int)))):=Far.set_ (D:=fun i=>i=b) rfl 2 _
  have hzA:(w.setCell ⟨b,2,none⟩ (.int .i64 (s1:Int))).heap.size=w.heap.size:=by simp [World.setCell]
  generalize hwA:w.setCell ⟨b,2,none⟩ (.int .i64 (s1:Int))=wA at h1 Hfar0 hzA ⊢
  have HzA:=qh hzA;have HA:=qh h1
  clear hwA hzA h1 hc1 hc2 hc5 hf2 hf5
  have hsA:w.heap.size<=wA.heap.size:=by rw [HzA.out];exact qr _
  refine (cloneVals_any Av (N+1) cv (v.map (.int .i64)) wA T (Far.ints Hfar0.out Hv.out HT.out) (int_one v) (fun k hk=>by have:=(HT.out k hk).1;omega) (by omega)).mono ?_
  rintro e w1 ⟨A1,c1,rfl,hn1,hc1,hown1,hb1⟩
  obtain ⟨g1,c1',sp,hv1,hg1,_,_,hW1⟩:=own_whole hown1 (by omega)
  injection hv1 with hv1 hv2 hv3
  subst hv1 hv3
  have hA1:=HA.out.below hb1
  have hd1:=hA1.blk.cell 1
  simp only [qgz,qgs] at hd1
  have hg1':g1<w1.heap.size:=hW1.lt
  have hbw1:b<w1.heap.size:=by have:=hb1.size;omega
  have HA1:=qh hA1;have HW1:=qh hW1;have Hb1:=qh hb1
  clear hown1 hb1 hW1 hA1 hv2
  go_wp2_with fail
  have hbx:Below w1.heap.size w1 (w1.alloc (.cells #[.slice A n cap] 31)):=(qbr _ _).alloc (qr _) _
  have hs1:∀ k,S0 k->k<w1.heap.size/\k<g1:=fun k hk=>by have:=(HA1.out.s0 k hk).1;have:=HA1.out.base_;have:=HA1.out.hi_;omega
  refine (spreadS_any sp N g1 c1 1 1 v (some ⟨w1.heap.size,0,none⟩) [cs] (w1.alloc (.cells #[.slice A n cap] 31)) (fun k=>S0 k\/k=w1.heap.size) hN Hf.out (HW1.out.alloc _)
   (fun k hk=>by rcases hk with hk | hk <;> first | (have:=hs1 k hk;simp;omega) | (simp;omega))
   (rlists1 (Whole.new w1 _ 31 [.slice A n cap] rfl) (.inr rfl) ((HA1.out.cls.below hbx (fun k hk=>(hs1 k hk).1)).more (fun k hk=>.inl hk)) Hn.out) (by unfold maxLen;omega) (by intro l hl c hc;rw [List.mem_singleton] at hl;subst hl;exact Hcs.out c hc)).mono ?_
  rintro e w2 ⟨rfl,hsp,hg2,hsz2⟩
  have hfl:[cs].flatten=cs:=by simp
  rw [hfl] at hsp ⊢
  have Hb2:Hid (Below wA.heap.size wA w2):=(Hb1.out.trans (hbx.mono Hb1.out.size)).trans (below_of_grown hg2 (by have:=Hb1.out.size;simp;omega) (fun k e=>by injection e with e;omega))
  have HA2:=qh (HA.out.below Hb2.out)
  have hsw2:w.heap.size<=w2.heap.size:=by have:=Hb2.out.size;omega
  have Hfar2:Hid (Far (Touched b P) w w2):=(Hfar0.out.mono (fun i h=>.inl h)).trans (Far.of_below (Touched b P) Hb2.out) (fun i _ h=>h)
  have Hr2:Hid (RInts w2 S A' n' tk):=((Hfar0.out.ints Hr.out (fun k hk=>⟨(HS.out k hk).1,(HS.out k hk).2.1⟩)).below Hb2.out (fun k hk=>by have:=(HS.out k hk).1;omega))
  have hS2:∀ k,S k->k<w2.heap.size:=fun k hk=>by have:=(HS.out k hk).1;omega
  have HS2:=qh hS2
  have hgw2:g1<w2.heap.size:=by rw [hsz2];simp;omega
  have Hsp:=qh hsp
  clear hbx hs1 hg2 hsz2 hfl hd1 hsp hS2
  cases hsr:Qm.spread cs v with
  | none =>
   have HR2:Hid (Qm.search cs (g+1) (s1+1) pf tk v=.no s1 (pf++[tk.map Neg.neg])):=by
    show _=_
    unfold Qm.search
    rw [if_neg HR.out,hsr];rfl
   clear hsr
   go_wp2_with fail
   refine (no_state base b N s1 A A' n cap n' cap' w.heap.size P cs S0 hs pf tk w2 S HS2.out HA2.out Hr2.out (by omega) hN Hl.out (by omega) hbb).mono ?_
   intro e w3 h3
   have h4:=h3.step Hfar2.out (.inl rfl)
   obtain rfl:=h3.2.1
   have H4:=qh h4;clear h3 h4
   go_wp2_with fail
   go_ret
   rw [HR2.out]
   exact H4.out
  | some v' =>
   have hV:=Hsp.out v' hsr
   have hf':=Qm.spread_fine Hcs.out Hf.out hsr
   have HV:=qh hV;have Hf':=qh hf'
   have hvl:v'.length=N+1:=hf'.1
   have Hvl:=qh hvl
   have Hsr:=qh hsr
   have HA2b:=HA2.out.blk
   clear hV hf' hvl hsr HA2b
   by_cases hcap:c1=1
   ·obtain rfl:N=0:=by omega
    subst hcap
    have hd0:v'.drop 1=[]:=List.drop_eq_nil_of_le (by rw [Hvl.out];exact qr _)
    have hix:Qm.idx0 v'=none:=by unfold Qm.idx0;rw [hd0];rfl
    have hbo:Qm.boolsOf v'=[]:=by unfold Qm.boolsOf;rw [hd0];rfl
    have HR2:Hid (Qm.search cs (g+1) (s1+1) pf tk v=.found []):=by
     show _=_
     unfold Qm.search
     rw [if_neg HR.out,Hsr.out]
     simp only [hix,hbo]
    have Hix:=qh (indexVal_any (some ⟨g1,0,none⟩) 0 0 [] 0 w2 (fun k=>k=g1) RInts.nil_ (by unfold maxLen;omega))
    clear hd0 hix hbo
    go_wp2_with fail
    refine Hix.out.mono ?_
    rintro e w3 ⟨rfl,q3,rfl⟩
    have hi0:idxOf (eqTo 0) [] = -1:=rfl
    rw [hi0]
    clear hi0
    go_wp2_with fail
    refine wp_loop_rounds 1 ?_
    rw [rounds_succ]
    go_wp2_with fail
    go_ret
    rw [HR2.out]
    exact ⟨Hfar2.out.drewN q3,rfl,(s1:Int),P,none,0,HA2.out.blk,Row.nil_,qr _,Nat.zero_le _,fun h=>absurd h (by omega)⟩
   have Hix0:Hid (RInts w2 (fun k=>k=g1) (some ⟨g1,1,none⟩) N (v'.drop 1)):=by
    have h0:=(wholeS_ints (S:=fun k=>k=g1) HV.out rfl Hvl.out)
    have:=Row.drop h0 (k:=1) (cap:=c1) (by omega) hn1
    rw [if_neg hcap] at this
    have h2:RInts w2 (fun k=>k=g1) (some ⟨g1,1,none⟩) N (v'.drop 1):=by
     unfold RInts;rw [List.map_drop];exact this
    exact h2
   have Hix:=qh (indexVal_any (some ⟨g1,1,none⟩) N (c1 - 1) (v'.drop 1) 0 w2 (fun k=>k=g1) Hix0.out (by unfold maxLen;omega))
   go_wp2_with fail
   refine Hix.out.mono ?_
   rintro e w3 ⟨rfl,q3,rfl⟩
   cases hix:Qm.idx0 v' with
   | none =>
    have HR2:Hid (Qm.search cs (g+1) (s1+1) pf tk v=.found (Qm.boolsOf v')):=by
     show _=_
     unfold Qm.search
     rw [if_neg HR.out,Hsr.out]
     simp only [hix]
    have Htot:=qh (Qm.idx0_none Hf'.out hix)
    rw [idx_none hix]
    clear hix
    go_wp2_with fail
    go_loopg [56] N (fun g i wr=>∃ (k:Nat) (M:Value),Hid (k+g=N)/\i=.int .i64 k/\wr.ownsRow w2.heap.size 4 1 M k (boolTo v' k)/\SBlk wr b (N:Int) A n cap (s1:Int) P M false/\Far (fun i=>i=b) w2 wr)
    case atStart=>exact ⟨0,.slice none 0 0,Nat.zero_add _,rfl,World.ownsRow_nil _ _ _ _,HA2.out.blk,(Far.refl _ _).drewN _⟩
    case round =>
     obtain ⟨k,M,Hk,rfl,hown,hblk,hfar⟩:=hrel
     have Hown:=qh hown;have Hblk:=qh hblk;have Hfar:=qh hfar
     have hwr:w2.heap.size<=wr.heap.size:=hfar.size
     have hgb:g1≠b:=by omega
     by_cases hk:k<N
     ·have hcell:=((Hix0.out.keep (w':=wr) (fun p hp=>hfar.cell (by rw [hp];exact hgw2) (by rw [hp];exact hgb))).at_ hk)
      obtain ⟨bq,oq,eq,_,hcell⟩:=hcell
      injection eq with eq;injection eq with eq1 eq2
      subst eq1 eq2
      have hb4:=hblk.cell 4
      have hf4:=hblk.free 4
      simp only [qgz,qgs] at hb4
      have hx:(v'.drop 1).getD k 0=v'.getD (k+1) 0:=by
       rw [qgd,qgd,List.getElem?_drop,Nat.add_comm 1 k]
      rw [hx] at hcell
      have hr:=Qm.vof_range Hf'.out ((k:Int)+1)
      rw [Qm.vof_pos] at hr
      have hsn:=boolTo_succ Hf'.out hk
      have hnz:=Htot.out k hk
      generalize v'.getD (k+1) 0=x at hcell hr hsn hnz
      have Hsn:=qh hsn
      clear hown hblk hfar hx hsn
      rcases hr with h | rfl | rfl
      ·exact absurd h hnz
      all_goals
       clear hnz
       go_wp2_with (at_builtin;refine wpList_append_own _ rfl _ _ 40 rfl w2.heap.size 4 k0 (.bool false) 1 1 Tryz.underlying40 Hk'.out Hk0.out Hk1.out Hk2.out rfl (by decide) _ _ _ rfl (Hown.out.alloc _) ⟨wr.heap.size,0,none⟩ 1 1 [.bool _] rfl rfl (cell_one_new _ _ _) (by simp [Value.oneCell']) (by unfold maxLen;omega) (by omega) (by simp;omega) ?_)
       intro M' w5 hown5 hg5 _
       obtain ⟨A5,c5,rfl,_,_,_⟩:=own_form hown5
       have hMb:M.ownBlock≠some b:=own_ne Hown.out Hblk.out (by decide)
       have hMb5:(Value.slice A5 (k+1) c5).ownBlock≠some b:=own_ne hown5 (Whole.grown (Whole.alloc Hblk.out _) hg5 (fun e=>hMb e.symm)) (by decide)
       have hblk5:SBlk w5 b (N:Int) A n cap (s1:Int) P M false:=Whole.grown (Whole.alloc Hblk.out _) hg5 (fun e=>hMb e.symm)
       have h54:=hblk5.cell 4
       have h5f:=hblk5.free 4
       simp only [qgz,qgs] at h54
       have Hfar5:Hid (Far (fun i=>i=b) w2 w5):=(Hfar.out.trans (Far.of_below (fun _=>False) ((qbr _ _).alloc (qr _) _)) (fun i _ h=>absurd h (fun x=>x))).trans (Far.of_grown (D:=fun i=>some i=M.ownBlock) hg5 (fun i e=>e)) (fun i hi e=>by have:=(Hown.out.lt i e.symm).1;omega)
       have Hset:=qh (Whole.set_ hblk5 4 (.slice A5 (k+1) c5))
       have hfs:Far (fun i=>i=b) w5 (w5.setCell ⟨b,4,none⟩ (.slice A5 (k+1) c5)):=Far.set_ (D:=fun i=>i=b) rfl 4 _
       have Hown6:=qh (hfs.own hown5 (fun g hg e=>hMb5 (by rw [hg,e])))
       have Hfar6:=qh (Hfar5.out.trans hfs (fun i _ h=>h))
       clear hown5 hg5 hMb hMb5 hblk5 hfs hb4 hf4
       go_wp2_with fail
       go_roundg (gk - 1)
       case measure=>have:=Hk.out;omega
       case rel=>exact ⟨k+1,_,by have:=Hk.out;show _=_;omega,by go_num,by rw [Hsn.out];exact Hown6.out,Hset.out,Hfar6.out⟩
     obtain rfl:k=N:=by have:=Hk.out;omega
     clear hown hblk hfar
     go_wp2_with fail
     go_ret
     rw [HR2.out]
     obtain ⟨AM,cM,rfl,h1,h2,h3⟩:=own_form Hown.out
     have hlen:=Qm.boolsOf_len Hf'.out
     have hbt:boolTo v' k=(Qm.boolsOf v').map .bool:=by unfold boolTo;rw [List.take_of_length_le (by omega)]
     refine ⟨Hfar2.out.trans Hfar.out (fun i _ h=>.inl h),rfl,(s1:Int),P,AM,cM, ?_, ?_, ?_,h2, ?_⟩
     ·rw [hlen];exact Hblk.out
     ·rw [hlen]
      rw [hbt] at h3
      exact Row.more h3 (fun j hj=>⟨by have:=HA2.out.base_;have:=HA2.out.hi_;omega,hj.2,by omega⟩)
     ·rw [hlen];exact h1
     intro h0
     obtain ⟨bz,oz,e,_⟩:=h3.some_lit h0
     rw [e];rfl
   | some i =>
    obtain ⟨hiN,hi0,_⟩:=Qm.idx0_some Hf'.out hix
    have hie:(((i:Int)+1) == 0)=false:=by simp;omega
    have Hix2:=qh hix
    rw [idx_some hix]
    clear hix
    go_wp2_with fail
    refine wp_loop_rounds 3 ?_
    rw [rounds_succ]
    have hgc:g1<(w2.drewN q3).heap.size:=hgw2
    have hbg1:b<g1:=by omega
    have hi400:(i:Int)<400:=by omega
    have hl1:=Qm.lit_pos hiN
    have hz12:=Qm.zeros_set Hf'.out Hix2.out
    have hzs:Qm.zeros v'<=Qm.zeros v:=Qm.zeros_spread Hcs.out Hf.out Hsr.out
    have Hzn:Hid (Qm.zeros (Qm.vset v' (-((i:Int)+1)))<g):=by have:=Hz.out;show _<_;omega
    have Hzp:Hid (Qm.zeros (Qm.vset v' ((i:Int)+1))<g):=by have:=Hz.out;show _<_;omega
    have Hnn:=qh hl1.neg;have Hnp:=qh hl1
    have HC:=qh (HA2.out.drewN q3);have HVc:=qh (HV.out.drewN q3);have HTc:=qh (Hr2.out.below (below_drewN (qbr w2.heap.size w2) q3) HS2.out)
    have HSc:Hid (∀ k,S k->k<(w2.drewN q3).heap.size/\k≠b/\P.ownBlock≠some k):=fun k hk=>⟨HS2.out k hk,(HS.out k hk).2⟩
    have Hfarc:=qh (Hfar2.out.drewN q3)
    have hswc:w.heap.size<=(w2.drewN q3).heap.size:=hsw2
    clear hl1 hz12 hzs hi0 Hix Hix0
    generalize w2.drewN q3=wc at *
    have hnnb : -400 <= -((i:Int)+1) /\ -((i:Int)+1)<0:=by omega
    generalize hnne : -((i:Int)+1)=nn at *
    have Hnne:=qh hnne;clear hnne
    have ix0:∀ w,(Instr.index 86 (.agg #[.int .i64 nn,.int .i64 ((i:Int)+1)]) (.int .i64 0)).run Tryz.prog w=.ok (.int .i64 nn) w:=fun _=>by kernel_rfl
    have ix1:∀ w,(Instr.index 86 (.agg #[.int .i64 nn,.int .i64 ((i:Int)+1)]) (.int .i64 1)).run Tryz.prog w=.ok (.int .i64 ((i:Int)+1)) w:=fun _=>by kernel_rfl
    obtain ⟨stc,hstc⟩:∃ x,x=s1:=⟨_,rfl⟩
    obtain ⟨Pc,hPc⟩:∃ x,x=P:=⟨_,rfl⟩
    obtain ⟨hsc,hhsc⟩:∃ x,x=hs:=⟨_,rfl⟩
    obtain ⟨pfc,hpfc⟩:∃ x,x=pf:=⟨_,rfl⟩
    have HC:Hid (SState base b N A n cap cs S0 stc Pc hsc pfc w.heap.size wc):=by rw [hstc,hPc,hhsc,hpfc];exact HC.out
    have HSc:Hid (∀ k,S k->k<wc.heap.size/\k≠b/\Pc.ownBlock≠some k):=by rw [hPc];exact HSc.out
    have hstc':stc<=40000:=by omega
    have hpfc':pfc.length+stc<=100000:=by rw [hstc,hpfc];omega
    have Htouch:Hid (∀ i,i<w.heap.size->Touched b Pc i->Touched b P i):=by rw [hPc];exact fun i _ h=>h
    have Hec:=qh hstc;have Hep:=qh hPc;have Heh:=qh hhsc;have Hef:=qh hpfc
    clear hstc hPc hhsc hpfc
    go_wp2_with fail
    refine (cloneVals_any (some ⟨g1,0,none⟩) (N+1) c1 (v'.map (.int .i64)) wc (fun k=>k=g1) (wholeS_row HVc.out rfl (by rw [List.length_map];exact Hvl.out)) (int_one v') (fun k hk=>by rw [hk];exact hgc) (by omega)).mono ?_
    rintro e wd ⟨Ad,cd,rfl,hnd,hcd,hownd,hbd⟩
    obtain ⟨gd,cd',spd,ed,hgd,_,_,hWd⟩:=own_whole hownd (by omega)
    injection ed with ed1 ed2 ed3
    subst ed1 ed3
    have hgd':gd<wd.heap.size:=hWd.lt
    have hsd:wc.heap.size<=wd.heap.size:=hbd.size
    have HWd:=qh hWd;have Hbd:=qh hbd
    clear hownd hbd hWd ed2
    go_wp2_with fail
    refine (setS_any spd gd 3 (N+1) cd v' nn wd Hvl.out HWd.out (by omega) (by have:=Hnn.out.2;omega)).mono ?_
    rintro e we ⟨rfl,hWe,hge,hse⟩
    have Hbe:Hid (Below wc.heap.size wc we):=Hbd.out.trans (below_of_grown hge hsd (fun k e=>by injection e with e;omega))
    have HWe:=qh hWe
    have hse':wc.heap.size<=we.heap.size:=Hbe.out.size
    have hgde:gd<we.heap.size:=hWe.lt
    clear hge hse hWe hgd'
    go_wp2_with fail
    refine (cloneInts_any A' n' cap' (tk.map (.int .i64)) we S (HTc.out.below Hbe.out (fun k hk=>(HSc.out k hk).1)) (int_one tk) (fun k hk=>by have:=(HSc.out k hk).1;omega) (by omega)).mono ?_
    rintro e wf ⟨Af,cf,rfl,hnf,hcf,hownf,hbf⟩
    have hsf:we.heap.size<=wf.heap.size:=hbf.size
    have Hownf:=qh hownf;have Hbf:=qh hbf
    clear hownf hbf
    go_wp2_with (at_builtin;refine wpList_append_own _ rfl _ _ 27 rfl we.heap.size 3 j0 (.int .i64 0) 1 8 Tryz.underlying27 Hj.out Hj0.out Hj1.out Hj2.out rfl (by decide) _ _ _ rfl (Hownf.out.alloc _) ⟨wf.heap.size,0,none⟩ 1 1 [.int .i64 nn] rfl rfl (cell_one_new _ _ _) (by simp [Value.oneCell']) (by unfold maxLen;omega) (by omega) (by simp;omega) ?_)
    intro vg wg howng hgg _
    obtain ⟨Ag,cg,rfl,hng,hcg,hrowg⟩:=own_form howng
    have Hbfg:Hid (Below we.heap.size we wg):=(Hbf.out.trans ((qbr we.heap.size wf).alloc hsf _)).trans (below_of_grown hgg (by simp;omega) (fun k e=>(Hownf.out.lt k e).1))
    have Hbg:Hid (Below wc.heap.size wc wg):=Hbe.out.trans (Hbfg.out.mono hse')
    have HWg:Hid (Whole wg gd 3 ((Qm.vset v' nn).map (.int .i64)++spd)):=HWe.out.below Hbfg.out hgde
    have hsg:wc.heap.size<=wg.heap.size:=Hbg.out.size
    have hseg:we.heap.size<=wg.heap.size:=Hbfg.out.size
    have HCg:Hid (SState base b N A n cap cs S0 stc Pc hsc pfc wg.heap.size wg):=(HC.out.below Hbg.out).up (qlt HC.out.hi_ hsg) (qr _)
    have Hrowg:Hid (RInts wg (fun k=>we.heap.size<=k/\k<wg.heap.size) Ag (n'+1) (tk++[nn])):=by
     have:=hrowg
     show Row _ _ _ _ _
     rw [List.map_append];exact this
    clear howng hgg hrowg hgde hsf
    go_wp2_with fail
    refine (Hih.out stc pfc hsc Pc (tk++[nn]) (Qm.vset v' nn) Ag (some ⟨gd,0,none⟩) (n'+1) cg cd wg (fun k=>we.heap.size<=k/\k<wg.heap.size) (fun k=>k=gd) HCg.out (by omega) (by omega) Hrowg.out
     (fun k hk=>⟨hk.2,by omega,fun e=>by have:=HC.out.own_hi k e;have:=HC.out.hi_;omega⟩) (by unfold maxLen;omega) (Qm.lits_snoc Hl.out Hnn.out)
     (wholeS_ints HWg.out rfl (Qm.vset_fine Hf'.out nn).1) (fun k hk=>⟨by rw [hk];exact HWg.out.lt,by omega⟩) (Qm.vset_fine Hf'.out nn) Hzn.out).mono ?_
    intro e wh hpost
    generalize hres:Qm.search cs g stc pfc (tk++[nn]) (Qm.vset v' nn)=r at hpost
    have Hres:=qh hres;clear hres
    have HS0:Hid (∀ (r1:Qm.Res),Qm.search cs g s1 pf (tk++[nn]) (Qm.vset v' nn)=r1->Qm.search cs (g+1) (s1+1) pf tk v=match r1 with
      | .out=>.out
      | .found m=>.found m
      | .no st1 pf1=>match Qm.search cs g st1 pf1 (tk++[(i:Int)+1]) (Qm.vset v' ((i:Int)+1)) with
       | .out=>.out
       | .found m=>.found m
       | .no st2 pf2=>.no st2 (pf2++[tk.map Neg.neg])):=by
     intro r1 h1
     conv=>lhs;unfold Qm.search
     rw [if_neg HR.out,Hsr.out]
     simp only [Hix2.out,Nat.add_sub_cancel,Hnne.out,h1]
     cases r1 <;> rfl
    have Hres':Hid (Qm.search cs g s1 pf (tk++[nn]) (Qm.vset v' nn)=r):=by rw [<- Hec.out,<- Hef.out];exact Hres.out
    cases r with
    | out =>
     have HR3:=qh (HS0.out _ Hres'.out)
     obtain ⟨hfar,rfl,sto,Po,hblk⟩:=hpost
     have hq5:=hblk.cell 5
     have hq4:=hblk.cell 4
     simp only [qgz,qgs] at hq5 hq4
     have Hfar9:=qh (Hfarc.out.trans ((Far.of_below (Touched b Pc) Hbg.out).trans hfar (fun i _ h=>h)) (fun i hi h=>Htouch.out i hi h))
     have Hblk9:=qh hblk
     have hneq:=fun (w:World) (n' c':Nat)=>run_neq_slice_nil_any (P:=Tryz.prog) w 40 4 none 0 0 n' c' Tryz.underlying40
     clear hfar hblk
     go_wp2_with fail
     go_ret
     rw [HR3.out]
     exact ⟨Hfar9.out,rfl,sto,Po,Hblk9.out⟩
    | found m =>
     have HR3:=qh (HS0.out _ Hres'.out)
     obtain ⟨hfar,rfl,sto,Po,M,cM,hblk,hbools,h1,h2,h3⟩:=hpost
     obtain ⟨aM,rfl⟩:=Option.isSome_iff_exists.1 (h3 (by omega))
     have hq4:=hblk.cell 4
     simp only [qgz,qgs] at hq4
     have Hfar9:=qh (Hfarc.out.trans ((Far.of_below (Touched b Pc) Hbg.out).trans hfar (fun i _ h=>h)) (fun i hi h=>Htouch.out i hi h))
     have Hblk9:=qh hblk;have Hbools:=qh hbools;have H12:Hid (_/\_):=⟨h1,h2⟩
     have hneq:=fun (w:World) (n' c':Nat)=>run_neq_slice_nil_any (P:=Tryz.prog) w 40 4 (some aM) m.length cM n' c' Tryz.underlying40
     clear hfar hblk hbools h1 h2 h3
     go_wp2_with fail
     go_ret
     rw [HR3.out]
     exact ⟨Hfar9.out,rfl,sto,Po,some aM,cM,Hblk9.out,Hbools.out,H12.out.1,H12.out.2,fun _=>rfl⟩
    | no st1 pf1 =>
     have HS1:=qh (HS0.out _ Hres'.out)
     obtain ⟨hfar,rfl,P1,hs1,hst1,hP1⟩:=hpost
     have hlen:=Qm.search_len _ _ _ _ _ Hres.out
     have hst1':st1<=40000:=by omega
     have hpf1':pf1.length+st1<=100000:=by omega
     have HC2:=qh hst1
     have HV2:Hid (Whole wh g1 3 (v'.map (.int .i64)++sp)):=by
      have h0:=HVc.out.below Hbg.out hgc
      exact hfar.whole h0 (fun e=>by
       rcases e with e | e
       ·omega
       exact HCg.out.pne h0 (by decide) e.symm)
     have HT2:Hid (RInts wh S A' n' tk):=hfar.ints (HTc.out.below Hbg.out (fun k hk=>(HSc.out k hk).1)) (fun k hk=>⟨by have:=(HSc.out k hk).1;omega,fun e=>by
       rcases e with e | e
       ·exact (HSc.out k hk).2.1 e
       exact (HSc.out k hk).2.2 e.symm⟩)
     have HSn:Hid (∀ k,S k->k<wh.heap.size/\k≠b/\P1.ownBlock≠some k):=fun k hk=>⟨by have:=(HSc.out k hk).1;have:=hfar.size;omega,(HSc.out k hk).2.1,fun e=>by
       rcases hP1 with h | ⟨gg,h,hgg⟩
       ·rw [h] at e;exact (HSc.out k hk).2.2 e
       rw [h] at e;injection e with e;have:=(HSc.out k hk).1;omega⟩
     have Hfarc2:=qh (Hfarc.out.trans ((Far.of_below (Touched b Pc) Hbg.out).trans hfar (fun i _ h=>h)) (fun i hi h=>Htouch.out i hi h))
     have Htouch2:Hid (∀ i,i<w.heap.size->Touched b P1 i->Touched b P i):=fun i hi e=>by
      rcases e with e | e
      ·exact .inl e
      rcases hP1 with h | ⟨gg,h,hgg⟩
      ·exact Htouch.out i hi (.inr (e.trans h))
      rw [h] at e;injection e with e;omega
     have hgc2:g1<wh.heap.size:=HV2.out.lt
     have hswc2:w.heap.size<=wh.heap.size:=Hfarc2.out.size
     have hq5:=hst1.blk.cell 5
     simp only [qgz,qgs] at hq5
     have HP1:Hid (P1.ownBlock=P.ownBlock\/∃ gg,P1.ownBlock=some gg/\w.heap.size<=gg):=by
      rcases hP1 with h | ⟨gg,h,hgg⟩
      ·exact .inl (by rw [h,Hep.out])
      exact .inr ⟨gg,h,by omega⟩
     clear hfar hst1 hP1 hlen
     go_wp2_with fail
     rw [rounds_succ]
     go_wp2_with fail
     clear hq5
     obtain ⟨nm,hnm⟩:∃ x,x=nn:=⟨_,rfl⟩
     have Hnm:=qh hnm;clear hnm
     obtain ⟨nn,hnn⟩:∃ x,x=(i:Int)+1:=⟨_,rfl⟩
     have hnnb:1<=nn/\nn<=400:=by omega
     rw [<- hnn]
     have Hnn2:Hid (Qm.IsLit N nn):=by rw [hnn];exact Hnp.out
     have Hzn2:Hid (Qm.zeros (Qm.vset v' nn)<g):=by rw [hnn];exact Hzp.out
     have HS1':Hid (∀ (r2:Qm.Res),Qm.search cs g st1 pf1 (tk++[nn]) (Qm.vset v' nn)=r2->Qm.search cs (g+1) (s1+1) pf tk v=match r2 with
       | .out=>.out
       | .found m=>.found m
       | .no st2 pf2=>.no st2 (pf2++[tk.map Neg.neg])):=by
      intro r2 h2
      rw [HS1.out,<- hnn,h2]
     have Hnn3:=qh hnn
     clear hnn
     clear HC HVc HTc HSc Hfarc Htouch Hnn Hzn HCg HWg HWe HWd Hbg Hbfg Hbe Hbd Hbf Hownf Hrowg
     obtain ⟨stc,hstc⟩:∃ x,x=st1:=⟨_,rfl⟩
     obtain ⟨Pc,hPc⟩:∃ x,x=P1:=⟨_,rfl⟩
     obtain ⟨hsc,hhsc⟩:∃ x,x=hs1:=⟨_,rfl⟩
     obtain ⟨pfc,hpfc⟩:∃ x,x=pf1:=⟨_,rfl⟩
     obtain ⟨wc,hwc⟩:∃ x,x=wh:=⟨_,rfl⟩
     rw [<- hwc]
     have HC:Hid (SState base b N A n cap cs S0 stc Pc hsc pfc wc.heap.size wc):=by rw [hstc,hPc,hhsc,hpfc,hwc];exact HC2.out
     have HVc:Hid (Whole wc g1 3 (v'.map (.int .i64)++sp)):=by rw [hwc];exact HV2.out
     have HTc:Hid (RInts wc S A' n' tk):=by rw [hwc];exact HT2.out
     have HSc:Hid (∀ k,S k->k<wc.heap.size/\k≠b/\Pc.ownBlock≠some k):=by rw [hPc,hwc];exact HSn.out
     have Hfarc:Hid (Far (Touched b P) w wc):=by rw [hwc];exact Hfarc2.out
     have Htouch:Hid (∀ i,i<w.heap.size->Touched b Pc i->Touched b P i):=by rw [hPc];exact Htouch2.out
     have Hnn:=qh Hnn2.out;have Hzn:=qh Hzn2.out
     have hgc:g1<wc.heap.size:=by rw [hwc];exact hgc2
     have hswc:w.heap.size<=wc.heap.size:=by rw [hwc];exact hswc2
     have hstc':stc<=40000:=by omega
     have hpfc':pfc.length+stc<=100000:=by rw [hstc,hpfc];exact hpf1'
     have Hec2:=qh hstc;have Hef2:=qh hpfc;have Hep2:=qh hPc
     clear hstc hPc hhsc hpfc hwc HC2 HV2 HT2 HSn Hfarc2 Htouch2 Hnn2 Hzn2 hgc2 hswc2
     go_wp2_with fail
     refine (cloneVals_any (some ⟨g1,0,none⟩) (N+1) c1 (v'.map (.int .i64)) wc (fun k=>k=g1) (wholeS_row HVc.out rfl (by rw [List.length_map];exact Hvl.out)) (int_one v') (fun k hk=>by rw [hk];exact hgc) (by omega)).mono ?_
     rintro e wd ⟨Ad,cd,rfl,hnd,hcd,hownd,hbd⟩
     obtain ⟨gd,cd',spd,ed,hgd,_,_,hWd⟩:=own_whole hownd (by omega)
     injection ed with ed1 ed2 ed3
     subst ed1 ed3
     have hgd':gd<wd.heap.size:=hWd.lt
     have hsd:wc.heap.size<=wd.heap.size:=hbd.size
     have HWd:=qh hWd;have Hbd:=qh hbd
     clear hownd hbd hWd ed2
     go_wp2_with fail
     refine (setS_any spd gd 3 (N+1) cd v' nn wd Hvl.out HWd.out (by omega) (by have:=Hnn.out.2;omega)).mono ?_
     rintro e we ⟨rfl,hWe,hge,hse⟩
     have Hbe:Hid (Below wc.heap.size wc we):=Hbd.out.trans (below_of_grown hge hsd (fun k e=>by injection e with e;omega))
     have HWe:=qh hWe
     have hse':wc.heap.size<=we.heap.size:=Hbe.out.size
     have hgde:gd<we.heap.size:=hWe.lt
     clear hge hse hWe hgd'
     go_wp2_with fail
     refine (cloneInts_any A' n' cap' (tk.map (.int .i64)) we S (HTc.out.below Hbe.out (fun k hk=>(HSc.out k hk).1)) (int_one tk) (fun k hk=>by have:=(HSc.out k hk).1;omega) (by omega)).mono ?_
     rintro e wf ⟨Af,cf,rfl,hnf,hcf,hownf,hbf⟩
     have hsf:we.heap.size<=wf.heap.size:=hbf.size
     have Hownf:=qh hownf;have Hbf:=qh hbf
     clear hownf hbf
     go_wp2_with (at_builtin;refine wpList_append_own _ rfl _ _ 27 rfl we.heap.size 3 j0 (.int .i64 0) 1 8 Tryz.underlying27 Hj.out Hj0.out Hj1.out Hj2.out rfl (by decide) _ _ _ rfl (Hownf.out.alloc _) ⟨wf.heap.size,0,none⟩ 1 1 [.int .i64 nn] rfl rfl (cell_one_new _ _ _) (by simp [Value.oneCell']) (by unfold maxLen;omega) (by omega) (by simp;omega) ?_)
     intro vg wg howng hgg _
     obtain ⟨Ag,cg,rfl,hng,hcg,hrowg⟩:=own_form howng
     have Hbfg:Hid (Below we.heap.size we wg):=(Hbf.out.trans ((qbr we.heap.size wf).alloc hsf _)).trans (below_of_grown hgg (by simp;omega) (fun k e=>(Hownf.out.lt k e).1))
     have Hbg:Hid (Below wc.heap.size wc wg):=Hbe.out.trans (Hbfg.out.mono hse')
     have HWg:Hid (Whole wg gd 3 ((Qm.vset v' nn).map (.int .i64)++spd)):=HWe.out.below Hbfg.out hgde
     have hsg:wc.heap.size<=wg.heap.size:=Hbg.out.size
     have hseg:we.heap.size<=wg.heap.size:=Hbfg.out.size
     have HCg:Hid (SState base b N A n cap cs S0 stc Pc hsc pfc wg.heap.size wg):=(HC.out.below Hbg.out).up (qlt HC.out.hi_ hsg) (qr _)
     have Hrowg:Hid (RInts wg (fun k=>we.heap.size<=k/\k<wg.heap.size) Ag (n'+1) (tk++[nn])):=by
      have:=hrowg
      show Row _ _ _ _ _
      rw [List.map_append];exact this
     clear howng hgg hrowg hgde hsf
     go_wp2_with fail
     refine (Hih.out stc pfc hsc Pc (tk++[nn]) (Qm.vset v' nn) Ag (some ⟨gd,0,none⟩) (n'+1) cg cd wg (fun k=>we.heap.size<=k/\k<wg.heap.size) (fun k=>k=gd) HCg.out (by omega) (by omega) Hrowg.out
      (fun k hk=>⟨hk.2,by omega,fun e=>by have:=HC.out.own_hi k e;have:=HC.out.hi_;omega⟩) (by unfold maxLen;omega) (Qm.lits_snoc Hl.out Hnn.out)
      (wholeS_ints HWg.out rfl (Qm.vset_fine Hf'.out nn).1) (fun k hk=>⟨by rw [hk];exact HWg.out.lt,by omega⟩) (Qm.vset_fine Hf'.out nn) Hzn.out).mono ?_
     intro e wh hpost
     generalize hres2:Qm.search cs g stc pfc (tk++[nn]) (Qm.vset v' nn)=r at hpost
     have Hres2:=qh hres2;clear hres2
     have Hres2':Hid (Qm.search cs g st1 pf1 (tk++[nn]) (Qm.vset v' nn)=r):=by rw [<- Hec2.out,<- Hef2.out];exact Hres2.out
     cases r with
     | out =>
      have HR3:=qh (HS1'.out _ Hres2'.out)
      obtain ⟨hfar,rfl,sto,Po,hblk⟩:=hpost
      have hq5:=hblk.cell 5
      have hq4:=hblk.cell 4
      simp only [qgz,qgs] at hq5 hq4
      have Hfar9:=qh (Hfarc.out.trans ((Far.of_below (Touched b Pc) Hbg.out).trans hfar (fun i _ h=>h)) (fun i hi h=>Htouch.out i hi h))
      have Hblk9:=qh hblk
      have hneq:=fun (w:World) (n' c':Nat)=>run_neq_slice_nil_any (P:=Tryz.prog) w 40 4 none 0 0 n' c' Tryz.underlying40
      clear hfar hblk
      go_wp2_with fail
      go_ret
      rw [HR3.out]
      exact ⟨Hfar9.out,rfl,sto,Po,Hblk9.out⟩
     | found m =>
      have HR3:=qh (HS1'.out _ Hres2'.out)
      obtain ⟨hfar,rfl,sto,Po,M,cM,hblk,hbools,h1,h2,h3⟩:=hpost
      obtain ⟨aM,rfl⟩:=Option.isSome_iff_exists.1 (h3 (by omega))
      have hq4:=hblk.cell 4
      simp only [qgz,qgs] at hq4
      have Hfar9:=qh (Hfarc.out.trans ((Far.of_below (Touched b Pc) Hbg.out).trans hfar (fun i _ h=>h)) (fun i hi h=>Htouch.out i hi h))
      have Hblk9:=qh hblk;have Hbools:=qh hbools;have H12:Hid (_/\_):=⟨h1,h2⟩
      have hneq:=fun (w:World) (n' c':Nat)=>run_neq_slice_nil_any (P:=Tryz.prog) w 40 4 (some aM) m.length cM n' c' Tryz.underlying40
      clear hfar hblk hbools h1 h2 h3
      go_wp2_with fail
      go_ret
      rw [HR3.out]
      exact ⟨Hfar9.out,rfl,sto,Po,some aM,cM,Hblk9.out,Hbools.out,H12.out.1,H12.out.2,fun _=>rfl⟩
     | no st2 pf2 =>
      have HR3:=qh (HS1'.out _ Hres2'.out)
      obtain ⟨hfar,rfl,P2,hs2,hst2,hP2⟩:=hpost
      have hlen:=Qm.search_len _ _ _ _ _ Hres2.out
      have Hfar9:=qh (Hfarc.out.trans ((Far.of_below (Touched b Pc) Hbg.out).trans hfar (fun i _ h=>h)) (fun i hi h=>Htouch.out i hi h))
      have HT3:Hid (RInts wh S A' n' tk):=hfar.ints (HTc.out.below Hbg.out (fun k hk=>(HSc.out k hk).1)) (fun k hk=>⟨by have:=(HSc.out k hk).1;omega,fun e=>by
       rcases e with e | e
       ·exact (HSc.out k hk).2.1 e
       exact (HSc.out k hk).2.2 e.symm⟩)
      have hS3:∀ k,S k->k<wh.heap.size:=fun k hk=>by have:=(HSc.out k hk).1;have:=hfar.size;omega
      have hP3:P2.ownBlock=P.ownBlock\/∃ gg,P2.ownBlock=some gg/\w.heap.size<=gg:=by
       rcases hP2 with h | ⟨gg,h,hgg⟩
       ·rw [h,Hep2.out];exact HP1.out
       exact .inr ⟨gg,h,by omega⟩
      have Hst2:=qh hst2;have HS3:=qh hS3;have HP3:=qh hP3
      have hq5:=hst2.blk.cell 5
      simp only [qgz,qgs] at hq5
      clear hfar hst2 hP2 hS3 hP3
      go_wp2_with fail
      rw [rounds_succ]
      clear hq5
      go_wp2_with fail
      refine (no_state base b N st2 A A' n cap n' cap' wh.heap.size P2 cs S0 hs2 pf2 tk wh S HS3.out Hst2.out HT3.out (by omega) hN Hl.out (by omega) hbb).mono ?_
      intro e w9 h9
      have h10:=h9.step Hfar9.out HP3.out
      obtain rfl:=h9.2.1
      have H10:=qh h10;clear h9 h10
      go_wp2_with fail
      go_ret
      rw [HR3.out]
      exact H10.out
end
section
open Go.RowKit
theorem bool_one (xs:List Bool):∀ u∈xs.map Value.bool,u.oneCell'=true:=by
 intro u hu;obtain ⟨x,_,rfl⟩:=List.mem_map.1 hu;rfl
def resOf (N:Nat) (cs:List (List Int)) (st:Nat):Qm.Res:=Qm.search cs (N+1) st [] [] (Qm.zeroVals N)
def solveErr (vars:Int) (cs:List (List Int)) (steps:Int):Int:=
 if ckFormula vars cs≠0 then ckFormula vars cs else if steps<1\/40000<steps then 3 else match resOf vars.toNat cs steps.toNat with | .out=>8 | _=>0
def solveM (vars:Int) (cs:List (List Int)) (steps:Int):List Bool:=if ckFormula vars cs≠0\/steps<1\/40000<steps then [] else match resOf vars.toNat cs steps.toNat with | .found m=>m | _=>[]
def solveP (vars:Int) (cs:List (List Int)) (steps:Int):List (List Int):=if ckFormula vars cs≠0\/steps<1\/40000<steps then [] else match resOf vars.toNat cs steps.toNat with | .no _ pf=>pf | _=>[]
def SolvePost (vars:Int) (cs:List (List Int)) (steps:Int) (w:World) (e:Ending) (w':World):Prop:=
 ∃ (AM:Option Addr) (nM cM:Nat) (AP:Option Addr) (nP cP:Nat),e=.returned (.tuple #[.agg #[.slice AM nM cM,.slice AP nP cP],.int .i64 (solveErr vars cs steps)]) /\
  RBools w' (fun k=>w.heap.size<=k/\k<w'.heap.size) AM nM (solveM vars cs steps)/\(nM<=cM/\cM<=maxLen)/\RClauses w' (fun k=>w.heap.size<=k/\k<w'.heap.size) AP nP (solveP vars cs steps)/\(nP<=cP/\cP<=maxLen)/\Below w.heap.size w w'
theorem solve_any (A:Option Addr) (n cap:Nat) (vars steps:Int) (cs:List (List Int)) (w:World) (S:Nat->Prop) (hS:∀ k,S k->k<w.heap.size)
  (hr:RClauses w S A n cs) (hn:n<=cap/\cap<=maxLen) (hv : -9223372036854775808<=vars) (hv':vars<=9223372036854775807) (hs : -9223372036854775808<=steps) (hs':steps<=9223372036854775807) :
  Calls Tryz.prog 26 #[.agg #[.int .i64 vars,.slice A n cap],.int .i64 steps] w (SolvePost vars cs steps w):=by
 obtain ⟨k0,hkk,hk0,hk1,hk2⟩:=info_parts bool_info
 have Hk':=qh hkk;have Hk0:=qh hk0;have Hk1:=qh hk1;have Hk2:=qh hk2
 have Hr:=qh hr;have Hn:=qh hn
 clear hr hn hkk hk0 hk1 hk2
 go_enter Tryz.func26,Tryz.ntmps26
 go_wp2_with fail
 have hb0:Below w.heap.size w ((w.alloc (.cells #[.int .i64 vars,.slice A n cap] 33)).alloc (.cells #[.slice none 0 0,.slice none 0 0] 59)):=((qbr _ _).alloc (qr _) _).alloc (by simp) _
 refine (checkFormula_any A n cap cs vars _ S (Hr.out.below hb0 hS) (fun k hk=>by have:=hS k hk;simp;omega) (qlt Hn.out.1 Hn.out.2) hv hv').mono ?_
 rintro e w1 ⟨rfl,hb1⟩
 have Hb1:=qh (hb0.trans (hb1.mono hb0.size))
 have hF1:Whole w1 w.heap.size 33 [.int .i64 vars,.slice A n cap]:=Whole.below ((Whole.new w _ _ _ rfl).alloc _) hb1 (by simp;omega)
 have hA1:Whole w1 (w.heap.size+1) 59 [.slice none 0 0,.slice none 0 0]:=Whole.below (Whole.new _ _ _ [.slice none 0 0,.slice none 0 0] (by simp)) hb1 (by simp)
 have HF1:=qh hF1;have HA1:=qh hA1
 have hf0:=hF1.cell 0;have hf1:=hF1.cell 1
 have ha0:=hA1.cell 0;have ha1:=hA1.cell 1
 have haf0:=hA1.free 0;have haf1:=hA1.free 1
 simp only [qgz,qgs] at hf0 hf1 ha0 ha1
 clear hb0 hb1 hF1 hA1
 generalize hck:ckFormula vars cs=E
 have Hck:=qh hck;clear hck
 by_cases hE:E=0
 ·subst hE
  by_cases hst:steps<1\/40000<steps
  ·have H1:Hid (solveErr vars cs steps=3):=by show _=_;unfold solveErr;rw [if_neg (by rw [Hck.out];simp),if_pos hst]
   have H2:Hid (solveM vars cs steps=[]):=by show _=_;unfold solveM;rw [if_pos (.inr hst)]
   have H3:Hid (solveP vars cs steps=[]):=by show _=_;unfold solveP;rw [if_pos (.inr hst)]
   have hc:decide (steps<1)=true\/(decide (steps<1)=false/\decide (40000<steps)=true):=by
    by_cases h:steps<1
    ·exact .inl (by simpa using h)
    exact .inr ⟨by simpa using h,by simp;omega⟩
   clear hst
   rcases hc with h | ⟨h,h'⟩
   all_goals
    go_wp2_with fail
    have hW:=(HA1.out.set_ 0 (.slice none 0 0)).set_ 1 (.slice none 0 0)
    have hbz:=(Hb1.out.setCell (p:=⟨w.heap.size+1,0,none⟩) (by simp) (.slice none 0 0)).setCell (p:=⟨w.heap.size+1,1,none⟩) (by simp) (.slice none 0 0)
    simp only [List.set_cons_succ,List.set_cons_zero] at hW
    generalize hwz:(World.setCell (World.setCell _ _ _) _ _)=wz at hW hbz ⊢
    have z0:=hW.cell 0;have z1:=hW.cell 1
    simp only [qgz,qgs] at z0 z1
    refine bodyPost_ret (v:=.tuple #[.agg #[_,_],.int .i64 _]) (by simp [results,Tryz.results26,go_sem,z0,z1];exact ⟨⟨rfl,rfl⟩,rfl⟩) rfl ?_
    exact ⟨none,0,0,none,0,0,by rw [H1.out],by rw [H2.out];exact Row.nil_,⟨qr _,Nat.zero_le _⟩,by rw [H3.out];exact RClauses.nil_,⟨qr _,Nat.zero_le _⟩,hbz⟩
  obtain ⟨N,rfl,hN,hcl,hcs⟩:=ckFormula_ok Hck.out
  obtain ⟨st,rfl⟩:∃ st:Nat,steps=st:=⟨steps.toNat,by omega⟩
  have hst0:1<=st/\st<=40000:=by omega
  have hd1:decide ((st:Int)<1)=false:=by simp;omega
  have hd2:decide ((40000:Int)<(st:Int))=false:=by simp;omega
  have H1:Hid (solveErr (N:Int) cs (st:Int)=match resOf N cs st with | .out=>8 | _=>0):=by show _=_;unfold solveErr;rw [if_neg (by rw [Hck.out];simp),if_neg hst];simp
  have H2:Hid (solveM (N:Int) cs (st:Int)=match resOf N cs st with | .found m=>m | _=>[]):=by show _=_;unfold solveM;rw [if_neg (by rw [Hck.out];simpa using hst)];simp
  have H3:Hid (solveP (N:Int) cs (st:Int)=match resOf N cs st with | .no _ pf=>pf | _=>[]):=by show _=_;unfold solveP;rw [if_neg (by rw [Hck.out];simpa using hst)];simp
  have Hcs:Hid (∀ c∈cs,Qm.IsCl N c):=fun c hc=>(hcs c hc).1
  have hmk:=fun w=>run_make_zeros N hN w
  have hww0:w.heap.size<w1.heap.size:=HF1.out.lt
  clear hst hcs
  go_wp2_with fail
  have hbs:Below w1.heap.size w1 ((w1.alloc (.cells #[.int .i64 (N:Int),.slice A n cap,.int .i64 (st:Int),.slice none 0 0,.slice none 0 0,.bool false] 125)).alloc (zeroObj N)):=((qbr _ _).alloc (qr _) _).alloc (by simp) _
  have hS1:∀ k,S k->k<w1.heap.size:=fun k hk=>by have:=hS k hk;have:=Hb1.out.size;omega
  have hblk:SBlk ((w1.alloc (.cells #[.int .i64 (N:Int),.slice A n cap,.int .i64 (st:Int),.slice none 0 0,.slice none 0 0,.bool false] 125)).alloc (zeroObj N)) w1.heap.size (N:Int) A n cap (st:Int) (.slice none 0 0) (.slice none 0 0) false:=(Whole.new w1 _ 125 [.int .i64 (N:Int),.slice A n cap,.int .i64 (st:Int),.slice none 0 0,.slice none 0 0,.bool false] rfl).alloc _
  have hss:SState (w1.heap.size+1) w1.heap.size N A n cap cs S st (.slice none 0 0) [] [] ((w1.alloc (.cells #[.int .i64 (N:Int),.slice A n cap,.int .i64 (st:Int),.slice none 0 0,.slice none 0 0,.bool false] 125)).alloc (zeroObj N)).heap.size ((w1.alloc (.cells #[.int .i64 (N:Int),.slice A n cap,.int .i64 (st:Int),.slice none 0 0,.slice none 0 0,.bool false] 125)).alloc (zeroObj N)):=
   ⟨hblk,World.ownsRow_nil _ _ _ _,fun g h=>by simp [Value.ownBlock] at h,Heads.nil_,(Hr.out.below Hb1.out hS).below hbs hS1,qr _,by simp,fun k hk=>by have:=hS1 k hk;omega⟩
  have hzw:Whole ((w1.alloc (.cells #[.int .i64 (N:Int),.slice A n cap,.int .i64 (st:Int),.slice none 0 0,.slice none 0 0,.bool false] 125)).alloc (zeroObj N)) (w1.heap.size+1) 3 ((Qm.zeroVals N).map (.int .i64)):=whole_zeros _ N _ (by simp)
  refine (from_any (w1.heap.size+1) w1.heap.size N A n cap cs S hN Hn.out Hcs.out (by omega) (N+1) st [] [] (.slice none 0 0) [] (Qm.zeroVals N) none (some ⟨w1.heap.size+1,0,none⟩) 0 0 (N+1) _ (fun _=>False) (fun k=>k=w1.heap.size+1) hss (by omega) (by simp;omega) RInts.nil_ (fun _ h=>absurd h id) (Nat.zero_le _) (fun n hn=>by simp at hn)
   (Whole.ints (S:=fun k=>k=w1.heap.size+1) hzw rfl (Qm.zeroVals_fine N).1) (fun k hk=>by simp;omega) (Qm.zeroVals_fine N) (by rw [Qm.zeros_zeroVals];omega)).mono ?_
  intro e w2 hpost
  clear hmk hd1 hd2
  have hres0:Qm.search cs (N+1) st [] [] (Qm.zeroVals N)=resOf N cs st:=rfl
  rw [hres0] at hpost
  clear hres0 hss hzw hblk
  have hfar:=hpost.1
  have hb12:Below w1.heap.size w1 w2:=hbs.trans (hfar.below (B:=w1.heap.size) (by simp;omega) (fun i h=>by
   rcases h with h | h
   ·omega
   simp [Value.ownBlock] at h))
  have HA2:=qh (HA1.out.below hb12 HA1.out.lt)
  have Hb2:=qh (Hb1.out.trans (hb12.mono Hb1.out.size))
  have hw12:w1.heap.size+1<w2.heap.size:=by have:=hfar.size;simp at this;omega
  have hww1:w.heap.size+1<w1.heap.size:=HA1.out.lt
  have hw12':w1.heap.size<w2.heap.size:=by omega
  clear hf0 hf1 ha0 ha1 haf0 haf1 hfar hb12 hbs
  have ha0:=HA2.out.cell 0;have ha1:=HA2.out.cell 1
  have haf0:=HA2.out.free 0;have haf1:=HA2.out.free 1
  simp only [qgz,qgs] at ha0 ha1
  generalize hr0:resOf N cs st=r at *
  have Hr0:=qh hr0;clear hr0
  cases r with
  | out =>
   obtain ⟨_,rfl,sto,Po,hblk⟩:=hpost
   have hq5:=hblk.cell 5
   simp only [qgz,qgs] at hq5
   clear hblk
   go_wp2_with fail
   have hW:=(HA2.out.set_ 0 (.slice none 0 0)).set_ 1 (.slice none 0 0)
   have hbz:=(Hb2.out.setCell (p:=⟨w.heap.size+1,0,none⟩) (by simp) (.slice none 0 0)).setCell (p:=⟨w.heap.size+1,1,none⟩) (by simp) (.slice none 0 0)
   simp only [List.set_cons_succ,List.set_cons_zero] at hW
   generalize hwz:(World.setCell (World.setCell _ _ _) _ _)=wz at hW hbz ⊢
   have z0:=hW.cell 0;have z1:=hW.cell 1
   simp only [qgz,qgs] at z0 z1
   refine bodyPost_ret (v:=.tuple #[.agg #[_,_],.int .i64 _]) (by simp [results,Tryz.results26,go_sem,z0,z1];exact ⟨⟨rfl,rfl⟩,rfl⟩) rfl ?_
   exact ⟨none,0,0,none,0,0,by rw [H1.out],by rw [H2.out];exact Row.nil_,⟨qr _,Nat.zero_le _⟩,by rw [H3.out];exact RClauses.nil_,⟨qr _,Nat.zero_le _⟩,hbz⟩
  | found m =>
   obtain ⟨_,rfl,sto,Po,M,cM,hblk,hbools,hcM,hcM',_⟩:=hpost
   have hq5:=hblk.cell 5
   have hq4:=hblk.cell 4
   simp only [qgz,qgs] at hq5 hq4
   have Hbools:=qh hbools
   have hml:m.length<=400:=by
    have:=Qm.search_found_len Hcs.out _ _ _ _ _ (Qm.zeroVals_fine N) Hr0.out
    omega
   clear hblk hbools
   go_wp2_with (at_builtin;refine wpList_append_row rfl _ _ 40 rfl w2.heap.size 4 k0 (.bool false) 1 Tryz.underlying40 Hk'.out Hk0.out Hk1.out Hk2.out rfl _ 0 [] rfl (World.ownsRow_made w2 #[] 0 (qr _) (Nat.zero_le _) rfl) M m.length cM (m.map .bool) rfl (fun k=>k<w2.heap.size) (Row.below (Row.more Hbools.out (fun k hk=>hk.2.1)) ((qbr w2.heap.size w2).alloc (qr _) _) (fun k hk=>hk)) (bool_one m) (by unfold maxLen;omega) (by omega) (by simp) ?_)
   intro A5 c5 w5 hn5 hc5 hown5 hg5
   have hb25:Below w2.heap.size w2 w5:=((qbr _ _).alloc (qr _) _).trans (below_of_grown hg5 (by simp) (fun k e=>by simp [Value.ownBlock] at e;omega))
   have hA5:=HA2.out.below hb25 HA2.out.lt
   have ha0:=hA5.cell 0;have ha1:=hA5.cell 1
   have haf0:=hA5.free 0;have haf1:=hA5.free 1
   simp only [qgz,qgs] at ha0 ha1
   obtain ⟨_,_,e5,_,_,hrow5⟩:=own_form hown5
   injection e5 with e51 e52 e53
   subst e51
   have hrow5':RBools w5 (fun k=>w2.heap.size<=k/\k<w5.heap.size) A5 m.length m:=by
    have:=hrow5
    first | exact this | (simp only [Nat.zero_add,List.nil_append] at this;exact this)
   have Hrow5:=qh hrow5'
   try simp only [Nat.zero_add] at hn5
   have Hn5:Hid (m.length<=c5/\c5<=maxLen):=⟨hn5,hc5⟩
   have Hb5:=qh (Hb2.out.trans (hb25.mono Hb2.out.size))
   have Hb25:=qh hb25
   have hw25:w2.heap.size<=w5.heap.size:=hb25.size
   clear hq4 hq5 hown5 hg5 hrow5 hrow5' hn5 hc5 hb25 e52 e53
   have HA5:=qh hA5;clear hA5
   go_wp2_with fail
   have hW:=(HA5.out.set_ 0 (.slice A5 m.length c5)).set_ 1 (.slice none 0 0)
   have hbz:=(Hb5.out.setCell (p:=⟨w.heap.size+1,0,none⟩) (by simp) (.slice A5 m.length c5)).setCell (p:=⟨w.heap.size+1,1,none⟩) (by simp) (.slice none 0 0)
   have hfz:Far (fun i=>i=w.heap.size+1) w5 ((w5.setCell ⟨w.heap.size+1,0,none⟩ (.slice A5 m.length c5)).setCell ⟨w.heap.size+1,1,none⟩ (.slice none 0 0)):=(Far.set_ (D:=fun i=>i=w.heap.size+1) rfl 0 _).trans (Far.set_ (D:=fun i=>i=w.heap.size+1) rfl 1 _) (fun i _ h=>h)
   have hrz:=(hfz.bools Hrow5.out (fun k hk=>⟨hk.2,by omega⟩)).more (S':=fun k=>w.heap.size<=k/\k<w5.heap.size) (fun k hk=>⟨by omega,hk.2⟩)
   have hszz:=hfz.size
   clear hfz
   simp only [List.set_cons_succ,List.set_cons_zero] at hW
   generalize hwz:(World.setCell (World.setCell _ _ _) _ _)=wz at hW hbz hrz hszz ⊢
   have z0:=hW.cell 0;have z1:=hW.cell 1
   simp only [qgz,qgs] at z0 z1
   refine bodyPost_ret (v:=.tuple #[.agg #[_,_],.int .i64 _]) (by simp [results,Tryz.results26,go_sem,z0,z1];exact ⟨⟨rfl,rfl⟩,rfl⟩) rfl ?_
   exact ⟨A5,m.length,c5,none,0,0,by rw [H1.out],by rw [H2.out];exact hrz.more (fun k hk=>⟨hk.1,by omega⟩),Hn5.out,by rw [H3.out];exact RClauses.nil_,⟨qr _,Nat.zero_le _⟩,hbz⟩
  | no st' pf =>
   obtain ⟨_,rfl,Po,hso,hst,_⟩:=hpost
   obtain ⟨AP,cP,rfl,hcP,hcP',hrowP⟩:=own_form hst.own
   have hq5:=hst.blk.cell 5
   have hq3:=hst.blk.cell 3
   simp only [qgz,qgs] at hq5 hq3
   have Hst:=qh hst;have HcP:Hid (pf.length<=cP/\cP<=maxLen):=⟨hcP,hcP'⟩;have HrP:=qh hrowP
   clear hst hcP hcP' hrowP
   go_wp2_with fail
   have hW:=(HA2.out.set_ 0 (.slice none 0 0)).set_ 1 (.slice AP pf.length cP)
   have hbz:=(Hb2.out.setCell (p:=⟨w.heap.size+1,0,none⟩) (by simp) (.slice none 0 0)).setCell (p:=⟨w.heap.size+1,1,none⟩) (by simp) (.slice AP pf.length cP)
   have hfz:Far (fun i=>i=w.heap.size+1) w2 ((w2.setCell ⟨w.heap.size+1,0,none⟩ (.slice none 0 0)).setCell ⟨w.heap.size+1,1,none⟩ (.slice AP pf.length cP)):=(Far.set_ (D:=fun i=>i=w.heap.size+1) rfl 0 _).trans (Far.set_ (D:=fun i=>i=w.heap.size+1) rfl 1 _) (fun i _ h=>h)
   have hrz:RClauses w2 (fun k=>w1.heap.size+1<=k/\k<w2.heap.size) AP pf.length pf:=RClauses.of_ (hs:=hso) (HrP.out) (Hst.out.heads.more (fun k hk=>⟨hk.1,hk.2.1⟩))
   have hrz':=(hfz.clauses hrz (fun k hk=>⟨hk.2,by omega⟩)).more (S':=fun k=>w.heap.size<=k/\k<w2.heap.size) (fun k hk=>⟨by omega,hk.2⟩)
   have hszz:=hfz.size
   clear hfz hrz
   simp only [List.set_cons_succ,List.set_cons_zero] at hW
   generalize hwz:(World.setCell (World.setCell _ _ _) _ _)=wz at hW hbz hrz' hszz ⊢
   have z0:=hW.cell 0;have z1:=hW.cell 1
   simp only [qgz,qgs] at z0 z1
   refine bodyPost_ret (v:=.tuple #[.agg #[_,_],.int .i64 _]) (by simp [results,Tryz.results26,go_sem,z0,z1];exact ⟨⟨rfl,rfl⟩,rfl⟩) rfl ?_
   exact ⟨none,0,0,AP,pf.length,cP,by rw [H1.out],by rw [H2.out];exact Row.nil_,⟨qr _,Nat.zero_le _⟩,by rw [H3.out];exact hrz'.more (fun k hk=>⟨hk.1,by omega⟩),HcP.out,hbz⟩
 have hE1:(E != 0)=true:=by simpa using hE
 have H1:Hid (solveErr vars cs steps=E):=by show _=_;unfold solveErr;rw [if_pos (by rw [Hck.out];exact hE),Hck.out]
 have H2:Hid (solveM vars cs steps=[]):=by show _=_;unfold solveM;rw [if_pos (.inl (by rw [Hck.out];exact hE))]
 have H3:Hid (solveP vars cs steps=[]):=by show _=_;unfold solveP;rw [if_pos (.inl (by rw [Hck.out];exact hE))]
 clear hE
 go_wp2_with fail
 have hW:=(HA1.out.set_ 0 (.slice none 0 0)).set_ 1 (.slice none 0 0)
 have hbz:=(Hb1.out.setCell (p:=⟨w.heap.size+1,0,none⟩) (by simp) (.slice none 0 0)).setCell (p:=⟨w.heap.size+1,1,none⟩) (by simp) (.slice none 0 0)
 simp only [List.set_cons_succ,List.set_cons_zero] at hW
 generalize hwz:(World.setCell (World.setCell _ _ _) _ _)=wz at hW hbz ⊢
 have z0:=hW.cell 0;have z1:=hW.cell 1
 simp only [qgz,qgs] at z0 z1
 refine bodyPost_ret (v:=.tuple #[.agg #[_,_],.int .i64 _]) (by simp [results,Tryz.results26,go_sem,z0,z1];exact ⟨⟨rfl,rfl⟩,rfl⟩) rfl ?_
 exact ⟨none,0,0,none,0,0,by rw [H1.out],by rw [H2.out];exact Row.nil_,⟨qr _,Nat.zero_le _⟩,by rw [H3.out];exact RClauses.nil_,⟨qr _,Nat.zero_le _⟩,hbz⟩
end
section
open Go.RowKit
theorem badFrom_neg {N:Nat} {cs pf:List (List Int)}:∀ (g k:Nat),k+g=pf.length->(badFrom N cs pf k g<0↔∀ j,k<=j->j<pf.length->Qm.rupStep N (cs++pf.take j) (pf.getD j [])=true):=by
 intro g
 induction g with
 | zero=>intro k hk;exact ⟨fun _ j h1 h2=>by omega,fun _=>by unfold badFrom;omega⟩
 | succ g ih =>
  intro k hk
  unfold badFrom
  by_cases h:Qm.rupStep N (cs++pf.take k) (pf.getD k [])=true
  ·rw [if_pos h,ih (k+1) (by omega)]
   constructor
   ·intro h2 j h3 h4
    by_cases e:j=k
    ·rw [e];exact h
    exact h2 j (by omega) h4
   intro h2 j h3 h4;exact h2 j (by omega) h4
  rw [if_neg h]
  constructor
  ·intro h2;omega
  intro h2;exact absurd (h2 k (qr _) (by omega)) h
theorem badOf_neg {N:Nat} {cs pf:List (List Int)}:badOf N cs pf<0↔Qm.Steps N cs pf:=by
 unfold badOf
 rw [badFrom_neg pf.length 0 (by omega)]
 exact ⟨fun h k hk=>h k (Nat.zero_le _) hk,fun h k _ hk=>h k hk⟩
theorem refOk_parts {N:Nat} {cs pf:List (List Int)} (hE:badErr (N:Int) cs pf=0):refOk (N:Int) cs pf=true↔Qm.Steps N cs pf/\0<pf.length/\(pf.getD (pf.length - 1) []).length=0:=by
 have hk:badK (N:Int) cs pf=badOf N cs pf:=by unfold badK;rw [if_neg (by rw [hE];simp)];simp
 unfold refOk
 rw [hk,hE]
 simp only [Bool.and_eq_true,decide_eq_true_eq,badOf_neg]
 exact ⟨fun h=>⟨h.1.1.2,h.1.2,h.2⟩,fun h=>⟨⟨⟨trivial,h.1⟩,h.2.1⟩,h.2.2⟩⟩
theorem ckClauses_zero {cs:List (List Int)} {vars:Int} (h:∀ c∈cs,ckClause c vars=0):ckClauses cs vars=0:=
 ckClauses_good (k:=cs.length) (fun c hc=>h c (List.mem_of_mem_take hc)) rfl
end
section
open Go.RowKit
end
section
open Go.RowKit
theorem ckClause_of {N:Nat} {c:List Int} (h:Qm.IsCl N c) (hl:c.length<=60):ckClause c (N:Int)=0:=by
 unfold ckClause
 rw [if_neg (by omega),if_neg]
 intro h2
 obtain ⟨x,hx,hb⟩:=List.any_eq_true.1 h2
 have h3:=h x hx
 have h4:=h3.1
 have h5:=h3.2
 rw [badLit_no (by omega)] at hb
 cases hb
theorem resOf_eq {N:Nat} {cs:List (List Int)} (hc:∀ c∈cs,Qm.IsCl N c) (st:Nat):resOf N cs st=Qm.searchR N cs (N+1) st [] []:=
 Qm.search_eq hc _ _ _ _ _ (fun n hn=>by simp at hn) rfl
theorem solveErr_ok {vars:Int} {cs:List (List Int)} {steps:Int} (hE:solveErr vars cs steps=0):∃ N st:Nat,vars=N/\steps=st/\N<=400/\st<=40000/\ckFormula vars cs=0/\cs.length<=4000/\(∀ c∈cs,Qm.IsCl N c/\c.length<=60)/\resOf N cs st≠.out /\
  solveM vars cs steps=(match resOf N cs st with | .found m=>m | _=>[])/\solveP vars cs steps=(match resOf N cs st with | .no _ pf=>pf | _=>[]):=by
 unfold solveErr at hE
 split at hE
 ·rename_i h;exact absurd hE h
 rename_i h
 have hck:ckFormula vars cs=0:=by simpa using h
 obtain ⟨N,rfl,hN,hcl,hcs⟩:=ckFormula_ok hck
 split at hE
 ·omega
 rename_i h2
 obtain ⟨st,rfl⟩:∃ st:Nat,steps=st:=⟨steps.toNat,by omega⟩
 simp only [Int.toNat_natCast] at hE
 refine ⟨N,st,rfl,rfl,hN,by omega,hck,hcl,hcs, ?_, ?_, ?_⟩
 ·intro e;rw [e] at hE;simp at hE
 ·unfold solveM;rw [if_neg (by rw [hck];simpa using h2)];simp only [Int.toNat_natCast] <;> (cases resOf N cs st <;> rfl)
 unfold solveP;rw [if_neg (by rw [hck];simpa using h2)];simp only [Int.toNat_natCast] <;> (cases resOf N cs st <;> rfl)
def TellsAll (N:Nat) (vars:Int) (cs:List (List Int)) (M:List Bool) (P:List (List Int)):Prop:=
 (P=[]/\M.length=N/\Qm.holdsF M cs=true/\∀ m':List Bool,m'.length=N->Qm.holdsF m' cs=true->Qm.LexLe M m') \/
 (0<P.length/\M=[]/\P.length<=40000/\refOk vars cs P=true/\badErr vars cs P=0/\∀ m':List Bool,m'.length=N->Qm.holdsF m' cs=true->False)
theorem solve_tells {vars:Int} {cs:List (List Int)} {steps:Int} (hE:solveErr vars cs steps=0):∃ N:Nat,vars=N/\N<=400/\ckFormula vars cs=0/\cs.length<=4000/\(∀ c∈cs,Qm.IsCl N c/\c.length<=60)/\TellsAll N vars cs (solveM vars cs steps) (solveP vars cs steps):=by
 obtain ⟨N,st,rfl,rfl,hN,hst,hck,hcl,hcs,hne,hM,hP⟩:=solveErr_ok hE
 have hc:∀ c∈cs,Qm.IsCl N c:=fun c h=>(hcs c h).1
 refine ⟨N,rfl,hN,hck,hcl,hcs, ?_⟩
 rw [hM,hP]
 have ht:=Qm.searchR_tells hc (N+1) st [] [] (fun n hn=>by simp at hn)
 have hp:=Qm.searchR_proves hc (N+1) st [] [] (fun n hn=>by simp at hn) (fun k hk=>by simp at hk) (fun c h=>by simp at h)
 rw [<- resOf_eq hc st] at ht hp
 cases hr:resOf N cs st with
 | out=>exact absurd hr hne
 | found m =>
  rw [hr] at ht
  obtain ⟨h1,h2,_,h4⟩:=ht
  exact .inl ⟨rfl,h1,h2,fun m' a b=>h4 m' a b (fun n hn=>by simp at hn)⟩
 | no st' pf =>
  rw [hr] at ht hp
  obtain ⟨p1,p2,p3,p4,p5⟩:=hp
  have hlen:0<pf.length:=by
   cases pf with
   | nil=>simp at p5
   | cons a l=>simp
  have hl4:¬ 40000<pf.length:=by
   simp only [List.length_nil] at p3
   omega
  have hbe:badErr (N:Int) cs pf=0:=by
   unfold badErr
   rw [if_neg (by rw [hck];simp)]
   unfold ckProof
   rw [if_neg (by omega),if_neg hl4]
   exact ckClauses_zero fun c h=>ckClause_of (p4 c h).1 (p4 c h).2
  refine .inr ⟨hlen,rfl,(by show pf.length<=40000;omega), ?_,hbe,fun m' a b=>ht m' a b (fun n hn=>by simp at hn)⟩
  rw [refOk_parts hbe]
  refine ⟨p1,hlen, ?_⟩
  rw [List.getLast?_eq_getElem?] at p5
  rw [qgd,p5];rfl
end
section
open Go.RowKit Qm
theorem enc_formula {ps:List Pk} {v:Ws} (h:ckWish ps v=0):ckFormula ((encW ps v).vars:Int) (encW ps v).cls=0:=by
 have E:=encW_ok h
 have h1:=E.n400
 unfold ckFormula
 rw [if_neg (by omega),if_neg (by have:=E.len;omega)]
 exact ckClauses_zero fun c hc=>ckClause_of (E.cl c hc).1 (E.cl c hc).2
theorem pow_le {M:Nat} (h:M<=14):1<=2 ^ (M+1)/\2 ^ (M+1)<=32768:=by
 refine ⟨Nat.one_le_two_pow, ?_⟩
 have:=Nat.pow_le_pow_right (n:=2) (by decide) (show M+1<=15 by omega)
 omega
end
section
open Go.RowKit
end
end Go.Proofs.YtedbhlgjcnnknaaGreatDoor
