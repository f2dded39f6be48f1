/- Parts. -/
import Derived.Test.YtedbhlgjcnnknaaGreatDoorQ23
import Derived.Test.YtedbhlgjcnnknaaGreatDoorQ20
import Derived.Lib.SlTrimSet
import Derived.Shelf.Strings.SlTrimAscii
set_option linter.unusedVariables false
set_option linter.unusedSimpArgs false
set_option linter.unusedSectionVars false
set_option maxRecDepth 100000
set_option maxHeartbeats 12800000
namespace Go.Proofs.YtedbhlgjcnnknaaGreatDoor
open Go.RowKit Qm
def RSetP (ps:List Pk) (v:Ws) (m:List Bool) (w:World) (e:Ending) (w':World):Prop:=
 ∃ A c,e=.returned (.slice A (setOfM (chW ps v) ps m).length c)/\RSet w' (fun k=>w.heap.size<=k/\k<w'.heap.size) A (setOfM (chW ps v) ps m).length (setOfM (chW ps v) ps m)/\(setOfM (chW ps v) ps m).length<=c/\c<=maxLen/\Below w.heap.size w w'
theorem BoolMap.keptW {P:Program} {w w':World} {b m:Nat} {K:Int->Option Bool} (h:BoolMap P w b K m) (hb:Below w.heap.size w w'):BoolMap P w' b K m:=h.block (hb.block _ h.lt)
theorem rset_any (ps:List Pk) (v:Ws) (m:List Bool) (S:Nat->Prop) (A M:Option Addr) (n c mn mc:Nat) (A1 A2 A3 A4:Option Addr) (n1 c1 n2 c2 n3 c3 n4 c4:Nat) (z ob g mb:Nat) (lv:Value) (em:Nat) (w:World) (hok:ckWish ps v=0)
  (hO:Oc z [.slice A n c] [.slice A1 n1 c1,.slice A2 n2 c2,.slice A3 n3 c3,.slice A4 n4 c4] ob g mb lv (ordP v.ins ps.length) (fun x=>(insP v.ins).any fun k=>x == (k:Int)) em w)
  (hT:RTree w S A n ps) (hc:c<=maxLen) (hV:WsAt w S A1 n1 c1 A2 n2 c2 A3 n3 c3 A4 n4 c4 v) (hM:RBools w S M mn m) (hmc:mn<=mc) (hm:mc<=maxLen) (hmany:manyC ps<=mn) (hS:∀ k,S k->k<w.heap.size) :
  Calls Tryz.prog 67 #[.slice M mn mc,.pointer (some ⟨ob,0,none⟩),.pointer (some ⟨mb,0,none⟩),.pointer (some ⟨z,0,none⟩),.pointer (some ⟨z+1,0,none⟩)] w (RSetP ps v m w):=by
 have hmm:=@run_makeMap Tryz.prog
 have WP:=qh (wish_parts hok)
 have HO:=qh hO;have HT:=qh hT;have HV:=qh hV;have HM:=qh hM;have HS:=qh hS
 have HLen:=qh hT.len
 have h8:n<=8:=by rw [<- HLen.out];exact (tree_parts WP.out.tree).1
 have h14:=(tree_parts WP.out.tree).2.1
 have HMC:Hid (n+flagsBef ps n=manyC ps):=qh (by unfold manyC;rw [HLen.out])
 unfold maxLen at hc hm
 obtain ⟨i0,hi0,hz0,hz1,hz2⟩:=info_parts bool_infoE
 have Hi0:=qh hi0;have Hz0:=qh hz0;have Hz1:=qh hz1;have Hz2:=qh hz2
 obtain ⟨j0,hj0,hy0,hy1,hy2⟩:=info_parts mem_infoE
 have Hj0:=qh hj0;have Hy0:=qh hy0;have Hy1:=qh hy1;have Hy2:=qh hy2
 have hown:=hO.own
 rw [ordP_len WP.out.ok,HLen.out] at hown
 obtain ⟨lA,lc,hlv,hl1,hl2,hlr⟩:=own_form hown
 subst hlv
 have HLR:=qh hlr
 have HOL:=qh (fun k (e:(Value.slice lA n lc).ownBlock=some k)=>hown.lt k e)
 have o0:=hO.bo.cell 0
 have olt:=hO.bo.lt
 simp only [qgz] at o0
 clear hO hT hV hM hS hown hlr hi0 hz0 hz1 hz2 hj0 hy0 hy1 hy2 hok
 go_enter Tryz.func67,Tryz.ntmps67
 go_upto_region 3 with fail
 have hb1:Below w.heap.size w (w.alloc (.map #[] 0)):=(qbr _ w).alloc (qr _) _
 have M1:Hid (BoolMap Tryz.prog (w.alloc (.map #[] 0)) w.heap.size (takK ps v m 0) 0):=qh ((BoolMap.made Tryz.prog w).congr rfl fun x _=>(takK_zero x).symm)
 have HB1:=qh hb1
 clear hb1 o0 olt
 generalize w.alloc (.map #[] 0)=w1 at M1 HB1 ⊢
 go_loopg [19] n (fun gk iv wr=>∃ j:Nat,Hid (j+gk=n)/\iv=.int .i64 j/\Hid (BoolMap Tryz.prog wr w.heap.size (takK ps v m j) j)/\Hid (Below w.heap.size w wr))
 case atStart=>exact ⟨0,qh (Nat.zero_add _),rfl,M1,HB1⟩
 case round =>
  obtain ⟨wo,rfl⟩:∃ x:World,x=wr:=⟨_,rfl⟩
  obtain ⟨j,Hj,rfl,HMP,HB⟩:=hrel
  clear M1 HB1
  have O1:=qh (HO.out.move HB.out)
  by_cases hj:j<n
  ·have hjo:j<(ordP v.ins ps.length).length:=by rw [ordP_len WP.out.ok,HLen.out];exact hj
   obtain ⟨i,hi⟩:∃ i,(ordP v.ins ps.length)[j]? = some i:=⟨_,qge hjo⟩
   have hin:i<n:=by rw [<- HLen.out];exact (mem_ordP WP.out.ok).1 (List.mem_of_getElem? hi)
   obtain ⟨b2,o2,hlA,hb2,hc2⟩:=(Row.below HLR.out HB.out fun k hk=>hk.2).at_ hj
   subst hlA
   rw [qgm,<- HLen.out,hi] at hc2
   simp only [Option.map_some] at hc2
   obtain ⟨b3,o3,hMA,hb3,hc3⟩:=(RBools.below HM.out HB.out HS.out).at_ (k:=j) (by have:=HMC.out;omega)
   subst hMA
   have hwi:(Lit.int .i64 (i:Int)).wf=true:=wf_of (by omega) (by omega)
   have hlk:=O1.out.mp.look Tryz.underlying3 Tryz.underlying4 (zeroBoolE _) Tryz.underlying120 hwi
   have hst:=takK_step WP.out.ok (m:=m) hi
   have hct:=takK_cnt WP.out.ok (m:=m) hi
   have hic:(insP v.ins).contains i=(insP v.ins).any fun k=>(i:Int) == (k:Int):=any_insP rfl
   rw [<- hic] at hlk
   obtain ⟨bv,hbv⟩:∃ x,m.getD j false=x:=⟨_,rfl⟩
   obtain ⟨kb,hkb⟩:∃ x,(insP v.ins).contains i=x:=⟨_,rfl⟩
   rw [hbv] at hc3
   rw [hkb] at hlk
   rw [hbv,hkb] at hst
   have HST:=qh hst;have HCT:=qh hct
   have bm0:=O1.out.bm.cell 0
   have blt:=O1.out.bm.lt
   simp only [qgz] at bm0
   have hjn:(j:Int)<n:=by omega
   have hj0:(0:Int)<=(j:Int):=by omega
   have hjm:(j:Int)<mn:=by have:=HMC.out;omega
   have HBL2:Hid (b2<w.heap.size):=qh hb2.2
   have HBL3:Hid (b3<w.heap.size):=qh (HS.out _ hb3)
   have hbd:Below wo.heap.size wo wo.drew:=below_drewN (qbr _ _) 1
   have OD:=qh (O1.out.move hbd)
   have MD:=qh (HMP.out.keptW hbd)
   have hlkD:=OD.out.mp.look Tryz.underlying3 Tryz.underlying4 (zeroBoolE _) Tryz.underlying120 hwi
   rw [<- hic,hkb] at hlkD
   obtain ⟨wP,hput,hset,hgP,hszP⟩:=MD.out.put Tryz.underlying3 Tryz.underlying4 Tryz.underlying120 (y:=bv != kb) hwi (by unfold maxLen;omega)
   simp only [bne] at hput
   have HMP2:Hid (BoolMap Tryz.prog wP w.heap.size (takK ps v m (j+1)) (j+1)):=qh (hset.congr (by rw [HCT.out];rfl) fun x _=>(HST.out x).symm)
   have HBP:=qh ((HB.out.trans (hbd.mono HB.out.size)).trans (below_of_grown hgP (qlt HB.out.size hbd.size) fun k e=>by injection e with e;omega))
   have HKEEP:=qh (fun (wy:World) (hb:Below w.heap.size wo wy)=>(⟨(hb.cell HBL3.out).trans hc3,(hb.cell (p:=⟨mb,0,none⟩) (by have:=HO.out.bm.lt;exact this)).trans bm0⟩:wy.cell? ⟨b3,o3+j,none⟩=some (.bool bv)/\wy.cell? ⟨mb,0,none⟩=some (.map (some g))))
   have HBD:=qh ((qbr w.heap.size wo).trans (hbd.mono HB.out.size))
   have HBDP:=qh (HBD.out.trans (below_of_grown hgP (qlt HB.out.size hbd.size) fun k e=>by injection e with e;omega))
   clear hset hgP hszP hlk hst hct hic hbv hkb hi hjo
   go_upto_region 5 with fail
   refine wp_region_held_drew (S:=(fun w'=>w'.cell? ⟨b3,o3+j,none⟩=some (.bool bv)/\w'.cell? ⟨mb,0,none⟩=some (.map (some g)))) (by kernel_rfl) ⟨hc3,bm0⟩ (fun hHeld=>?_)
   first|(refine tkA (v:=?_) held_at0 ?_ ?_;rotate_left;focus (intro _ h;(try dsimp only at h);go_simp;(try with_reducible rfl);done))|refine tkB held_at0 ?_
   (try simp only [Act.put,qsa,qsz,qss])
   first|(refine tkA (v:=?_) held_at1 ?_ ?_;rotate_left;focus (intro _ h;(try dsimp only at h);go_simp;(try with_reducible rfl);done))|refine tkB held_at1 ?_
   (try simp only [Act.put,qsa,qsz,qss])
   first|(refine tkA (v:=?_) held_at2 ?_ ?_;rotate_left;focus (intro _ h;(try dsimp only at h);go_simp;(try with_reducible rfl);done))|refine tkB held_at2 ?_
   (try simp only [Act.put,qsa,qsz,qss])
   first|(refine tkA (v:=?_) held_at3 ?_ ?_;rotate_left;focus (intro _ h;(try dsimp only at h);go_simp;(try with_reducible rfl);done))|refine tkB held_at3 ?_
   (try simp only [Act.put,qsa,qsz,qss])
   first|(refine tkA (v:=?_) held_at4 ?_ ?_;rotate_left;focus (intro _ h;(try dsimp only at h);go_simp;(try with_reducible rfl);done))|refine tkB held_at4 ?_
   (try simp only [Act.put,qsa,qsz,qss])
   first|(refine tkA (v:=?_) held_at5 ?_ ?_;rotate_left;focus (intro _ h;(try dsimp only at h);go_simp;(try with_reducible rfl);done))|refine tkB held_at5 ?_
   (try simp only [Act.put,qsa,qsz,qss])
   first|(refine tkA (v:=?_) held_at6 ?_ ?_;rotate_left;focus (intro _ h;(try dsimp only at h);go_simp;(try with_reducible rfl);done))|refine tkB held_at6 ?_
   (try simp only [Act.put,qsa,qsz,qss])
   first|(refine tkA (v:=?_) held_at7 ?_ ?_;rotate_left;focus (intro _ h;(try dsimp only at h);go_simp;(try with_reducible rfl);done))|refine tkB held_at7 ?_
   (try simp only [Act.put,qsa,qsz,qss])
   refine wpAnyH_ready (rs:=[8]) (by kernel_rfl) (by simp) ?_
   refine AllReadyH.cons held_at8 (fun K2 hK=>?_) AllReadyH.nil
   (try simp only [qsa,qsz,qss])
   go_simp
   refine hK.out _ _ ⟨hc3,bm0⟩ (fun hHeld=>?_)
   clear hK K2
   (try simp only [Act.put,qsa,qsz,qss])
   first|(refine tkA (v:=?_) held_at9 ?_ ?_;rotate_left;focus (intro _ h;(try dsimp only at h);go_simp;(try with_reducible rfl);done))|refine tkB held_at9 ?_
   (try simp only [Act.put,qsa,qsz,qss])
   refine wpAnyH_ready (rs:=[10]) (by kernel_rfl) (by simp) ?_
   refine AllReadyH.cons held_at10 (fun K2 hK=>?_) AllReadyH.nil
   (try simp only [qsa,qsz,qss])
   go_simp
   refine hK.out _ _ (HKEEP.out _ HBDP.out) (fun hHeld=>?_)
   clear hK K2
   (try simp only [Act.put,qsa,qsz,qss])
   refine wpAnyH_done (by kernel_rfl) ?_ _
   go_wp2
   go_roundg (gk - 1)
   case measure=>have:=Hj.out;omega
   case rel=>exact ⟨j+1,qh (by have:=Hj.out;omega),by go_num,HMP2,HBP⟩
  obtain rfl:n=j:=by have:=Hj.out;omega
  have hjn:¬ (n:Int)<n:=by omega
  have t0:=O1.out.t.cell 0
  have tlt:=O1.out.t.lt
  have b0:=O1.out.bo.cell 0
  have blt:=O1.out.bo.lt
  simp only [qgz] at t0 b0
  go_wp2
  clear b0 blt hjn
  go_loopg [10,11,40] n (fun g lv sv iv wr=>∃ (i:Nat) (cs:List (List Value)),Hid (i+g=n)/\sv=.int .i64 ((n+flagsBef ps i:Nat):Int)/\iv=.int .i64 i/\Hid (Mg wo.heap.size lv cs (setTo (chW ps v) ps m i) wr)/\Hid (Below wo.heap.size wo wr))
  case atStart=>exact ⟨0,[],qh (Nat.zero_add _),rfl,rfl,qh Mg.nil_,qh (qbr _ _)⟩
  case round =>
   obtain ⟨g3,rfl⟩:∃ x:Nat,x=gk:=⟨_,rfl⟩
   obtain ⟨wi,rfl⟩:∃ x:World,x=wr:=⟨_,rfl⟩
   obtain ⟨i,cs,Hi,rfl,rfl,HG,HB2⟩:=hrel
   clear t0 tlt
   have HBI:Hid (Below w.heap.size w wi):=qh (HB.out.trans (HB2.out.mono HB.out.size))
   by_cases hi:i<n
   ·have hip:i<ps.length:=by rw [HLen.out];exact hi
    obtain ⟨b2,o2,p,F,fn,fc,kd,pa,pf,pno,G,gq,gd,hTA,hbS2,hp,hP,hcell⟩:=(HT.out.under HBI.out HS.out).at_ hi
    subst hTA
    have hpk:pkOf ps (i:Int)=p:=pkOf_at hp
    have hfl:p.fs.length=fn:=by have:=hP.fs.row.len;simpa [strs] using this
    obtain ⟨g0,g1,g2,g3',g4,g5,g6,g7,g8,g9,g10,g11,g12,g13⟩:=cb14 hcell (by decide)
    unfold pkRow ndRow at g0 g1 g2 g3' g4 g5 g6 g7 g8 g9 g10 g11 g12 g13
    simp only [qgz,qgs,Nat.add_zero] at g0 g1 g2 g3' g4 g5 g6 g7 g8 g9 g10 g11 g12 g13
    have hbl2:b2<wi.heap.size:=ql (HS.out _ hbS2) HBI.out.size
    have hfb:flagsBef ps i+fn<=flagsBef ps n:=by
     have h:=flagsBef_mono (ps:=ps) (i:=i+1) (j:=n) (by omega)
     simp only [flagsBef] at h
     rw [hpk,hfl] at h;exact h
    have hsn:flagsBef ps (i+1)=flagsBef ps i+fn:=by simp only [flagsBef];rw [hpk,hfl]
    have HSN:=qh hsn
    have HPK:Hid ((pkOf ps (i:Int)).fs.length=fn):=qh (by rw [hpk,hfl])
    have hsm14:n+flagsBef ps i+fn<=14:=by have:=HMC.out;omega
    obtain ⟨sm,hsm⟩:∃ x:Nat,x=n+flagsBef ps i:=⟨_,rfl⟩
    rw [<- hsm] at hsm14 ⊢
    have HSM:=qh hsm
    have hsmn:sm+fn<=mn:=by have:=HMC.out;omega
    have hin2:(i:Int)<n:=by omega
    have hi0':(0:Int)<=(i:Int):=by omega
    clear hcell hp hP hpk hfl hbS2 hfb hsn hsm
    have hal:Below wi.heap.size wi ((wi.alloc (.cells #[.string ⟨p.nm.toArray⟩,.int .i64 p.ver,.int .i64 p.slot,.slice F fn fc,.int .i64 kd,.string ⟨pa.nm.toArray⟩,.int .i64 pa.op,.int .i64 pa.ver,.int .i64 pa.slot,.string ⟨pa.fl.toArray⟩,.bool pa.on,.string ⟨pf.toArray⟩,.bool pno,.slice G gq gd] 101)).alloc (.cells #[.int .i64 (i:Int),.slice none 0 0] 85)):=((qbr _ wi).alloc (qr _) _).alloc (by simp) _
    have HP1:=qh ((Whole.new wi wi.heap.size 101 [.string ⟨p.nm.toArray⟩,.int .i64 p.ver,.int .i64 p.slot,.slice F fn fc,.int .i64 kd,.string ⟨pa.nm.toArray⟩,.int .i64 pa.op,.int .i64 pa.ver,.int .i64 pa.slot,.string ⟨pa.fl.toArray⟩,.bool pa.on,.string ⟨pf.toArray⟩,.bool pno,.slice G gq gd] rfl).alloc (.cells #[.int .i64 (i:Int),.slice none 0 0] 85))
    have HMB:=qh (Whole.new (wi.alloc (.cells #[.string ⟨p.nm.toArray⟩,.int .i64 p.ver,.int .i64 p.slot,.slice F fn fc,.int .i64 kd,.string ⟨pa.nm.toArray⟩,.int .i64 pa.op,.int .i64 pa.ver,.int .i64 pa.slot,.string ⟨pa.fl.toArray⟩,.bool pa.on,.string ⟨pf.toArray⟩,.bool pno,.slice G gq gd] 101)) (wi.heap.size+1) 85 [.int .i64 (i:Int),.slice none 0 0] (by simp))
    have HAL:=qh hal
    have HSW:Hid (wi.heap.size+1<((wi.alloc (.cells #[.string ⟨p.nm.toArray⟩,.int .i64 p.ver,.int .i64 p.slot,.slice F fn fc,.int .i64 kd,.string ⟨pa.nm.toArray⟩,.int .i64 pa.op,.int .i64 pa.ver,.int .i64 pa.slot,.string ⟨pa.fl.toArray⟩,.bool pa.on,.string ⟨pf.toArray⟩,.bool pno,.slice G gq gd] 101)).alloc (.cells #[.int .i64 (i:Int),.slice none 0 0] 85)).heap.size):=qh (by simp)
    clear hal
    go_upto_region 13 with fail
    clear g0 g1 g2 g3' g4 g5 g6 g7 g8 g9 g10 g11 g12 g13
    generalize ((wi.alloc (.cells #[.string ⟨p.nm.toArray⟩,.int .i64 p.ver,.int .i64 p.slot,.slice F fn fc,.int .i64 kd,.string ⟨pa.nm.toArray⟩,.int .i64 pa.op,.int .i64 pa.ver,.int .i64 pa.slot,.string ⟨pa.fl.toArray⟩,.bool pa.on,.string ⟨pf.toArray⟩,.bool pno,.slice G gq gd] 101)).alloc (.cells #[.int .i64 (i:Int),.slice none 0 0] 85))=w5 at HP1 HMB HAL HSW ⊢
    have p3:=HP1.out.cell 3
    have p3l:=HP1.out.lt
    simp only [qgz,qgs] at p3
    go_wp2
    clear p3 p3l HP1
    go_loopg [11,50] fn (fun g sv iv wr=>∃ (k:Nat) (oA:Option Addr) (oc:Nat),Hid (k+g=fn)/\iv=.int .i64 k/\sv=.int .i64 ((sm+k:Nat):Int)/\Hid (Whole wr (wi.heap.size+1) 85 [.int .i64 (i:Int),.slice oA k oc])/\Hid (wr.ownsRow w5.heap.size 4 1 (.slice oA k oc) k (((List.range k).map fun k=>litHolds m ((chW ps v).on i k)).map .bool))/\Hid (Below wi.heap.size wi wr)/\Hid (w5.heap.size<=wr.heap.size))
    case atStart=>exact ⟨0,none,0,qh (Nat.zero_add _),rfl,rfl,HMB,qh (World.ownsRow_nil _ _ _ _),HAL,qh (qr _)⟩
    case round =>
     obtain ⟨k,oA,oc,Hk,rfl,rfl,HMBr,HO3,HBr,Hsz⟩:=hrel
     clear HMB HAL
     have HBX:Hid (Below w.heap.size w wr):=qh (HBI.out.trans (HBr.out.mono HBI.out.size))
     by_cases hk:k<fn
     ·have hvm:sm+k<mn:=by omega
      have hvr14:sm+k<=14:=by omega
      obtain ⟨b7,o7,hMA,hb7,hc7⟩:=RBools.at_ (w:=w) HM.out (k:=sm+k) hvm
      subst hMA
      have hw3:=HO.out.wi.cell 3
      have hwl:=HO.out.wi.lt
      simp only [qgz,qgs] at hw3
      have hon8:=ckOn_few h14 (by have:=HLen.out;omega) WP.out.on
      have hol:v.on.length=n4:=RSeq.len HV.out.on
      have hlt:litHolds m ((chW ps v).on i k)=(m.getD (sm+k) false != v.on.contains ((i:Int),(k:Int))):=by rw [litHolds_on,HLen.out,<- HSM.out]
      have hcall:=fun (wx:World) (hb:Below w.heap.size w wx)=>containsP_any A4 n4 c4 v.on (i:Int) (k:Int) wx S (RSeq.keep HV.out.on (fun pp hp=>hb.cell (HS.out _ hp)) fun _ _ h=>h) (by omega) (fun k hk=>ql (HS.out k hk) hb.size) (wf_of (by omega) (by omega)) (wf_of (by omega) (by omega)) (fun z hz=>by
       have hz:=ckOn_mem WP.out.on z hz
       have hf:=fs_few h14 hz.1 hz.2.1
       have:=HLen.out
       exact ⟨wf_of (by omega) (by omega),wf_of (by omega) (by omega)⟩)
      generalize v.on.contains ((i:Int),(k:Int))=ct at hlt hcall
      generalize m.getD (sm+k) false=bv at hlt hc7
      have HCL:=qh hcall
      have HLT:=qh hlt
      obtain ⟨vr,hvr⟩:∃ x,x=sm+k:=⟨_,rfl⟩
      rw [<- hvr] at hc7 hvm hvr14 ⊢
      have HVR:=qh hvr
      have HKEEP:=qh (fun (wy:World) (hb:Below w.heap.size w wy)=>(⟨(hb.cell (HS.out _ hb7)).trans hc7,(hb.cell (p:=⟨z+1,3,none⟩) hwl).trans hw3⟩:wy.cell? ⟨b7,o7+vr,none⟩=some (.bool bv)/\wy.cell? ⟨z+1,3,none⟩=some (.slice A4 n4 c4)))
      have hb7l:=HS.out _ hb7
      have HBD:Hid (Below w.heap.size w wr.drew):=qh (HBX.out.trans (below_drewN (qbr _ _) 1))
      have HBRD:Hid (Below wi.heap.size wi wr.drew):=qh (HBr.out.trans (below_drewN (qbr _ _) 1))
      have HMBD:=qh HMBr.out.drew
      have HOD:Hid (wr.drew.ownsRow w5.heap.size 4 1 (.slice oA k oc) k (((List.range k).map fun k=>litHolds m ((chW ps v).on i k)).map .bool)):=HO3
      have HsD:Hid (w5.heap.size<=wr.drew.heap.size):=Hsz
      have o1:=HMBr.out.cell 1
      have olt:=HMBr.out.lt
      simp only [qgz,qgs] at o1
      have hkn:(k:Int)<fn:=by omega
      have hk0:(0:Int)<=(k:Int):=by omega
      have hvn:(vr:Int)<mn:=by omega
      clear hb7 hc7 hw3 hwl hon8 hol hlt hcall hvr
      go_upto_region 16 with fail
      refine wp_region_held_drew (S:=(fun w'=>w'.cell? ⟨b7,o7+vr,none⟩=some (.bool bv)/\w'.cell? ⟨z+1,3,none⟩=some (.slice A4 n4 c4))) (by kernel_rfl) (HKEEP.out _ HBD.out) (fun hHeld=>?_)
      first|(refine tkA (v:=?_) held_at0 ?_ ?_;rotate_left;focus (intro _ h;(try dsimp only at h);go_simp;(try with_reducible rfl);done))|refine tkB held_at0 ?_
      (try simp only [Act.put,qsa,qsz,qss])
      first|(refine tkA (v:=?_) held_at2 ?_ ?_;rotate_left;focus (intro _ h;(try dsimp only at h);go_simp;(try with_reducible rfl);done))|refine tkB held_at2 ?_
      (try simp only [Act.put,qsa,qsz,qss])
      first|(refine tkA (v:=?_) held_at3 ?_ ?_;rotate_left;focus (intro _ h;(try dsimp only at h);go_simp;(try with_reducible rfl);done))|refine tkB held_at3 ?_
      (try simp only [Act.put,qsa,qsz,qss])
      first|(refine tkA (v:=?_) held_at4 ?_ ?_;rotate_left;focus (intro _ h;(try dsimp only at h);go_simp;(try with_reducible rfl);done))|refine tkB held_at4 ?_
      (try simp only [Act.put,qsa,qsz,qss])
      first|(refine tkA (v:=?_) held_at5 ?_ ?_;rotate_left;focus (intro _ h;(try dsimp only at h);go_simp;(try with_reducible rfl);done))|refine tkB held_at5 ?_
      (try simp only [Act.put,qsa,qsz,qss])
      first|(refine tkA (v:=?_) held_at6 ?_ ?_;rotate_left;focus (intro _ h;(try dsimp only at h);go_simp;(try with_reducible rfl);done))|refine tkB held_at6 ?_
      (try simp only [Act.put,qsa,qsz,qss])
      first|(refine tkA (v:=?_) held_at7 ?_ ?_;rotate_left;focus (intro _ h;(try dsimp only at h);go_simp;(try with_reducible rfl);done))|refine tkB held_at7 ?_
      (try simp only [Act.put,qsa,qsz,qss])
      first|(refine tkA (v:=?_) held_at8 ?_ ?_;rotate_left;focus (intro _ h;(try dsimp only at h);go_simp;(try with_reducible rfl);done))|refine tkB held_at8 ?_
      (try simp only [Act.put,qsa,qsz,qss])
      first|(refine tkA (v:=?_) held_at9 ?_ ?_;rotate_left;focus (intro _ h;(try dsimp only at h);go_simp;(try with_reducible rfl);done))|refine tkB held_at9 ?_
      (try simp only [Act.put,qsa,qsz,qss])
      first|(refine tkA (v:=?_) held_at10 ?_ ?_;rotate_left;focus (intro _ h;(try dsimp only at h);go_simp;(try with_reducible rfl);done))|refine tkB held_at10 ?_
      (try simp only [Act.put,qsa,qsz,qss])
      refine wpAnyH_ready (rs:=[1,11]) (by kernel_rfl) (by simp) ?_
      refine AllReadyH.cons held_at1 (fun K hK=>?_) (AllReadyH.cons held_at11 (fun K hK=>?_) AllReadyH.nil)
      ·
       (try simp only [qsa,qsz,qss])
       go_simp
       refine hK.out _ _ (HKEEP.out _ HBD.out) (fun hHeld=>?_)
       clear hK K
       (try simp only [Act.put,qsa,qsz,qss])
       refine wpAnyH_ready (rs:=[11]) (by kernel_rfl) (by simp) ?_
       refine AllReadyH.cons held_at11 (fun K hK=>?_) AllReadyH.nil
       (try simp only [qsa,qsz,qss])
       go_simp
       go_at_call 68
       refine (HCL.out _ HBD.out).mono ?_
       rintro e w7 ⟨rfl,hw7⟩
       have HMB7:=qh (HMBD.out.below hw7 HMBD.out.lt)
       have HO7:=qh ((Far.of_below (fun _=>False) hw7).own HOD.out fun _ _ h=>h)
       have HB7:=qh (HBRD.out.trans (hw7.mono HBRD.out.size))
       have HBX7:=qh (HBD.out.trans (hw7.mono HBD.out.size))
       have Hs7:Hid (w5.heap.size<=w7.heap.size):=qh (qlt HsD.out hw7.size)
       have p1:=HMB7.out.cell 1
       have plt:=HMB7.out.lt
       simp only [qgz,qgs] at p1
       clear hw7
       refine hK.out _ _ (HKEEP.out _ HBX7.out) (fun hHeld=>?_)
       clear hK K
       (try simp only [Act.put,qsa,qsz,qss])
       first|(refine tkA (v:=?_) held_at12 ?_ ?_;rotate_left;focus (intro _ h;(try dsimp only at h);go_simp;(try with_reducible rfl);done))|refine tkB held_at12 ?_
       (try simp only [Act.put,qsa,qsz,qss])
       refine wpAnyH_ready (rs:=[13]) (by kernel_rfl) (by simp) ?_
       refine AllReadyH.cons held_at13 (fun K hK=>?_) AllReadyH.nil
       (try simp only [qsa,qsz,qss])
       go_simp
       have HBX8:=qh (HBX7.out.alloc HBX7.out.size (.cells #[.bool (!(bv == ct))] 4))
       refine hK.out _ _ (HKEEP.out _ HBX8.out) (fun hHeld=>?_)
       clear hK K
       (try simp only [Act.put,qsa,qsz,qss])
       refine wpAnyH_ready (rs:=[14]) (by kernel_rfl) (by simp) ?_
       refine AllReadyH.cons held_at14 (fun K hK=>?_) AllReadyH.nil
       have HNC:=qh (cell_one_new w7 (.bool (!(bv == ct))) 4)
       refine step_append_ownE rfl (.tmp 54) (.tmp 66) 40 rfl w5.heap.size 4 i0 (.bool false) 1 1 Tryz.underlying40 Hi0.out Hz0.out Hz1.out Hz2.out rfl (by decide) (.slice oA k oc) k (((List.range k).map fun k=>litHolds m ((chW ps v).on i k)).map .bool) (by simp [Act.eval,Act.put]) (HO7.out.alloc _) ⟨w7.heap.size,0,none⟩ 1 1 [.bool (!(bv == ct))] (by simp [Act.eval,Act.put]) rfl HNC.out (by simp [Value.oneCell']) (by unfold maxLen;omega) (by omega) (by have:=Hs7.out;simp;omega) ?_
       intro oV8 w8 hown8 hg8 _ hv8
       obtain ⟨oA8,oc8,rfl,_,_,_⟩:=own_form hown8
       have far8:Far (fun j=>(Value.slice oA k oc).ownBlock=some j) w7 w8:=(Far.of_below _ ((qbr _ _).alloc (qr _) (.cells #[.bool (!(bv == ct))] 4))).trans (Far.of_grown hg8 fun i h=>h.symm) fun _ _ h=>h
       have HO8:Hid (w8.ownsRow w5.heap.size 4 1 (.slice oA8 (k+1) oc8) (k+1) (((List.range (k+1)).map fun k=>litHolds m ((chW ps v).on i k)).map .bool)):=qh (by rw [List.range_succ,List.map_append,List.map_append];simpa [HLT.out,bne] using hown8)
       have HMB8:=qh (far8.whole HMB7.out fun e=>by have:=(HO7.out.lt _ e).1;have:=HSW.out;omega)
       have HB8:Hid (Below wi.heap.size wi w8):=qh (HB7.out.trans (far8.below (B:=wi.heap.size) HB7.out.size fun j e=>by have:=(HO7.out.lt j e).1;have:=HSW.out;omega))
       have HBX9:=qh (HBI.out.trans (HB8.out.mono HBI.out.size))
       have Hs8:Hid (w5.heap.size<=w8.heap.size):=qh (qlt Hs7.out far8.size)
       clear hown8 hg8 hv8 far8 HNC p1 plt
       refine hK.out _ _ (HKEEP.out _ HBX9.out) (fun hHeld=>?_)
       clear hK K
       (try simp only [Act.put,qsa,qsz,qss])
       first|(refine tkA (v:=?_) held_at15 ?_ ?_;rotate_left;focus (intro _ h;(try dsimp only at h);go_simp;(try with_reducible rfl);done))|refine tkB held_at15 ?_
       (try simp only [Act.put,qsa,qsz,qss])
       refine wpAnyH_ready (rs:=[16]) (by kernel_rfl) (by simp) ?_
       refine AllReadyH.cons held_at16 (fun K hK=>?_) AllReadyH.nil
       have y1:=HMB8.out.cell 1
       have y1f:=HMB8.out.free 1
       have y1l:=HMB8.out.lt
       simp only [qgz,qgs] at y1
       have HB9:=qh (HB8.out.setCell (p:=⟨wi.heap.size+1,1,none⟩) (Nat.le_succ _) (.slice oA8 (k+1) oc8))
       have HBX10:=qh (HBI.out.trans (HB9.out.mono HBI.out.size))
       (try simp only [qsa,qsz,qss])
       go_simp
       refine hK.out _ _ (HKEEP.out _ HBX10.out) (fun hHeld=>?_)
       clear hK K
       (try simp only [Act.put,qsa,qsz,qss])
       clear y1 y1f
       refine wpAnyH_done (by kernel_rfl) ?_ _
       have HMB9:=qh (HMB8.out.set_ 1 (.slice oA8 (k+1) oc8))
       have HO9:=qh ((Far.set_ (D:=fun j=>j=wi.heap.size+1) rfl 1 (.slice oA8 (k+1) oc8)).own HO8.out fun g hg e=>by have:=(HO8.out.lt g hg).1;have:=HSW.out;omega)
       have Hs9:Hid (w5.heap.size<=(w8.setCell ⟨wi.heap.size+1,1,none⟩ (.slice oA8 (k+1) oc8)).heap.size):=qh (by simpa [World.setCell] using Hs8.out)
       go_wp2
       go_roundg (gk - 1)
       case measure=>have:=Hk.out;omega
       case rel=>exact ⟨k+1,oA8,oc8,qh (by have:=Hk.out;omega),by go_num,by (have:=HVR.out;congr 1;omega),HMB9,HO9,HB9,Hs9⟩
      ·
       (try simp only [qsa,qsz,qss])
       go_simp
       go_at_call 68
       refine (HCL.out _ HBD.out).mono ?_
       rintro e w7 ⟨rfl,hw7⟩
       have HMB7:=qh (HMBD.out.below hw7 HMBD.out.lt)
       have HO7:=qh ((Far.of_below (fun _=>False) hw7).own HOD.out fun _ _ h=>h)
       have HB7:=qh (HBRD.out.trans (hw7.mono HBRD.out.size))
       have HBX7:=qh (HBD.out.trans (hw7.mono HBD.out.size))
       have Hs7:Hid (w5.heap.size<=w7.heap.size):=qh (qlt HsD.out hw7.size)
       have p1:=HMB7.out.cell 1
       have plt:=HMB7.out.lt
       simp only [qgz,qgs] at p1
       clear hw7
       refine hK.out _ _ (HKEEP.out _ HBX7.out) (fun hHeld=>?_)
       clear hK K
       (try simp only [Act.put,qsa,qsz,qss])
       first|(refine tkA (v:=?_) held_at12 ?_ ?_;rotate_left;focus (intro _ h;(try dsimp only at h);go_simp;(try with_reducible rfl);done))|refine tkB held_at12 ?_
       (try simp only [Act.put,qsa,qsz,qss])
       refine wpAnyH_ready (rs:=[1,13]) (by kernel_rfl) (by simp) ?_
       refine AllReadyH.cons held_at1 (fun K hK=>?_) (AllReadyH.cons held_at13 (fun K hK=>?_) AllReadyH.nil)
       ·
        (try simp only [qsa,qsz,qss])
        go_simp
        refine hK.out _ _ (HKEEP.out _ HBX7.out) (fun hHeld=>?_)
        clear hK K
        (try simp only [Act.put,qsa,qsz,qss])
        refine wpAnyH_ready (rs:=[13]) (by kernel_rfl) (by simp) ?_
        refine AllReadyH.cons held_at13 (fun K hK=>?_) AllReadyH.nil
        (try simp only [qsa,qsz,qss])
        go_simp
        have HBX8:=qh (HBX7.out.alloc HBX7.out.size (.cells #[.bool (!(bv == ct))] 4))
        refine hK.out _ _ (HKEEP.out _ HBX8.out) (fun hHeld=>?_)
        clear hK K
        (try simp only [Act.put,qsa,qsz,qss])
        refine wpAnyH_ready (rs:=[14]) (by kernel_rfl) (by simp) ?_
        refine AllReadyH.cons held_at14 (fun K hK=>?_) AllReadyH.nil
        have HNC:=qh (cell_one_new w7 (.bool (!(bv == ct))) 4)
        refine step_append_ownE rfl (.tmp 54) (.tmp 66) 40 rfl w5.heap.size 4 i0 (.bool false) 1 1 Tryz.underlying40 Hi0.out Hz0.out Hz1.out Hz2.out rfl (by decide) (.slice oA k oc) k (((List.range k).map fun k=>litHolds m ((chW ps v).on i k)).map .bool) (by simp [Act.eval,Act.put]) (HO7.out.alloc _) ⟨w7.heap.size,0,none⟩ 1 1 [.bool (!(bv == ct))] (by simp [Act.eval,Act.put]) rfl HNC.out (by simp [Value.oneCell']) (by unfold maxLen;omega) (by omega) (by have:=Hs7.out;simp;omega) ?_
        intro oV8 w8 hown8 hg8 _ hv8
        obtain ⟨oA8,oc8,rfl,_,_,_⟩:=own_form hown8
        have far8:Far (fun j=>(Value.slice oA k oc).ownBlock=some j) w7 w8:=(Far.of_below _ ((qbr _ _).alloc (qr _) (.cells #[.bool (!(bv == ct))] 4))).trans (Far.of_grown hg8 fun i h=>h.symm) fun _ _ h=>h
        have HO8:Hid (w8.ownsRow w5.heap.size 4 1 (.slice oA8 (k+1) oc8) (k+1) (((List.range (k+1)).map fun k=>litHolds m ((chW ps v).on i k)).map .bool)):=qh (by rw [List.range_succ,List.map_append,List.map_append];simpa [HLT.out,bne] using hown8)
        have HMB8:=qh (far8.whole HMB7.out fun e=>by have:=(HO7.out.lt _ e).1;have:=HSW.out;omega)
        have HB8:Hid (Below wi.heap.size wi w8):=qh (HB7.out.trans (far8.below (B:=wi.heap.size) HB7.out.size fun j e=>by have:=(HO7.out.lt j e).1;have:=HSW.out;omega))
        have HBX9:=qh (HBI.out.trans (HB8.out.mono HBI.out.size))
        have Hs8:Hid (w5.heap.size<=w8.heap.size):=qh (qlt Hs7.out far8.size)
        clear hown8 hg8 hv8 far8 HNC p1 plt
        refine hK.out _ _ (HKEEP.out _ HBX9.out) (fun hHeld=>?_)
        clear hK K
        (try simp only [Act.put,qsa,qsz,qss])
        first|(refine tkA (v:=?_) held_at15 ?_ ?_;rotate_left;focus (intro _ h;(try dsimp only at h);go_simp;(try with_reducible rfl);done))|refine tkB held_at15 ?_
        (try simp only [Act.put,qsa,qsz,qss])
        refine wpAnyH_ready (rs:=[16]) (by kernel_rfl) (by simp) ?_
        refine AllReadyH.cons held_at16 (fun K hK=>?_) AllReadyH.nil
        have y1:=HMB8.out.cell 1
        have y1f:=HMB8.out.free 1
        have y1l:=HMB8.out.lt
        simp only [qgz,qgs] at y1
        have HB9:=qh (HB8.out.setCell (p:=⟨wi.heap.size+1,1,none⟩) (Nat.le_succ _) (.slice oA8 (k+1) oc8))
        have HBX10:=qh (HBI.out.trans (HB9.out.mono HBI.out.size))
        (try simp only [qsa,qsz,qss])
        go_simp
        refine hK.out _ _ (HKEEP.out _ HBX10.out) (fun hHeld=>?_)
        clear hK K
        (try simp only [Act.put,qsa,qsz,qss])
        clear y1 y1f
        refine wpAnyH_done (by kernel_rfl) ?_ _
        have HMB9:=qh (HMB8.out.set_ 1 (.slice oA8 (k+1) oc8))
        have HO9:=qh ((Far.set_ (D:=fun j=>j=wi.heap.size+1) rfl 1 (.slice oA8 (k+1) oc8)).own HO8.out fun g hg e=>by have:=(HO8.out.lt g hg).1;have:=HSW.out;omega)
        have Hs9:Hid (w5.heap.size<=(w8.setCell ⟨wi.heap.size+1,1,none⟩ (.slice oA8 (k+1) oc8)).heap.size):=qh (by simpa [World.setCell] using Hs8.out)
        go_wp2
        go_roundg (gk - 1)
        case measure=>have:=Hk.out;omega
        case rel=>exact ⟨k+1,oA8,oc8,qh (by have:=Hk.out;omega),by go_num,by (have:=HVR.out;congr 1;omega),HMB9,HO9,HB9,Hs9⟩
       ·
        (try simp only [qsa,qsz,qss])
        go_simp
        have HBX8:=qh (HBX7.out.alloc HBX7.out.size (.cells #[.bool (!(bv == ct))] 4))
        refine hK.out _ _ (HKEEP.out _ HBX8.out) (fun hHeld=>?_)
        clear hK K
        (try simp only [Act.put,qsa,qsz,qss])
        refine wpAnyH_ready (rs:=[1]) (by kernel_rfl) (by simp) ?_
        refine AllReadyH.cons held_at1 (fun K hK=>?_) AllReadyH.nil
        (try simp only [qsa,qsz,qss])
        go_simp
        refine hK.out _ _ (HKEEP.out _ HBX8.out) (fun hHeld=>?_)
        clear hK K
        (try simp only [Act.put,qsa,qsz,qss])
        refine wpAnyH_ready (rs:=[14]) (by kernel_rfl) (by simp) ?_
        refine AllReadyH.cons held_at14 (fun K hK=>?_) AllReadyH.nil
        have HNC:=qh (cell_one_new w7 (.bool (!(bv == ct))) 4)
        refine step_append_ownE rfl (.tmp 54) (.tmp 66) 40 rfl w5.heap.size 4 i0 (.bool false) 1 1 Tryz.underlying40 Hi0.out Hz0.out Hz1.out Hz2.out rfl (by decide) (.slice oA k oc) k (((List.range k).map fun k=>litHolds m ((chW ps v).on i k)).map .bool) (by simp [Act.eval,Act.put]) (HO7.out.alloc _) ⟨w7.heap.size,0,none⟩ 1 1 [.bool (!(bv == ct))] (by simp [Act.eval,Act.put]) rfl HNC.out (by simp [Value.oneCell']) (by unfold maxLen;omega) (by omega) (by have:=Hs7.out;simp;omega) ?_
        intro oV8 w8 hown8 hg8 _ hv8
        obtain ⟨oA8,oc8,rfl,_,_,_⟩:=own_form hown8
        have far8:Far (fun j=>(Value.slice oA k oc).ownBlock=some j) w7 w8:=(Far.of_below _ ((qbr _ _).alloc (qr _) (.cells #[.bool (!(bv == ct))] 4))).trans (Far.of_grown hg8 fun i h=>h.symm) fun _ _ h=>h
        have HO8:Hid (w8.ownsRow w5.heap.size 4 1 (.slice oA8 (k+1) oc8) (k+1) (((List.range (k+1)).map fun k=>litHolds m ((chW ps v).on i k)).map .bool)):=qh (by rw [List.range_succ,List.map_append,List.map_append];simpa [HLT.out,bne] using hown8)
        have HMB8:=qh (far8.whole HMB7.out fun e=>by have:=(HO7.out.lt _ e).1;have:=HSW.out;omega)
        have HB8:Hid (Below wi.heap.size wi w8):=qh (HB7.out.trans (far8.below (B:=wi.heap.size) HB7.out.size fun j e=>by have:=(HO7.out.lt j e).1;have:=HSW.out;omega))
        have HBX9:=qh (HBI.out.trans (HB8.out.mono HBI.out.size))
        have Hs8:Hid (w5.heap.size<=w8.heap.size):=qh (qlt Hs7.out far8.size)
        clear hown8 hg8 hv8 far8 HNC p1 plt
        refine hK.out _ _ (HKEEP.out _ HBX9.out) (fun hHeld=>?_)
        clear hK K
        (try simp only [Act.put,qsa,qsz,qss])
        first|(refine tkA (v:=?_) held_at15 ?_ ?_;rotate_left;focus (intro _ h;(try dsimp only at h);go_simp;(try with_reducible rfl);done))|refine tkB held_at15 ?_
        (try simp only [Act.put,qsa,qsz,qss])
        refine wpAnyH_ready (rs:=[16]) (by kernel_rfl) (by simp) ?_
        refine AllReadyH.cons held_at16 (fun K hK=>?_) AllReadyH.nil
        have y1:=HMB8.out.cell 1
        have y1f:=HMB8.out.free 1
        have y1l:=HMB8.out.lt
        simp only [qgz,qgs] at y1
        have HB9:=qh (HB8.out.setCell (p:=⟨wi.heap.size+1,1,none⟩) (Nat.le_succ _) (.slice oA8 (k+1) oc8))
        have HBX10:=qh (HBI.out.trans (HB9.out.mono HBI.out.size))
        (try simp only [qsa,qsz,qss])
        go_simp
        refine hK.out _ _ (HKEEP.out _ HBX10.out) (fun hHeld=>?_)
        clear hK K
        (try simp only [Act.put,qsa,qsz,qss])
        clear y1 y1f
        refine wpAnyH_done (by kernel_rfl) ?_ _
        have HMB9:=qh (HMB8.out.set_ 1 (.slice oA8 (k+1) oc8))
        have HO9:=qh ((Far.set_ (D:=fun j=>j=wi.heap.size+1) rfl 1 (.slice oA8 (k+1) oc8)).own HO8.out fun g hg e=>by have:=(HO8.out.lt g hg).1;have:=HSW.out;omega)
        have Hs9:Hid (w5.heap.size<=(w8.setCell ⟨wi.heap.size+1,1,none⟩ (.slice oA8 (k+1) oc8)).heap.size):=qh (by simpa [World.setCell] using Hs8.out)
        go_wp2
        go_roundg (gk - 1)
        case measure=>have:=Hk.out;omega
        case rel=>exact ⟨k+1,oA8,oc8,qh (by have:=Hk.out;omega),by go_num,by (have:=HVR.out;congr 1;omega),HMB9,HO9,HB9,Hs9⟩
     obtain rfl:fn=k:=by have:=Hk.out;omega
     have HBOX:Hid (Below wo.heap.size wo wr):=qh (HB2.out.trans (HBr.out.mono HB2.out.size))
     have hmp:=HMP.out.keptW HBOX.out
     have hlk:=hmp.look Tryz.underlying3 Tryz.underlying4 (zeroBoolE _) Tryz.underlying120 (wf_of (x:=(i:Int)) (by omega) (by omega))
     have hta:=takK_all WP.out.ok (m:=m) hip
     rw [HLen.out] at hta
     rw [hta] at hlk
     have hsn1:sm+fn=n+flagsBef ps (i+1):=by have:=HSN.out;have:=HSM.out;omega
     rw [hsn1]
     clear hmp hta
     generalize hlh:litHolds m ((chW ps v).pick i)=lh at hlk
     have HLH:=qh hlh
     clear hlh
     have HG7:=qh (HG.out.move HBr.out)
     cases lh
     ·have HN:Hid (setTo (chW ps v) ps m (i+1)=setTo (chW ps v) ps m i):=qh (setTo_no HLH.out)
      go_wp2
      go_roundg (g3 - 1)
      case measure=>have:=Hi.out;omega
      case rel=>exact ⟨i+1,cs,qh (by have:=Hi.out;omega),rfl,by go_num,qh (by rw [HN.out];exact HG7.out),HBOX⟩
     have HN:Hid (setTo (chW ps v) ps m (i+1)=setTo (chW ps v) ps m i++[memM (chW ps v) ps m i]):=qh (setTo_yes HLH.out)
     obtain ⟨NL,hNL⟩:∃ x,x=(setTo (chW ps v) ps m i).length:=⟨_,rfl⟩
     have hown7:=HG7.out.own
     rw [<- hNL] at hown7
     obtain ⟨gA,gc,rfl,_,_,_⟩:=own_formK hown7
     have HOW7:=qh hown7
     have HNL:=qh hNL
     have hN8:NL<=8:=by have:=setTo_len (X:=chW ps v) (ps:=ps) (m:=m) (i:=i);omega
     obtain ⟨oA2,oc2,he,ho1,ho2,horow⟩:=own_formK HO3.out
     obtain ⟨rfl,rfl⟩:oA=oA2/\oc=oc2:=by injection he with h1 h2 h3;exact ⟨h1,h3⟩
     rw [Nat.mul_one] at horow
     have o0:=HMBr.out.cell 0;have o1:=HMBr.out.cell 1
     have olt:=HMBr.out.lt
     simp only [qgz,qgs] at o0 o1
     have hmem:memM (chW ps v) ps m i=⟨(i:Int),(List.range fn).map fun k=>litHolds m ((chW ps v).on i k)⟩:=by unfold memM;rw [<- HPK.out]
     have HMEM:=qh hmem
     have hbw:wo.heap.size<=wr.heap.size:=HBOX.out.size
     have HRM:Hid (RMem wr (fun k=>wo.heap.size<=k/\k<wr.heap.size/\(Value.slice gA NL gc).ownBlock≠some k) [.int .i64 (i:Int),.slice oA fn oc] (memM (chW ps v) ps m i)):=qh (by
      rw [hmem]
      refine ⟨oA,fn,oc,rfl,ho1,ho2,horow.more fun j hj=>?_⟩
      have h1:=HO3.out.lt j hj
      have h2:=HSW.out
      have h3:=HB2.out.size
      exact ⟨by omega,h1.2,fun e=>by have:=(HG.out.own.lt j e).2;omega⟩)
     have HCN:=qh (cells_newE wr wr.heap.size [.int .i64 (i:Int),.slice oA fn oc] 85 rfl)
     clear hown7 hNL he ho1 ho2 horow hmem
     go_wp2_with (at_builtin;refine wpList_append_own_at _ rfl _ _ 26 rfl wo.heap.size 85 j0 (.agg #[.int .i64 0,.slice none 0 0]) 2 32 Tryz.underlying26 Hj0.out Hy0.out Hy1.out Hy2.out rfl (by decide) _ _ _ rfl (HOW7.out.alloc _) ⟨wr.heap.size,0,none⟩ 1 1 [.int .i64 (i:Int),.slice oA fn oc] rfl rfl ?d1 ?d2 ?d3 ?d4 ?d5 ?_)
     try (case d1=>exact HCN.out)
     try (case d2=>simp [Value.oneCell'])
     try (case d3=>unfold maxLen;omega)
     try (case d4=>omega)
     try (case d5=>first | omega | (simp;omega))
     intro lv' w9 hown9 hg9 _ hat9
     have M9:=qh (HG7.out.push (x:=[.int .i64 (i:Int),.slice oA fn oc]) (a:=memM (chW ps v) ps m i) HRM.out rfl (by rw [<- HNL.out];simpa using hown9) hg9 (by simpa using hat9))
     have HB9:Hid (Below wo.heap.size wo w9):=qh (HBOX.out.trans (M9.out.2.below hbw fun j e=>(HG7.out.own.lt j e).1))
     clear hown9 hg9 hat9
     go_wp2
     go_roundg (g3 - 1)
     case measure=>have:=Hi.out;omega
     case rel=>exact ⟨i+1,_,qh (by have:=Hi.out;omega),rfl,by go_num,qh (by rw [HN.out];exact M9.out.1),HB9⟩
   obtain rfl:i=n:=by have:=Hi.out;omega
   have hlv:setOfM (chW ps v) ps m=setTo (chW ps v) ps m i:=by
    unfold setTo setOfM takenM
    rw [HLen.out]
   rw [<- hlv] at HG
   obtain ⟨gA,gc,rfl,_,_,_⟩:=own_formK HG.out.own
   have hset:=HG.out.set rfl
   have HF:Hid (RSetP ps v m w (.returned (.slice gA (setOfM (chW ps v) ps m).length gc)) wi):=qh ⟨gA,gc,rfl,hset.1.more fun k hk=>⟨qlt HB.out.size hk.1,hk.2⟩,hset.2.1,hset.2.2,HBI.out⟩
   clear hlv hset
   generalize (setOfM (chW ps v) ps m).length=LL at HF HG ⊢
   go_wp2
   go_ret
   exact HF.out
end Go.Proofs.YtedbhlgjcnnknaaGreatDoor

namespace Qm
open Go
def letters:List UInt8:=[97,98,99,100,101,102,103,104,105,106,107,108,109,110,111,112,113,114,115,116,117,118,119,120,121,122]
def alnum:List UInt8:=[97,98,99,100,101,102,103,104,105,106,107,108,109,110,111,112,113,114,115,116,117,118,119,120,121,122,48,49,50,51,52,53,54,55,56,57]
theorem byte_all {p:UInt8->Prop} (h:∀ n:Fin 256,p (UInt8.ofNat n.val)) (c:UInt8):p c:=by
 have h1:=h ⟨c.toNat,c.toNat_lt⟩
 simpa using h1
theorem letters_low (c:UInt8):decide (0<=Lib.indexByte letters c)=lowB c:=
 byte_all (p:=fun c=>decide (0<=Lib.indexByte letters c)=lowB c) (by decide +kernel) c
theorem alnum_mem (c:UInt8):alnum.contains c=(lowB c || digB c):=
 byte_all (p:=fun c=>alnum.contains c=(lowB c || digB c)) (by decide +kernel) c
theorem mem_dropWhile {α:Type} {p:α->Bool} {x:α} (hx:p x=false):∀ {l:List α},x∈l->x∈l.dropWhile p
 | [],h=>by cases h
 | y :: r,h=>by
  rw [List.dropWhile_cons]
  by_cases hy:p y=true
  ·rw [if_pos hy]
   rcases List.mem_cons.1 h with rfl | h
   ·rw [hx] at hy;cases hy
   exact mem_dropWhile hx h
  rw [if_neg hy];exact h
theorem dropWhile_all {α:Type} {p:α->Bool}:∀ {l:List α},(∀ x∈l,p x=true)->l.dropWhile p=[]
 | [],_=>rfl
 | y :: r,h=>by
  rw [List.dropWhile_cons,if_pos (h y (List.mem_cons_self ..))]
  exact dropWhile_all fun x hx=>h x (List.mem_cons_of_mem _ hx)
theorem trim_all {l cs:List UInt8} (h:∀ x∈l,cs.contains x=true):Lib.trimS l cs=[]:=by
 unfold Lib.trimS Lib.trimRightS
 rw [dropWhile_all fun x hx=>h x (List.mem_reverse.1 hx)]
 rfl
theorem trim_some {l cs:List UInt8} {x:UInt8} (hx:x∈l) (h:cs.contains x=false):Lib.trimS l cs≠[]:=by
 intro e
 have h1:x∈Lib.trimRightS l cs:=List.mem_reverse.2 (mem_dropWhile h (List.mem_reverse.2 hx))
 have h2:x∈Lib.trimS l cs:=mem_dropWhile h h1
 rw [e] at h2
 cases h2
theorem okFrom_iff:∀ {i:Nat} {l:List UInt8},0<i->(okFrom i l=true↔∀ x∈l,alnum.contains x=true)
 | _,[],_=>by simp [okFrom]
 | i,c :: r,h=>by
  have ih:=okFrom_iff (i:=i+1) (l:=r) (by omega)
  simp only [okFrom,okAt,Bool.and_eq_true,ih,List.forall_mem_cons]
  have:(lowB c || decide (0<i) && digB c)=alnum.contains c:=by
   rw [alnum_mem,decide_eq_true h,Bool.true_and]
  rw [this]
theorem isName_told {c:UInt8} {r:List UInt8} (h:(c :: r).length<=8):isName (c :: r)=(lowB c && (Lib.trimS (c :: r) alnum).isEmpty):=by
 unfold isName
 rw [decide_eq_true (by simp at h ⊢;omega),Bool.true_and]
 have e:okFrom 0 (c :: r)=(lowB c && okFrom 1 r):=by simp [okFrom,okAt]
 rw [e]
 cases hc:lowB c
 ·rfl
 rw [Bool.true_and,Bool.true_and]
 by_cases hr:okFrom 1 r=true
 ·rw [hr]
  have h1:=(okFrom_iff (by decide)).1 hr
  rw [trim_all]
  ·rfl
  intro x hx
  rcases List.mem_cons.1 hx with rfl | hx
  ·rw [alnum_mem,hc];rfl
  exact h1 x hx
 have h1:¬ ∀ x∈r,alnum.contains x=true:=fun h=>hr ((okFrom_iff (by decide)).2 h)
 have h2:okFrom 1 r=false:=by simpa using hr
 rw [h2]
 obtain ⟨x,hx,hn⟩:∃ x,x∈r/\alnum.contains x=false:=by
  apply Classical.byContradiction
  intro hno
  exact h1 fun x hx=>by
   cases hh:alnum.contains x
   ·exact absurd ⟨x,hx,hh⟩ hno
   rfl
 have:=trim_some (List.mem_cons_of_mem c hx) hn
 cases e:Lib.trimS (c :: r) alnum
 ·exact absurd e this
 rfl
end Qm

namespace Go.Proofs.YtedbhlgjcnnknaaGreatDoor
section
open Go.RowKit Qm
theorem bs_one {s:ByteArray} {c:UInt8} {r:List UInt8} (h:s.data.toList=c :: r):s.extract 0 1=⟨#[c]⟩:=by
 have e:(s.extract 0 1).data.toList=[c]:=by rw [Lib.extract_data,h];simp
 generalize s.extract 0 1=t at e
 obtain ⟨⟨l⟩⟩:=t
 simp at e
 subst e
 rfl
theorem rname_any (s:ByteArray) (w:World) (hs:s.size<=maxLen) :
  Calls Tryz.prog 89 #[.string s] w fun e w'=>e=.returned (.bool (isName s.data.toList))/\Below w.heap.size w w':=by
 unfold maxLen at hs
 have HSZ:=qh (Lib.size_eq s)
 by_cases h0:s.size=0
 ·have e0:decide ((0:Int)<(s.size:Int))=false:=qdf (by omega)
  go_enter Tryz.func89,Tryz.ntmps89
  go_wp2
  go_ret
  refine ⟨ret_bool ?_,qbr _ _⟩
  unfold isName
  rw [qdf (by have:=HSZ.out;omega)];rfl
 have e0:decide ((0:Int)<(s.size:Int))=true:=by simp;omega
 by_cases h8:8<s.size
 ·have e8:decide ((s.size:Int)<=8)=false:=by simp;omega
  go_enter Tryz.func89,Tryz.ntmps89
  go_wp2
  go_ret
  refine ⟨ret_bool ?_,qbr _ _⟩
  unfold isName
  rw [qdf (by have:=HSZ.out;omega)];rfl
 have e8:decide ((s.size:Int)<=8)=true:=by simp;omega
 obtain ⟨c,r,hcr⟩:∃ c r,s.data.toList=c :: r:=by
  cases e:s.data.toList with
  | nil=>have h:=HSZ.out;rw [e,List.length_nil] at h;omega
  | cons c r=>exact ⟨c,r,rfl⟩
 have htold:=isName_told (c:=c) (r:=r) (by have:=HSZ.out;rw [hcr] at this;omega)
 rw [<- hcr] at htold
 have HT:=qh htold;clear htold
 have hcon:=fun wx=>Tryz.strings_Contains_one ⟨letters.toArray⟩ c wx
 rw [show (⟨letters.toArray⟩:ByteArray).data.toList=letters from by simp,letters_low,<- bs_one hcr] at hcon
 have h1:(1:Int)<=(s.size:Int):=by omega
 cases hlow:lowB c
 ·rw [hlow] at hcon HT
  have HC:=qh hcon;clear hcon
  go_enter Tryz.func89,Tryz.ntmps89
  go_wp2_with (first | (go_at_call 116;refine (HC.out _).mono ?_;rintro e w1 ⟨rfl,rfl⟩;refine Hid.out ?_))
  refine qh ?_
  go_wp2
  go_ret
  exact ⟨ret_bool (by rw [HT.out];rfl),qbr _ _⟩
 rw [hlow,Bool.true_and] at HT
 rw [hlow] at hcon
 have HC:=qh hcon;clear hcon
 have htrim:∀ wx,Calls Tryz.prog 117 #[.string s,.string ⟨alnum.toArray⟩] wx fun e w'=>e=.returned (.string ⟨(Lib.trimS s.data.toList (⟨alnum.toArray⟩:ByteArray).data.toList).toArray⟩)/\∃ q,w'=((wx.alloc (.cells (Lib.setCells (⟨alnum.toArray⟩:ByteArray).data.toList) 190)).alloc (.cells (Lib.setCells (⟨alnum.toArray⟩:ByteArray).data.toList) 190)).drewN q:=fun wx=>Any.strings_Trim_set Tryz.lays160 (zero_of_info (P:=Tryz.prog) (t:=190) (v:=.agg (Array.replicate 256 (.bool false))) (n:=256) (by kernel_rfl)).1 (by kernel_rfl) s ⟨alnum.toArray⟩ wx (by decide) (by omega) (by omega) (by decide) (fun j b h=>by
  have hm:=List.mem_of_getElem? h
  revert hm
  rw [show (⟨alnum.toArray⟩:ByteArray).data.toList=alnum from by simp]
  intro hm
  exact (show ∀ b∈alnum,b.toNat<128 by decide) b hm)
 rw [show (⟨alnum.toArray⟩:ByteArray).data.toList=alnum from by simp] at htrim
 generalize Lib.trimS s.data.toList alnum=T at htrim HT
 have HTr:=qh htrim;clear htrim
 have hT:(⟨T.toArray⟩:ByteArray).toList.isEmpty=T.isEmpty:=by rw [Lib.toList_data]
 go_enter Tryz.func89,Tryz.ntmps89
 go_wp2_with (first
  | (go_at_call 116;refine (HC.out _).mono ?_;rintro e w1 ⟨rfl,rfl⟩;refine Hid.out ?_)
  | (go_at_call 117;refine (HTr.out _).mono ?_;rintro e w1 ⟨rfl,n,rfl⟩;refine Hid.out ?_))
 refine qh ?_
 go_wp2_with (first
  | (go_at_call 117;refine (HTr.out _).mono ?_;rintro e w1 ⟨rfl,n,rfl⟩;refine Hid.out ?_))
 refine qh ?_
 go_wp2
 go_ret
 exact ⟨ret_bool (by rw [HT.out]),below_drewN (((qbr _ _).alloc (qr _) _).alloc (by simp) _) n⟩
end
section
open Go.RowKit Qm
theorem rcheck_any (s f:ByteArray) (op ver slot:Int) (on:Bool) (w:World) (hs:s.size<=maxLen) (hf:f.size<=maxLen) :
  Calls Tryz.prog 93 #[atv s op ver slot f on] w fun e w'=>e=.returned (.int .i64 (ckAtom (atOf s op ver slot f on)))/\Below w.heap.size w w':=by
 unfold atv
 have ba:Below w.heap.size w (w.alloc (.cells #[.string s,.int .i64 op,.int .i64 ver,.int .i64 slot,.string f,.bool on] 75)):=(qbr _ w).alloc (qr _) _
 have Ba:=qh ba;clear ba
 cases hn:isName s.data.toList
 ·skip
  go_enter Tryz.func93,Tryz.ntmps93
  go_wp2_with (first
   | (go_at_call 89;refine (rname_any _ _ hs).mono ?_;rintro e w1 ⟨rfl,hb1⟩;have c0:=box_cell hb1 (i:=0) rfl;have c1:=box_cell hb1 (i:=1) rfl;have c2:=box_cell hb1 (i:=2) rfl;have c3:=box_cell hb1 (i:=3) rfl;have c4:=box_cell hb1 (i:=4) rfl;have c5:=box_cell hb1 (i:=5) rfl;refine Hid.out ?_))
  refine qh ?_
  have HB:=qh (Ba.out.trans (hb1.mono (by simp)))
  clear hb1
  go_wp2
  go_ret
  exact ⟨ret_int (ck1 (a:=atOf s op ver slot f on) (.inl hn)).symm,HB.out⟩
 by_cases h0:f.data.toList=[]
 ·obtain ⟨e1,e2⟩:=empty_spell h0
  go_enter Tryz.func93,Tryz.ntmps93
  go_wp2_with (first
   | (go_at_call 89;refine (rname_any _ _ hs).mono ?_;rintro e w1 ⟨rfl,hb1⟩;have c0:=box_cell hb1 (i:=0) rfl;have c1:=box_cell hb1 (i:=1) rfl;have c2:=box_cell hb1 (i:=2) rfl;have c3:=box_cell hb1 (i:=3) rfl;have c4:=box_cell hb1 (i:=4) rfl;have c5:=box_cell hb1 (i:=5) rfl;refine Hid.out ?_))
  refine qh ?_
  have HB:=qh (Ba.out.trans (hb1.mono (by simp)))
  clear hb1
  have H0:=qh h0
  have HG:=qh (show ¬ (isName (atOf s op ver slot f on).nm=false\/(atOf s op ver slot f on).fl≠[]/\isName (atOf s op ver slot f on).fl=false) by simp [atOf,hn,h0])
  clear h0
  by_cases o1:op<0
  ·
   go_wp2
   go_ret
   exact ⟨ret_int (ck3 (a:=atOf s _ _ slot f on) HG.out (by show _\/_;simp only [atOf];first | omega | exact .inr (.inl ⟨trivial,‹_›⟩))).symm,HB.out⟩
  have o1':decide (op<0)=false:=by simpa using o1
  by_cases o2:3<op
  ·
   go_wp2
   go_ret
   exact ⟨ret_int (ck3 (a:=atOf s _ _ slot f on) HG.out (by show _\/_;simp only [atOf];first | omega | exact .inr (.inl ⟨trivial,‹_›⟩))).symm,HB.out⟩
  have o2':decide (3<op)=false:=by simpa using o2
  by_cases s1:slot<0
  ·
   go_wp2
   go_ret
   exact ⟨ret_int (ck3 (a:=atOf s _ _ slot f on) HG.out (by show _\/_;simp only [atOf];first | omega | exact .inr (.inl ⟨trivial,‹_›⟩))).symm,HB.out⟩
  have s1':decide (slot<0)=false:=by simpa using s1
  by_cases s2:9<slot
  ·
   go_wp2
   go_ret
   exact ⟨ret_int (ck3 (a:=atOf s _ _ slot f on) HG.out (by show _\/_;simp only [atOf];first | omega | exact .inr (.inl ⟨trivial,‹_›⟩))).symm,HB.out⟩
  have s2':decide (9<slot)=false:=by simpa using s2
  by_cases z:op=0
  ·
   subst z
   by_cases v:ver=0
   ·
    subst v
    cases on
    ·
     go_wp2
     go_ret
     exact ⟨ret_int (by rw [ck4 (a:=atOf s _ _ slot f false) HG.out (by simp only [atOf];omega)];simp [atOf]),HB.out⟩
    ·
     go_wp2
     go_ret
     exact ⟨ret_int (by rw [ck4 (a:=atOf s _ _ slot f true) HG.out (by simp only [atOf];omega)];simp [atOf,H0.out]),HB.out⟩
   ·
    have v1:(ver == 0)=false:=by simpa using v
    have v2:(ver != 0)=true:=by simpa using v
    go_wp2
    go_ret
    exact ⟨ret_int (ck3 (a:=atOf s _ _ slot f on) HG.out (by show _\/_;simp only [atOf];first | omega | exact .inr (.inl ⟨trivial,‹_›⟩))).symm,HB.out⟩
  ·
   have z1:(op == 0)=false:=by simpa using z
   have z2:(op != 0)=true:=by simpa using z
   by_cases v1:ver<1
   ·
    go_wp2
    go_ret
    exact ⟨ret_int (ck3 (a:=atOf s _ _ slot f on) HG.out (by show _\/_;simp only [atOf];first | omega | exact .inr (.inl ⟨trivial,‹_›⟩))).symm,HB.out⟩
   have v1':decide (ver<1)=false:=by simpa using v1
   by_cases v2:99<ver
   ·
    go_wp2
    go_ret
    exact ⟨ret_int (ck3 (a:=atOf s _ _ slot f on) HG.out (by show _\/_;simp only [atOf];first | omega | exact .inr (.inl ⟨trivial,‹_›⟩))).symm,HB.out⟩
   have v2':decide (99<ver)=false:=by simpa using v2
   cases on
   ·
    go_wp2
    go_ret
    exact ⟨ret_int (by rw [ck4 (a:=atOf s _ _ slot f false) HG.out (by simp only [atOf];omega)];simp [atOf]),HB.out⟩
   ·
    go_wp2
    go_ret
    exact ⟨ret_int (by rw [ck4 (a:=atOf s _ _ slot f true) HG.out (by simp only [atOf];omega)];simp [atOf,H0.out]),HB.out⟩
 obtain ⟨e1,e2⟩:=full_spell h0
 cases hn2:isName f.data.toList
 ·skip
  go_enter Tryz.func93,Tryz.ntmps93
  go_wp2_with (first
   | (go_at_call 89;refine (rname_any _ _ hs).mono ?_;rintro e w1 ⟨rfl,hb1⟩;have c0:=box_cell hb1 (i:=0) rfl;have c1:=box_cell hb1 (i:=1) rfl;have c2:=box_cell hb1 (i:=2) rfl;have c3:=box_cell hb1 (i:=3) rfl;have c4:=box_cell hb1 (i:=4) rfl;have c5:=box_cell hb1 (i:=5) rfl;refine Hid.out ?_))
  refine qh ?_
  go_wp2_with (first
   | (go_at_call 89;refine (rname_any _ _ hf).mono ?_;rintro e w2 ⟨rfl,hb2⟩;replace c0:=(hb2.cell (World.block_lt_of_cell? _ _ c0)).trans c0;replace c1:=(hb2.cell (World.block_lt_of_cell? _ _ c1)).trans c1;replace c2:=(hb2.cell (World.block_lt_of_cell? _ _ c2)).trans c2;replace c3:=(hb2.cell (World.block_lt_of_cell? _ _ c3)).trans c3;replace c4:=(hb2.cell (World.block_lt_of_cell? _ _ c4)).trans c4;replace c5:=(hb2.cell (World.block_lt_of_cell? _ _ c5)).trans c5;refine Hid.out ?_))
  refine qh ?_
  have HB:=qh (Ba.out.trans ((hb1.mono (by simp)).trans (hb2.mono (qlt (by simp) hb1.size))))
  clear hb1 hb2
  go_wp2
  go_ret
  exact ⟨ret_int (ck1 (a:=atOf s op ver slot f on) (.inr ⟨h0,hn2⟩)).symm,HB.out⟩
 skip
 go_enter Tryz.func93,Tryz.ntmps93
 go_wp2_with (first
  | (go_at_call 89;refine (rname_any _ _ hs).mono ?_;rintro e w1 ⟨rfl,hb1⟩;have c0:=box_cell hb1 (i:=0) rfl;have c1:=box_cell hb1 (i:=1) rfl;have c2:=box_cell hb1 (i:=2) rfl;have c3:=box_cell hb1 (i:=3) rfl;have c4:=box_cell hb1 (i:=4) rfl;have c5:=box_cell hb1 (i:=5) rfl;refine Hid.out ?_))
 refine qh ?_
 go_wp2_with (first
  | (go_at_call 89;refine (rname_any _ _ hf).mono ?_;rintro e w2 ⟨rfl,hb2⟩;replace c0:=(hb2.cell (World.block_lt_of_cell? _ _ c0)).trans c0;replace c1:=(hb2.cell (World.block_lt_of_cell? _ _ c1)).trans c1;replace c2:=(hb2.cell (World.block_lt_of_cell? _ _ c2)).trans c2;replace c3:=(hb2.cell (World.block_lt_of_cell? _ _ c3)).trans c3;replace c4:=(hb2.cell (World.block_lt_of_cell? _ _ c4)).trans c4;replace c5:=(hb2.cell (World.block_lt_of_cell? _ _ c5)).trans c5;refine Hid.out ?_))
 refine qh ?_
 have HB:=qh (Ba.out.trans ((hb1.mono (by simp)).trans (hb2.mono (qlt (by simp) hb1.size))))
 clear hb1 hb2
 have H0:=qh h0
 have HG:=qh (show ¬ (isName (atOf s op ver slot f on).nm=false\/(atOf s op ver slot f on).fl≠[]/\isName (atOf s op ver slot f on).fl=false) by simp [atOf,hn,hn2])
 clear h0
 by_cases o1:op<0
 ·
  go_wp2
  go_ret
  exact ⟨ret_int (ck3 (a:=atOf s _ _ slot f on) HG.out (by show _\/_;simp only [atOf];first | omega | exact .inr (.inl ⟨trivial,‹_›⟩))).symm,HB.out⟩
 have o1':decide (op<0)=false:=by simpa using o1
 by_cases o2:3<op
 ·
  go_wp2
  go_ret
  exact ⟨ret_int (ck3 (a:=atOf s _ _ slot f on) HG.out (by show _\/_;simp only [atOf];first | omega | exact .inr (.inl ⟨trivial,‹_›⟩))).symm,HB.out⟩
 have o2':decide (3<op)=false:=by simpa using o2
 by_cases s1:slot<0
 ·
  go_wp2
  go_ret
  exact ⟨ret_int (ck3 (a:=atOf s _ _ slot f on) HG.out (by show _\/_;simp only [atOf];first | omega | exact .inr (.inl ⟨trivial,‹_›⟩))).symm,HB.out⟩
 have s1':decide (slot<0)=false:=by simpa using s1
 by_cases s2:9<slot
 ·
  go_wp2
  go_ret
  exact ⟨ret_int (ck3 (a:=atOf s _ _ slot f on) HG.out (by show _\/_;simp only [atOf];first | omega | exact .inr (.inl ⟨trivial,‹_›⟩))).symm,HB.out⟩
 have s2':decide (9<slot)=false:=by simpa using s2
 by_cases z:op=0
 ·
  subst z
  by_cases v:ver=0
  ·
   subst v
   cases on
   ·
    go_wp2
    go_ret
    exact ⟨ret_int (by rw [ck4 (a:=atOf s _ _ slot f _) HG.out (by simp only [atOf];omega)];simp [atOf,H0.out]),HB.out⟩
   ·
    go_wp2
    go_ret
    exact ⟨ret_int (by rw [ck4 (a:=atOf s _ _ slot f _) HG.out (by simp only [atOf];omega)];simp [atOf,H0.out]),HB.out⟩
  ·
   have v1:(ver == 0)=false:=by simpa using v
   have v2:(ver != 0)=true:=by simpa using v
   go_wp2
   go_ret
   exact ⟨ret_int (ck3 (a:=atOf s _ _ slot f on) HG.out (by show _\/_;simp only [atOf];first | omega | exact .inr (.inl ⟨trivial,‹_›⟩))).symm,HB.out⟩
 ·
  have z1:(op == 0)=false:=by simpa using z
  have z2:(op != 0)=true:=by simpa using z
  by_cases v1:ver<1
  ·
   go_wp2
   go_ret
   exact ⟨ret_int (ck3 (a:=atOf s _ _ slot f on) HG.out (by show _\/_;simp only [atOf];first | omega | exact .inr (.inl ⟨trivial,‹_›⟩))).symm,HB.out⟩
  have v1':decide (ver<1)=false:=by simpa using v1
  by_cases v2:99<ver
  ·
   go_wp2
   go_ret
   exact ⟨ret_int (ck3 (a:=atOf s _ _ slot f on) HG.out (by show _\/_;simp only [atOf];first | omega | exact .inr (.inl ⟨trivial,‹_›⟩))).symm,HB.out⟩
  have v2':decide (99<ver)=false:=by simpa using v2
  cases on
  ·
   go_wp2
   go_ret
   exact ⟨ret_int (by rw [ck4 (a:=atOf s _ _ slot f _) HG.out (by simp only [atOf];omega)];simp [atOf,H0.out]),HB.out⟩
  ·
   go_wp2
   go_ret
   exact ⟨ret_int (by rw [ck4 (a:=atOf s _ _ slot f _) HG.out (by simp only [atOf];omega)];simp [atOf,H0.out]),HB.out⟩
end
end Go.Proofs.YtedbhlgjcnnknaaGreatDoor
