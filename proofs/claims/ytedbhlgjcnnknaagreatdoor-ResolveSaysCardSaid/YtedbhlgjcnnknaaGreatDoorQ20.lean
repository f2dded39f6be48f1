/- Parts. -/
import Derived.Test.YtedbhlgjcnnknaaGreatDoorQ19
import Derived.Test.YtedbhlgjcnnknaaGreatDoorQ7
set_option linter.unusedVariables false
set_option linter.unusedSimpArgs false
set_option linter.unusedSectionVars false
set_option maxRecDepth 100000
set_option maxHeartbeats 12800000
namespace Go.Proofs.YtedbhlgjcnnknaaGreatDoor
section
open Go.RowKit Qm
def setE (ps:List Pk) (v:Ws) (m:List Bool):Int:=if ckWish ps v≠0 then ckWish ps v else if m.length<manyC ps\/400<m.length then 4 else 0
def setV (ps:List Pk) (v:Ws) (m:List Bool):List Mem:=if setE ps v m=0 then setOfM (chW ps v) ps m else []
def SetP (ps:List Pk) (v:Ws) (m:List Bool) (w:World) (e:Ending) (w':World):Prop:=
 ∃ A c,e=.returned (.tuple #[.slice A (setV ps v m).length c,.int .i64 (setE ps v m)])/\RSet w' (fun k=>w.heap.size<=k/\k<w'.heap.size) A (setV ps v m).length (setV ps v m)/\(setV ps v m).length<=c/\c<=maxLen/\Below w.heap.size w w'
theorem SetP.err {ps:List Pk} {v:Ws} {m:List Bool} {w w':World} {z:Int} (hz:z≠0) (he:setE ps v m=z) (hb:Below w.heap.size w w'):SetP ps v m w (.returned (.tuple #[.slice none 0 0,.int .i64 z])) w':=by
 have hl:setV ps v m=[]:=by unfold setV;rw [if_neg (by rw [he];exact hz)]
 exact ⟨none,0,by rw [hl,he];rfl,by rw [hl];exact RSet.nil_,by rw [hl];exact qr _,Nat.zero_le _,hb⟩
def setTo (X:Chs) (ps:List Pk) (m:List Bool) (i:Nat):List Mem:=((List.range i).filter fun i=>litHolds m (X.pick i)).map (memM X ps m)
theorem setTo_yes {X:Chs} {ps:List Pk} {m:List Bool} {i:Nat} (h:litHolds m (X.pick i)=true):setTo X ps m (i+1)=setTo X ps m i++[memM X ps m i]:=by
 unfold setTo;rw [List.range_succ,List.filter_append,List.map_append];simp [h]
theorem setTo_no {X:Chs} {ps:List Pk} {m:List Bool} {i:Nat} (h:litHolds m (X.pick i)=false):setTo X ps m (i+1)=setTo X ps m i:=by
 unfold setTo;rw [List.range_succ,List.filter_append,List.map_append];simp [h]
theorem setTo_len {X:Chs} {ps:List Pk} {m:List Bool} {i:Nat}:(setTo X ps m i).length<=i:=by
 unfold setTo;rw [List.length_map];exact qlt (List.length_filter_le _ _) (by simp)
theorem cells_newE (w:World) (b:Nat) (vs:List Value) (t:TypeId) (hb:b=w.heap.size):∀ j u,vs[j]? = some u->(w.alloc (.cells vs.toArray t)).cell? ((⟨b,0,none⟩:Addr).add j)=some u:=by
 intro j u hj
 have h:=Whole.new w b t vs hb
 have hadd:(⟨b,0,none⟩:Addr).add j=⟨b,0+j,none⟩:=by unfold Addr.add;split <;> simp_all
 rw [hadd,Nat.zero_add,h.cell j,hj]
theorem bool_infoE:(Tryz.prog.info? 4).map (fun i=>(i.zero,i.size,i.bytes))=some (some (.bool false),1,1):=by kernel_rfl
theorem mem_infoE:(Tryz.prog.info? 85).map (fun i=>(i.zero,i.size,i.bytes))=some (some (.agg #[.int .i64 0,.slice none 0 0]),2,32):=by kernel_rfl
structure Sb (w:World) (A:Option Addr) (n c:Nat) (wv:List Value) (mv:Value) (wx:World):Prop where
 t:Whole wx w.heap.size 24 [.slice A n c]
 wi:Whole wx (w.heap.size+1) 30 wv
 m:Whole wx (w.heap.size+1+1) 40 [mv]
 bel:Below w.heap.size w wx
section
variable {w : World} {A : Option Addr} {n c : Nat} {wv : List Value} {mv : Value} {wx wy : World}
theorem Sb.below {B:Nat} (h:Sb w A n c wv mv wx) (hb:Below B wx wy) (hB:w.heap.size+1+1<B):Sb w A n c wv mv wy:=
 ⟨h.t.below hb (by omega),h.wi.below hb (by omega),h.m.below hb hB,h.bel.trans (hb.mono (by omega))⟩
theorem Sb.move (h:Sb w A n c wv mv wx) (hb:Below wx.heap.size wx wy):Sb w A n c wv mv wy:=h.below hb h.m.lt
theorem Sb.new (w:World) (A:Option Addr) (n c:Nat) (wv:List Value) (mv:Value):Sb w A n c wv mv (((w.alloc (.cells #[.slice A n c] 24)).alloc (.cells wv.toArray 30)).alloc (.cells #[mv] 40)):=
 ⟨((Whole.new w _ _ [_] rfl).alloc _).alloc _,(Whole.new (w.alloc (.cells #[.slice A n c] 24)) (w.heap.size+1) _ wv (by simp)).alloc _,Whole.new ((w.alloc (.cells #[.slice A n c] 24)).alloc (.cells wv.toArray 30)) (w.heap.size+1+1) _ [_] (by simp),
  (((qbr _ w).alloc (qr _) _).alloc (by simp) _).alloc (by simp;omega) _⟩
end
theorem eset_any (ps:List Pk) (v:Ws) (m:List Bool) (S:Nat->Prop) (A M:Option Addr) (n c mn mc:Nat) (A1 A2 A3 A4:Option Addr) (n1 c1 n2 c2 n3 c3 n4 c4:Nat) (w:World) (hT:RTree w S A n ps) (hnc:n<=c) (hc:c<=maxLen) (hV:WsAt w S A1 n1 c1 A2 n2 c2 A3 n3 c3 A4 n4 c4 v) (hM:RBools w S M mn m) (hmc:mn<=mc) (hm:mc<=maxLen) (hS:∀ k,S k->k<w.heap.size) :
  Calls Tryz.prog 15 #[.agg #[.slice A n c],.agg #[.slice A1 n1 c1,.slice A2 n2 c2,.slice A3 n3 c3,.slice A4 n4 c4],.slice M mn mc] w (SetP ps v m w):=by
 have X0:=qh (Sb.new w A n c [.slice A1 n1 c1,.slice A2 n2 c2,.slice A3 n3 c3,.slice A4 n4 c4] (.slice M mn mc))
 have HT:=qh hT;have HS:=qh hS;have HW:=qh hV;have HM:=qh hM
 have HML:=qh hM.len
 have HCC:=qh (And.intro hnc hc)
 have Hlt:=qh (fun (wx:World) (hb:Below w.heap.size w wx) k hk=>ql (HS.out k hk) hb.size)
 have Hcw:=qh (cwish_any ps v S A n c A1 A2 A3 A4 n1 c1 n2 c2 n3 c3 n4 c4 _ (HT.out.under X0.out.bel HS.out) hnc hc (HW.out.under X0.out.bel HS.out) (Hlt.out _ X0.out.bel))
 have Hch:=qh (fun (wx:World) (hb:Below w.heap.size w wx)=>choices_any ps v S A n c A1 n1 c1 A2 n2 c2 A3 n3 c3 A4 n4 c4 wx (HT.out.under hb HS.out) hnc hc (HW.out.under hb HS.out) (Hlt.out _ hb))
 unfold maxLen at hc hm
 clear hT hV hS hM
 obtain ⟨z,hz⟩:∃ z,z=ckWish ps v:=⟨_,rfl⟩
 rw [<- hz] at Hcw
 have HZ:=qh hz
 clear hz
 go_enter Tryz.func15,Tryz.ntmps15
 go_wp2_with (first | (go_at_call 34;refine Hcw.out.mono ?_;rintro e w2 ⟨rfl,hb2⟩;refine Hid.out ?_))
 refine qh ?_
 have X2:=qh (X0.out.move hb2)
 clear hb2 Hcw X0
 by_cases h0:z=0
 ·subst h0
  have HC2:=qh (Hch.out _ X2.out.bel HZ.out.symm)
  have t0:=X2.out.t.cell 0
  obtain ⟨v0,v1,v2,v3⟩:=ch4 X2.out.wi.cell
  have wlt:=X2.out.wi.lt
  have tlt:=X2.out.t.lt
  simp only [qgz,qgs] at t0 v0 v1 v2 v3
  go_wp2_with (first | (go_at_call 44;refine HC2.out.mono ?_;rintro e w3 ⟨q,hq1,hq2,hq3,hq4,hq5,hq6,hq7,rfl,hd3,hb3⟩;refine Hid.out ?_))
  refine qh ?_
  subst hq3 hq5
  have HX:=qh hq6
  have X3:=qh (X2.out.move hb3)
  have HD3:=qh hd3
  have HLen:=qh hd3.len
  have WP:=qh (wish_parts HZ.out.symm)
  have m0:=X3.out.m.cell 0
  have mlt:=X3.out.m.lt
  have hmany:manyC q.ps<=14:=(tree_parts WP.out.tree).2.1
  have hmc2:(mn:Int)<=9223372036854775807:=by omega
  obtain ⟨P,hs,HK⟩:=HD3.out
  have d3:=HK.blk.cell 3
  have dlt:=HK.blk.lt
  simp only [qgz,qgs] at m0 d3
  obtain ⟨MC,hMC⟩:∃ x,x=manyC q.ps:=⟨_,rfl⟩
  rw [<- hMC] at d3 hmany
  have HMC:=qh hMC
  clear hd3 hb3 hq1 hq2 hq4 hq6 hq7 HC2 t0 v0 v1 v2 v3 wlt tlt X2 HK hMC Hch
  by_cases h1:mn<MC
  ·have HE:Hid (setE q.ps v m=4):=qh (by unfold setE;rw [if_neg (by rw [<- HZ.out];simp),if_pos (.inl (by rw [HML.out,<- HMC.out];exact h1))])
   have h1d:decide ((mn:Int)<(MC:Int))=true:=qdt (by omega)
   go_wp2
   go_quiet (fail)
   rename_i nq
   have XZ:=qh (X3.out.move (below_drewN (qbr _ w3) nq))
   go_wp2
   go_ret2
   exact SetP.err (by decide) HE.out XZ.out.bel
  have h1d:decide ((mn:Int)<(MC:Int))=false:=qdf (by omega)
  by_cases h2:400<mn
  ·have HE:Hid (setE q.ps v m=4):=qh (by unfold setE;rw [if_neg (by rw [<- HZ.out];simp),if_pos (.inr (by rw [HML.out];exact h2))])
   have h2d:decide ((400:Int)<(mn:Int))=true:=qdt (by omega)
   go_wp2
   go_quiet (fail)
   rename_i nq
   have XZ:=qh (X3.out.move (below_drewN (qbr _ w3) nq))
   go_wp2
   go_ret2
   exact SetP.err (by decide) HE.out XZ.out.bel
  have h2d:decide ((400:Int)<(mn:Int))=false:=qdf (by omega)
  go_wp2
  go_quiet (fail)
  rename_i nq
  have hbq:=below_drewN (qbr w3.heap.size w3) nq
  have X4:=qh (X3.out.move hbq)
  have HD4:=qh (HD3.out.move hbq)
  have henter:∀ (args:Array Value) (W:World),(callFunc 52 args).run Tryz.prog W=.ok (.enter 52 args) W:=fun args W=>by kernel_rfl
  have HDI:Hid (DIn q.X q.ps ⟨MC,[],fun _ _=>0⟩):=qh (by rw [HMC.out,HX.out];exact DIn.start WP.out.ok)
  have HNZ:Hid (∀ i k,i<q.ps.length->k<(pkOf q.ps i).fs.length->q.X.on i k≠0):=qh (fun i k hi hk=>by rw [HX.out];exact ((chW_ok WP.out.ok).on i hi k hk).1)
  have HNP:Hid (∀ i,i<q.ps.length->q.X.pick i≠0):=qh (fun i hi=>by rw [HX.out];exact ((chW_ok WP.out.ok).pick i hi).1)
  have hml:MC<=mn:=by omega
  have HLm:=qh hml
  have H12:Hid (¬ mn<MC/\¬ 400<mn):=qh ⟨h1,h2⟩
  clear d3 dlt m0 mlt h1 h2 h1d h2d hbq hml
  generalize w3.drewN nq=w4 at X4 HD4 ⊢
  clear X3 HD3
  have t0:=X4.out.t.cell 0
  have tlt:=X4.out.t.lt
  simp only [qgz] at t0
  obtain ⟨b0,hb0⟩:∃ x,x=w4.heap.size:=⟨_,rfl⟩
  have HB0:=qh hb0
  have h8:q.n<=8:=by rw [<- HLen.out];exact (tree_parts WP.out.tree).1
  clear hb0
  go_wp2
  go_loopg [11,42] q.n (fun g lv iv wr=>∃ (i:Nat) (cs:List (List Value)),Hid (i+g=q.n)/\iv=.int .i64 i/\Hid (Mg w4.heap.size lv cs (setTo q.X q.ps m i) wr)/\Hid (Below w4.heap.size w4 wr))
  case atStart=>exact ⟨0,[],qh (Nat.zero_add _),rfl,qh Mg.nil_,qh (qbr _ _)⟩
  case round =>
   obtain ⟨g3,rfl⟩:∃ x:Nat,x=gk:=⟨_,rfl⟩
   obtain ⟨wo,rfl⟩:∃ x:World,x=wr:=⟨_,rfl⟩
   obtain ⟨i,cs,Hi,rfl,HG,HB⟩:=hrel
   clear t0 tlt
   have X5:=qh (X4.out.move HB.out)
   have HD5:=qh (HD4.out.move HB.out)
   by_cases hi:i<q.n
   ·have hip:i<q.ps.length:=by rw [HLen.out];exact hi
    obtain ⟨pA,pO,hpA⟩:=HD5.out.pA (by omega)
    obtain ⟨c1,c2,c3,c4⟩:=HD5.out.pk hpA hi
    have hpn:=HNP.out i hip
    have hpi:=HDI.out.pick i hip
    dsimp only at hpi
    have m0:=X5.out.m.cell 0
    have mlt:=X5.out.m.lt
    simp only [qgz] at m0
    have hml:=HLm.out
    have Hh:=qh (setHolds_any (q.X.pick i) (w.heap.size+1+1) M mn mc m S wo m0 (HM.out.below X5.out.bel HS.out) hpn (by omega) (by omega))
    obtain ⟨x,hx⟩:∃ x,x=q.X.pick i:=⟨_,rfl⟩
    have HXI:=qh hx
    rw [<- hx] at c2 Hh hpi
    have hxb : -200000<=x/\x<=200000:=by omega
    have hi1:(i:Int)<q.n:=by omega
    have hi0:(0:Int)<=(i:Int):=by omega
    clear hpA hpn hpi hml hx
    generalize hlh:litHolds m x=lh at Hh
    have HLH:=qh hlh
    clear hlh
    cases lh
    ·have HN:Hid (setTo q.X q.ps m (i+1)=setTo q.X q.ps m i):=qh (setTo_no (by rw [<- HXI.out];exact HLH.out))
     go_wp2_with (first | (go_at_call 52;refine Hh.out.mono ?_;rintro e w6 ⟨rfl,hw6⟩;have hw7:=hw6.symm;subst hw7;refine Hid.out ?_))
     refine qh ?_
     go_wp2
     go_roundg (g3 - 1)
     case measure=>have:=Hi.out;omega
     case rel=>exact ⟨i+1,cs,qh (by have:=Hi.out;omega),by go_num,qh (by rw [HN.out];exact HG.out),HB⟩
    have HN:Hid (setTo q.X q.ps m (i+1)=setTo q.X q.ps m i++[memM q.X q.ps m i]):=qh (setTo_yes (by rw [<- HXI.out];exact HLH.out))
    go_wp2_with (first | (go_at_call 52;refine Hh.out.mono ?_;rintro e w6 ⟨rfl,hw6⟩;have hw7:=hw6.symm;subst hw7;refine Hid.out ?_))
    refine qh ?_
    have hal:Below wo.heap.size wo (wo.alloc (.cells #[.int .i64 (i:Int),.slice none 0 0] 85)):=(qbr _ wo).alloc (qr _) _
    have HMB:=qh (Whole.new wo wo.heap.size 85 [.int .i64 (i:Int),.slice none 0 0] rfl)
    have HAL:=qh hal
    have HSW:Hid (wo.heap.size<(wo.alloc (.cells #[.int .i64 (i:Int),.slice none 0 0] 85)).heap.size):=qh (by simp)
    obtain ⟨P5,hs5,hK5⟩:=HD5.out
    have d2:=hK5.blk.cell 2
    have dlt:=hK5.blk.lt
    simp only [qgz,qgs] at d2
    obtain ⟨b4,o4,A5,n5,c5,hoA,hbS4,hoc,hor,hn5,hc5⟩:=hK5.st.ons.at_ hi
    have hox:(onsX q.X q.ps).getD i []=(List.range (pkOf q.ps i).fs.length).map (q.X.on i):=by
     unfold onsX
     rw [qgd,qgm,List.getElem?_range hip];rfl
    rw [hox] at hor
    have hn5l:=hor.len
    simp only [List.length_map,List.length_range] at hn5l
    rw [hoA] at d2
    have hb4:b4<wo.heap.size:=(hK5.s1 _ hbS4).2.1
    have HOR:=qh hor
    have HS1:=qh (fun k hk=>(hK5.s1 k hk).2.1)
    have HN5:=qh hn5l
    have hn14:n5<=14:=by
     have h:=flagsBef_mono (ps:=q.ps) (i:=i+1) (j:=q.ps.length) (by omega)
     have h2:=(tree_parts WP.out.tree).2.1
     unfold manyC at h2
     simp only [flagsBef] at h
     omega
    have hoc5:q.n<=q.oc:=hK5.caps.2.2.1
    obtain ⟨i0,hi0,hz0,hz1,hz2⟩:=info_parts bool_infoE
    have Hi0:=qh hi0;have Hz0:=qh hz0;have Hz1:=qh hz1;have Hz2:=qh hz2
    obtain ⟨j0,hj0,hy0,hy1,hy2⟩:=info_parts mem_infoE
    have Hj0:=qh hj0;have Hy0:=qh hy0;have Hy1:=qh hy1;have Hy2:=qh hy2
    clear hal hK5 hoA hbS4 hor hn5 hc5 hox hn5l hi0 hz0 hz1 hz2 hj0 hy0 hy1 hy2 c1 c2 c3 c4 m0 mlt Hh
    go_wp2
    generalize wo.alloc (.cells #[.int .i64 (i:Int),.slice none 0 0] 85)=w5 at HMB HAL HSW ⊢
    clear d2 dlt hoc hb4
    go_loopg [65] n5 (fun g iv wr=>∃ (k:Nat) (oA:Option Addr) (oc:Nat),Hid (k+g=n5)/\iv=.int .i64 k/\Hid (Whole wr wo.heap.size 85 [.int .i64 (i:Int),.slice oA k oc])/\Hid (wr.ownsRow w5.heap.size 4 1 (.slice oA k oc) k (((List.range k).map fun k=>litHolds m (q.X.on i k)).map .bool))/\Hid (Below wo.heap.size wo wr)/\Hid (w5.heap.size<=wr.heap.size))
    case atStart=>exact ⟨0,none,0,qh (Nat.zero_add _),rfl,HMB,qh (World.ownsRow_nil _ _ _ _),HAL,qh (qr _)⟩
    case round =>
     obtain ⟨k,oA,oc,Hk,rfl,HMBr,HO,HBr,Hsz⟩:=hrel
     clear HMB HAL
     have X7:=qh (X5.out.move HBr.out)
     by_cases hk:k<n5
     ·obtain ⟨b6,o6,rfl,hbS6,hfc⟩:=(HOR.out.below HBr.out HS1.out).at_ hk
      have hkl:k<(pkOf q.ps i).fs.length:=by have:=HN5.out;omega
      have hfx:((List.range (pkOf q.ps i).fs.length).map (q.X.on i)).getD k 0=q.X.on i k:=getD_range hkl
      rw [hfx] at hfc
      have hb6:b6<wr.heap.size:=ql (HS1.out _ hbS6) HBr.out.size
      have hob:=HDI.out.on i k hip hkl
      dsimp only at hob
      have m0:=X7.out.m.cell 0
      simp only [qgz] at m0
      have hml:=HLm.out
      have Hh2:=qh (setHolds_any (q.X.on i k) (w.heap.size+1+1) M mn mc m S wr.drew m0 (HM.out.below (below_drewN X7.out.bel 1) HS.out) (HNZ.out i k hip hkl) (by omega) (by omega))
      obtain ⟨x2,hx2⟩:∃ x,x=q.X.on i k:=⟨_,rfl⟩
      obtain ⟨lv2,hlv2⟩:∃ y,y=litHolds m (q.X.on i k):=⟨_,rfl⟩
      rw [<- hlv2] at Hh2
      rw [<- hx2] at hfc Hh2 hob
      have HL2:Hid (litHolds m (q.X.on i k)=lv2):=qh hlv2.symm
      have hx2b : -200000<=x2/\x2<=200000:=by omega
      have HOD:Hid (wr.drew.ownsRow w5.heap.size 4 1 (.slice oA k oc) k (((List.range k).map fun k=>litHolds m (q.X.on i k)).map .bool)):=HO
      have o1:=HMBr.out.cell 1
      have olt:=HMBr.out.lt
      simp only [qgz,qgs] at o1
      have hk14:k<=14:=by omega
      have hkn:(k:Int)<n5:=by omega
      have hk0:(0:Int)<=(k:Int):=by omega
      clear hbS6 hkl hfx hob m0 hml hx2 hlv2
      go_upto_region 17 with fail
      refine wp_region_held_drew (S:=(fun _=>True)) (by kernel_rfl) True.intro (fun hHeld=>?_)
      first|(refine tkA (v:=?_) held_at0 ?_ ?_;rotate_left;focus (intro _ h;(try dsimp only at h);go_simp;(try with_reducible rfl);done))|refine tkB held_at0 ?_
      (try simp only [Act.put,qsa,qsz,qss])
      first|(refine tkA (v:=?_) held_at2 ?_ ?_;rotate_left;focus (intro _ h;(try dsimp only at h);go_simp;(try with_reducible rfl);done))|refine tkB held_at2 ?_
      (try simp only [Act.put,qsa,qsz,qss])
      first|(refine tkA (v:=?_) held_at3 ?_ ?_;rotate_left;focus (intro _ h;(try dsimp only at h);go_simp;(try with_reducible rfl);done))|refine tkB held_at3 ?_
      (try simp only [Act.put,qsa,qsz,qss])
      refine wpAnyH_ready (rs:=[1,4]) (by kernel_rfl) (by simp) ?_
      refine AllReadyH.cons held_at1 (fun K hK=>?_) (AllReadyH.cons held_at4 (fun K hK=>?_) AllReadyH.nil)
      ·
       (try simp only [qsa,qsz,qss])
       go_simp
       refine hK.out _ _ True.intro (fun hHeld=>?_)
       clear hK K
       (try simp only [Act.put,qsa,qsz,qss])
       refine wpAnyH_ready (rs:=[4]) (by kernel_rfl) (by simp) ?_
       refine AllReadyH.cons held_at4 (fun K hK=>?_) AllReadyH.nil
       (try simp only [qsa,qsz,qss])
       go_simp
       go_at_call 52
       refine Hh2.out.mono ?_
       rintro e w7 ⟨rfl,hw7⟩
       have hw8:=hw7.symm
       subst hw8
       refine hK.out _ _ True.intro (fun hHeld=>?_)
       clear hK K
       (try simp only [Act.put,qsa,qsz,qss])
       refine wpAnyH_ready (rs:=[5]) (by kernel_rfl) (by simp) ?_
       refine AllReadyH.cons held_at5 (fun K hK=>?_) AllReadyH.nil
       (try simp only [qsa,qsz,qss])
       go_simp
       refine hK.out _ _ True.intro (fun hHeld=>?_)
       clear hK K
       (try simp only [Act.put,qsa,qsz,qss])
       refine wpAnyH_ready (rs:=[6]) (by kernel_rfl) (by simp) ?_
       refine AllReadyH.cons held_at6 (fun K hK=>?_) AllReadyH.nil
       have HNC:=qh (cell_one_new wr.drew (.bool lv2) 4)
       refine step_append_ownE rfl (.tmp 70) (.tmp 74) 40 rfl w5.heap.size 4 i0 (.bool false) 1 1 Tryz.underlying40 Hi0.out Hz0.out Hz1.out Hz2.out rfl (by decide) (.slice oA k oc) k (((List.range k).map fun k=>litHolds m (q.X.on i k)).map .bool) (by simp [Act.eval,Act.put]) (HOD.out.alloc _) ⟨wr.heap.size,0,none⟩ 1 1 [.bool lv2] (by simp [Act.eval,Act.put]) rfl HNC.out (by simp [Value.oneCell']) (by unfold maxLen;omega) (by omega) (by have:=Hsz.out;simp;omega) ?_
       intro oV8 w8 hown8 hg8 _ hv8
       obtain ⟨oA8,oc8,rfl,_,_,_⟩:=own_form hown8
       have far8:Far (fun j=>(Value.slice oA k oc).ownBlock=some j) wr.drew w8:=(Far.of_below _ ((qbr _ _).alloc (qr _) (.cells #[.bool lv2] 4))).trans (Far.of_grown hg8 fun i h=>h.symm) fun _ _ h=>h
       have HO8:Hid (w8.ownsRow w5.heap.size 4 1 (.slice oA8 (k+1) oc8) (k+1) (((List.range (k+1)).map fun k=>litHolds m (q.X.on i k)).map .bool)):=qh (by rw [List.range_succ,List.map_append,List.map_append];simpa [HL2.out] using hown8)
       have HMB8:=qh (far8.whole HMBr.out.drew fun e=>by have:=(HO.out.lt _ e).1;have:=HSW.out;omega)
       have HB8:Hid (Below wo.heap.size wo w8):=qh ((below_drewN HBr.out 1).trans (far8.below (B:=wo.heap.size) HBr.out.size fun j e=>by have:=(HO.out.lt j e).1;have:=HSW.out;omega))
       have Hs8:Hid (w5.heap.size<=w8.heap.size):=qh (qlt Hsz.out far8.size)
       clear hown8 hg8 hv8 far8 HNC
       refine hK.out _ _ True.intro (fun hHeld=>?_)
       clear hK K
       (try simp only [Act.put,qsa,qsz,qss])
       first|(refine tkA (v:=?_) held_at7 ?_ ?_;rotate_left;focus (intro _ h;(try dsimp only at h);go_simp;(try with_reducible rfl);done))|refine tkB held_at7 ?_
       (try simp only [Act.put,qsa,qsz,qss])
       refine wpAnyH_ready (rs:=[8]) (by kernel_rfl) (by simp) ?_
       refine AllReadyH.cons held_at8 (fun K hK=>?_) AllReadyH.nil
       have y1:=HMB8.out.cell 1
       have y1f:=HMB8.out.free 1
       have y1l:=HMB8.out.lt
       simp only [qgz,qgs] at y1
       (try simp only [qsa,qsz,qss])
       go_simp
       refine hK.out _ _ True.intro (fun hHeld=>?_)
       clear hK K y1 y1f
       (try simp only [Act.put,qsa,qsz,qss])
       refine wpAnyH_done (by kernel_rfl) ?_ _
       have HMB9:=qh (HMB8.out.set_ 1 (.slice oA8 (k+1) oc8))
       have HO9:=qh ((Far.set_ (D:=fun j=>j=wo.heap.size) rfl 1 (.slice oA8 (k+1) oc8)).own HO8.out fun g hg e=>by have:=(HO8.out.lt g hg).1;have:=HSW.out;omega)
       have HB9:=qh (HB8.out.setCell (p:=⟨wo.heap.size,1,none⟩) (qr _) (.slice oA8 (k+1) oc8))
       have Hs9:Hid (w5.heap.size<=(w8.setCell ⟨wo.heap.size,1,none⟩ (.slice oA8 (k+1) oc8)).heap.size):=qh (by simpa [World.setCell] using Hs8.out)
       go_wp2
       go_roundg (gk - 1)
       case measure=>have:=Hk.out;omega
       case rel=>exact ⟨k+1,oA8,oc8,qh (by have:=Hk.out;omega),by go_num,HMB9,HO9,HB9,Hs9⟩
      ·
       (try simp only [qsa,qsz,qss])
       go_simp
       go_at_call 52
       refine Hh2.out.mono ?_
       rintro e w7 ⟨rfl,hw7⟩
       have hw8:=hw7.symm
       subst hw8
       refine hK.out _ _ True.intro (fun hHeld=>?_)
       clear hK K
       (try simp only [Act.put,qsa,qsz,qss])
       refine wpAnyH_ready (rs:=[1,5]) (by kernel_rfl) (by simp) ?_
       refine AllReadyH.cons held_at1 (fun K hK=>?_) (AllReadyH.cons held_at5 (fun K hK=>?_) AllReadyH.nil)
       ·
        (try simp only [qsa,qsz,qss])
        go_simp
        refine hK.out _ _ True.intro (fun hHeld=>?_)
        clear hK K
        (try simp only [Act.put,qsa,qsz,qss])
        refine wpAnyH_ready (rs:=[5]) (by kernel_rfl) (by simp) ?_
        refine AllReadyH.cons held_at5 (fun K hK=>?_) AllReadyH.nil
        (try simp only [qsa,qsz,qss])
        go_simp
        refine hK.out _ _ True.intro (fun hHeld=>?_)
        clear hK K
        (try simp only [Act.put,qsa,qsz,qss])
        refine wpAnyH_ready (rs:=[6]) (by kernel_rfl) (by simp) ?_
        refine AllReadyH.cons held_at6 (fun K hK=>?_) AllReadyH.nil
        have HNC:=qh (cell_one_new wr.drew (.bool lv2) 4)
        refine step_append_ownE rfl (.tmp 70) (.tmp 74) 40 rfl w5.heap.size 4 i0 (.bool false) 1 1 Tryz.underlying40 Hi0.out Hz0.out Hz1.out Hz2.out rfl (by decide) (.slice oA k oc) k (((List.range k).map fun k=>litHolds m (q.X.on i k)).map .bool) (by simp [Act.eval,Act.put]) (HOD.out.alloc _) ⟨wr.heap.size,0,none⟩ 1 1 [.bool lv2] (by simp [Act.eval,Act.put]) rfl HNC.out (by simp [Value.oneCell']) (by unfold maxLen;omega) (by omega) (by have:=Hsz.out;simp;omega) ?_
        intro oV8 w8 hown8 hg8 _ hv8
        obtain ⟨oA8,oc8,rfl,_,_,_⟩:=own_form hown8
        have far8:Far (fun j=>(Value.slice oA k oc).ownBlock=some j) wr.drew w8:=(Far.of_below _ ((qbr _ _).alloc (qr _) (.cells #[.bool lv2] 4))).trans (Far.of_grown hg8 fun i h=>h.symm) fun _ _ h=>h
        have HO8:Hid (w8.ownsRow w5.heap.size 4 1 (.slice oA8 (k+1) oc8) (k+1) (((List.range (k+1)).map fun k=>litHolds m (q.X.on i k)).map .bool)):=qh (by rw [List.range_succ,List.map_append,List.map_append];simpa [HL2.out] using hown8)
        have HMB8:=qh (far8.whole HMBr.out.drew fun e=>by have:=(HO.out.lt _ e).1;have:=HSW.out;omega)
        have HB8:Hid (Below wo.heap.size wo w8):=qh ((below_drewN HBr.out 1).trans (far8.below (B:=wo.heap.size) HBr.out.size fun j e=>by have:=(HO.out.lt j e).1;have:=HSW.out;omega))
        have Hs8:Hid (w5.heap.size<=w8.heap.size):=qh (qlt Hsz.out far8.size)
        clear hown8 hg8 hv8 far8 HNC
        refine hK.out _ _ True.intro (fun hHeld=>?_)
        clear hK K
        (try simp only [Act.put,qsa,qsz,qss])
        first|(refine tkA (v:=?_) held_at7 ?_ ?_;rotate_left;focus (intro _ h;(try dsimp only at h);go_simp;(try with_reducible rfl);done))|refine tkB held_at7 ?_
        (try simp only [Act.put,qsa,qsz,qss])
        refine wpAnyH_ready (rs:=[8]) (by kernel_rfl) (by simp) ?_
        refine AllReadyH.cons held_at8 (fun K hK=>?_) AllReadyH.nil
        have y1:=HMB8.out.cell 1
        have y1f:=HMB8.out.free 1
        have y1l:=HMB8.out.lt
        simp only [qgz,qgs] at y1
        (try simp only [qsa,qsz,qss])
        go_simp
        refine hK.out _ _ True.intro (fun hHeld=>?_)
        clear hK K y1 y1f
        (try simp only [Act.put,qsa,qsz,qss])
        refine wpAnyH_done (by kernel_rfl) ?_ _
        have HMB9:=qh (HMB8.out.set_ 1 (.slice oA8 (k+1) oc8))
        have HO9:=qh ((Far.set_ (D:=fun j=>j=wo.heap.size) rfl 1 (.slice oA8 (k+1) oc8)).own HO8.out fun g hg e=>by have:=(HO8.out.lt g hg).1;have:=HSW.out;omega)
        have HB9:=qh (HB8.out.setCell (p:=⟨wo.heap.size,1,none⟩) (qr _) (.slice oA8 (k+1) oc8))
        have Hs9:Hid (w5.heap.size<=(w8.setCell ⟨wo.heap.size,1,none⟩ (.slice oA8 (k+1) oc8)).heap.size):=qh (by simpa [World.setCell] using Hs8.out)
        go_wp2
        go_roundg (gk - 1)
        case measure=>have:=Hk.out;omega
        case rel=>exact ⟨k+1,oA8,oc8,qh (by have:=Hk.out;omega),by go_num,HMB9,HO9,HB9,Hs9⟩
       ·
        (try simp only [qsa,qsz,qss])
        go_simp
        refine hK.out _ _ True.intro (fun hHeld=>?_)
        clear hK K
        (try simp only [Act.put,qsa,qsz,qss])
        refine wpAnyH_ready (rs:=[1]) (by kernel_rfl) (by simp) ?_
        refine AllReadyH.cons held_at1 (fun K hK=>?_) AllReadyH.nil
        (try simp only [qsa,qsz,qss])
        go_simp
        refine hK.out _ _ True.intro (fun hHeld=>?_)
        clear hK K
        (try simp only [Act.put,qsa,qsz,qss])
        refine wpAnyH_ready (rs:=[6]) (by kernel_rfl) (by simp) ?_
        refine AllReadyH.cons held_at6 (fun K hK=>?_) AllReadyH.nil
        have HNC:=qh (cell_one_new wr.drew (.bool lv2) 4)
        refine step_append_ownE rfl (.tmp 70) (.tmp 74) 40 rfl w5.heap.size 4 i0 (.bool false) 1 1 Tryz.underlying40 Hi0.out Hz0.out Hz1.out Hz2.out rfl (by decide) (.slice oA k oc) k (((List.range k).map fun k=>litHolds m (q.X.on i k)).map .bool) (by simp [Act.eval,Act.put]) (HOD.out.alloc _) ⟨wr.heap.size,0,none⟩ 1 1 [.bool lv2] (by simp [Act.eval,Act.put]) rfl HNC.out (by simp [Value.oneCell']) (by unfold maxLen;omega) (by omega) (by have:=Hsz.out;simp;omega) ?_
        intro oV8 w8 hown8 hg8 _ hv8
        obtain ⟨oA8,oc8,rfl,_,_,_⟩:=own_form hown8
        have far8:Far (fun j=>(Value.slice oA k oc).ownBlock=some j) wr.drew w8:=(Far.of_below _ ((qbr _ _).alloc (qr _) (.cells #[.bool lv2] 4))).trans (Far.of_grown hg8 fun i h=>h.symm) fun _ _ h=>h
        have HO8:Hid (w8.ownsRow w5.heap.size 4 1 (.slice oA8 (k+1) oc8) (k+1) (((List.range (k+1)).map fun k=>litHolds m (q.X.on i k)).map .bool)):=qh (by rw [List.range_succ,List.map_append,List.map_append];simpa [HL2.out] using hown8)
        have HMB8:=qh (far8.whole HMBr.out.drew fun e=>by have:=(HO.out.lt _ e).1;have:=HSW.out;omega)
        have HB8:Hid (Below wo.heap.size wo w8):=qh ((below_drewN HBr.out 1).trans (far8.below (B:=wo.heap.size) HBr.out.size fun j e=>by have:=(HO.out.lt j e).1;have:=HSW.out;omega))
        have Hs8:Hid (w5.heap.size<=w8.heap.size):=qh (qlt Hsz.out far8.size)
        clear hown8 hg8 hv8 far8 HNC
        refine hK.out _ _ True.intro (fun hHeld=>?_)
        clear hK K
        (try simp only [Act.put,qsa,qsz,qss])
        first|(refine tkA (v:=?_) held_at7 ?_ ?_;rotate_left;focus (intro _ h;(try dsimp only at h);go_simp;(try with_reducible rfl);done))|refine tkB held_at7 ?_
        (try simp only [Act.put,qsa,qsz,qss])
        refine wpAnyH_ready (rs:=[8]) (by kernel_rfl) (by simp) ?_
        refine AllReadyH.cons held_at8 (fun K hK=>?_) AllReadyH.nil
        have y1:=HMB8.out.cell 1
        have y1f:=HMB8.out.free 1
        have y1l:=HMB8.out.lt
        simp only [qgz,qgs] at y1
        (try simp only [qsa,qsz,qss])
        go_simp
        refine hK.out _ _ True.intro (fun hHeld=>?_)
        clear hK K y1 y1f
        (try simp only [Act.put,qsa,qsz,qss])
        refine wpAnyH_done (by kernel_rfl) ?_ _
        have HMB9:=qh (HMB8.out.set_ 1 (.slice oA8 (k+1) oc8))
        have HO9:=qh ((Far.set_ (D:=fun j=>j=wo.heap.size) rfl 1 (.slice oA8 (k+1) oc8)).own HO8.out fun g hg e=>by have:=(HO8.out.lt g hg).1;have:=HSW.out;omega)
        have HB9:=qh (HB8.out.setCell (p:=⟨wo.heap.size,1,none⟩) (qr _) (.slice oA8 (k+1) oc8))
        have Hs9:Hid (w5.heap.size<=(w8.setCell ⟨wo.heap.size,1,none⟩ (.slice oA8 (k+1) oc8)).heap.size):=qh (by simpa [World.setCell] using Hs8.out)
        go_wp2
        go_roundg (gk - 1)
        case measure=>have:=Hk.out;omega
        case rel=>exact ⟨k+1,oA8,oc8,qh (by have:=Hk.out;omega),by go_num,HMB9,HO9,HB9,Hs9⟩
     obtain rfl:n5=k:=by have:=Hk.out;omega
     have HG7:=qh (HG.out.move HBr.out)
     obtain ⟨NL,hNL⟩:∃ x,x=(setTo q.X q.ps m i).length:=⟨_,rfl⟩
     have hown7:=HG7.out.own
     rw [<- hNL] at hown7
     obtain ⟨lA,lc,rfl,_,_,_⟩:=own_formK hown7
     have HOW7:=qh hown7
     have HNL:=qh hNL
     have hN8:NL<=8:=by have:=setTo_len (X:=q.X) (ps:=q.ps) (m:=m) (i:=i);omega
     obtain ⟨oA2,oc2,he,ho1,ho2,horow⟩:=own_formK HO.out
     obtain ⟨rfl,rfl⟩:oA=oA2/\oc=oc2:=by injection he with h1 h2 h3;exact ⟨h1,h3⟩
     rw [Nat.mul_one] at horow
     have o0:=HMBr.out.cell 0;have o1:=HMBr.out.cell 1
     have olt:=HMBr.out.lt
     simp only [qgz,qgs] at o0 o1
     have hmem:memM q.X q.ps m i=⟨(i:Int),(List.range n5).map fun k=>litHolds m (q.X.on i k)⟩:=by unfold memM;rw [<- HN5.out]
     have HMEM:=qh hmem
     have hbw:w4.heap.size<=wr.heap.size:=qlt HB.out.size HBr.out.size
     have HRM:Hid (RMem wr (fun k=>w4.heap.size<=k/\k<wr.heap.size/\(Value.slice lA NL lc).ownBlock≠some k) [.int .i64 (i:Int),.slice oA n5 oc] (memM q.X q.ps m i)):=qh (by
      rw [hmem]
      refine ⟨oA,n5,oc,rfl,ho1,ho2,horow.more fun j hj=>?_⟩
      have h1:=HO.out.lt j hj
      have h2:=HSW.out
      have h3:=HB.out.size
      exact ⟨by omega,h1.2,fun e=>by have:=(HG.out.own.lt j e).2;omega⟩)
     have HCN:=qh (cells_newE wr wr.heap.size [.int .i64 (i:Int),.slice oA n5 oc] 85 rfl)
     clear hown7 hNL he ho1 ho2 horow hmem
     go_wp2_with (at_builtin;refine wpList_append_own_at _ rfl _ _ 26 rfl w4.heap.size 85 j0 (.agg #[.int .i64 0,.slice none 0 0]) 2 32 Tryz.underlying26 Hj0.out Hy0.out Hy1.out Hy2.out rfl (by decide) _ _ _ rfl (HOW7.out.alloc _) ⟨wr.heap.size,0,none⟩ 1 1 [.int .i64 (i:Int),.slice oA n5 oc] rfl rfl ?d1 ?d2 ?d3 ?d4 ?d5 ?_)
     try (case d1=>exact HCN.out)
     try (case d2=>simp [Value.oneCell'])
     try (case d3=>unfold maxLen;omega)
     try (case d4=>omega)
     try (case d5=>first | omega | (simp;omega))
     intro lv' w9 hown9 hg9 _ hat9
     have M9:=qh (HG7.out.push (x:=[.int .i64 (i:Int),.slice oA n5 oc]) (a:=memM q.X q.ps m i) HRM.out rfl (by rw [<- HNL.out];simpa using hown9) hg9 (by simpa using hat9))
     have HB9:Hid (Below w4.heap.size w4 w9):=qh ((HB.out.trans (HBr.out.mono HB.out.size)).trans (M9.out.2.below hbw fun j e=>(HG7.out.own.lt j e).1))
     clear hown9 hg9 hat9
     go_wp2
     go_roundg (g3 - 1)
     case measure=>have:=Hi.out;omega
     case rel=>exact ⟨i+1,_,qh (by have:=Hi.out;omega),by go_num,qh (by rw [HN.out];exact M9.out.1),HB9⟩
   obtain rfl:i=q.n:=by have:=Hi.out;omega
   have hlv:setV q.ps v m=setTo q.X q.ps m q.n:=by
    unfold setV setE
    rw [if_pos (by rw [if_neg (by rw [<- HZ.out];simp),if_neg (by rw [HML.out,<- HMC.out];exact fun h=>h.elim H12.out.1 H12.out.2)]),HX.out]
    unfold setTo setOfM takenM
    rw [HLen.out]
   have hse:setE q.ps v m=0:=by unfold setE;rw [if_neg (by rw [<- HZ.out];simp),if_neg (by rw [HML.out,<- HMC.out];exact fun h=>h.elim H12.out.1 H12.out.2)]
   rw [<- hlv] at HG
   obtain ⟨lA,lc,rfl,_,_,_⟩:=own_formK HG.out.own
   have hset:=HG.out.set rfl
   have HF:Hid (SetP q.ps v m w (.returned (.tuple #[.slice lA (setV q.ps v m).length lc,.int .i64 0])) wo):=qh ⟨lA,lc,by rw [hse],hset.1.more fun k hk=>⟨qlt X4.out.bel.size hk.1,hk.2⟩,hset.2.1,hset.2.2,X5.out.bel⟩
   clear hlv hse hset
   generalize (setV q.ps v m).length=LL at HF HG ⊢
   go_wp2
   go_ret2
   exact HF.out
 have HE:Hid (setE ps v m=z):=qh (by unfold setE;rw [if_pos (by rw [<- HZ.out];exact h0),<- HZ.out])
 have h0b:(z == 0)=false:=by simpa using h0
 go_wp2
 go_ret2
 exact SetP.err h0 HE.out X2.out.bel
end
section
open Go.RowKit Qm
def slvE (ps : List Pk) (v : Ws) (s : Int) : Int := solveErr (encN ps v : Int) (encC ps v) s
def slvM (ps : List Pk) (v : Ws) (s : Int) : List Bool := solveM (encN ps v : Int) (encC ps v) s
def slvP (ps : List Pk) (v : Ws) (s : Int) : List (List Int) := solveP (encN ps v : Int) (encC ps v) s
def resE (ps : List Pk) (v : Ws) (s : Int) : Int := if ckWish ps v ≠ 0 then ckWish ps v else if slvE ps v s ≠ 0 then slvE ps v s else if 0 < (slvP ps v s).length then 7 else 0
def resM (ps : List Pk) (v : Ws) (s : Int) : List Mem := if resE ps v s = 0 then setOfM (chW ps v) ps (slvM ps v s) else []
def resP (ps : List Pk) (v : Ws) (s : Int) : List (List Int) := if ckWish ps v ≠ 0 ∨ slvE ps v s ≠ 0 then [] else slvP ps v s
theorem encN_of {ps : List Pk} {v : Ws} (h : ckWish ps v = 0) : encN ps v = (encW ps v).vars ∧ encC ps v = (encW ps v).cls := by
  unfold encN encC; rw [if_pos h, if_pos h]; exact ⟨rfl, rfl⟩
theorem slv_steps {ps : List Pk} {v : Ws} (h : ckWish ps v = 0) : slvE ps v 40000 = 0 := by
  have E := encW_ok h
  have hp := pow_le E.many14
  have hcl : ∀ c ∈ (encW ps v).cls, Qm.IsCl (encW ps v).vars c := fun c hc => (E.cl c hc).1
  have hW := Qm.searchR_steps hcl E.many (by have := E.many14; omega) E.settles (manyC ps) ((encW ps v).vars + 1) 40000 [] [] (fun n hn => by cases hn) (fun v _ => Qm.openM_le) (by simp) (by simp) (by omega)
  unfold slvE
  rw [(encN_of h).1, (encN_of h).2]
  unfold solveErr
  rw [if_neg (by rw [enc_formula h]; simp), if_neg (by omega)]
  simp only [Int.toNat_natCast]
  have e4 : (40000 : Int).toNat = 40000 := rfl
  rw [e4, resOf_eq hcl]
  revert hW
  cases searchR (encW ps v).vars (encW ps v).cls ((encW ps v).vars + 1) 40000 [] [] with
  | out => intro h; exact h.elim
  | found m => intro _; rfl
  | no a b => intro _; rfl
theorem slv_tells {ps : List Pk} {v : Ws} {s : Int} (h : ckWish ps v = 0) (hs : slvE ps v s = 0) :
    (slvP ps v s = [] ∧ (slvM ps v s).length = encN ps v ∧ Best ps v (setOfM (chW ps v) ps (slvM ps v s))) ∨
    (0 < (slvP ps v s).length ∧ slvM ps v s = [] ∧ (slvP ps v s).length ≤ 40000 ∧ refOk (encN ps v : Int) (encC ps v) (slvP ps v s) = true ∧ badErr (encN ps v : Int) (encC ps v) (slvP ps v s) = 0 ∧ ¬ May ps v) := by
  have E := encW_ok h
  have W := wish_parts h
  unfold slvE at hs
  obtain ⟨N, hN, _, _, _, _, hT⟩ := solve_tells hs
  have hN : N = encN ps v := by omega
  subst hN
  rw [← (encN_of h).1, ← (encN_of h).2] at E
  rcases hT with ⟨h1, h2, h3, h4⟩ | ⟨h1, h2, h3, h4, h5, h6⟩
  · exact .inl ⟨h1, h2, best_of E W.ok h3 h4⟩
  · exact .inr ⟨h1, h2, h3, h4, h5, none_of E W.ok h6⟩
theorem res_all {ps : List Pk} {v : Ws} {s : Int} (h : ckWish ps v = 0) (hs : slvE ps v s = 0) :
    (resE ps v s = 0 ∧ Best ps v (resM ps v s) ∧ resP ps v s = []) ∨
    (resE ps v s = 7 ∧ ¬ May ps v ∧ resM ps v s = [] ∧ 0 < (resP ps v s).length ∧ (resP ps v s).length ≤ 40000 ∧ refOk (encN ps v : Int) (encC ps v) (resP ps v s) = true ∧ badErr (encN ps v : Int) (encC ps v) (resP ps v s) = 0) := by
  have hP : resP ps v s = slvP ps v s := by unfold resP; rw [if_neg (by rw [h, hs]; simp)]
  rcases slv_tells h hs with ⟨h1, h2, h3⟩ | ⟨h1, h2, h3, h4, h5, h6⟩
  · have e : resE ps v s = 0 := by unfold resE; rw [if_neg (by rw [h]; simp), if_neg (by rw [hs]; simp), if_neg (by rw [h1]; simp)]
    refine .inl ⟨e, ?_, by rw [hP, h1]⟩
    unfold resM; rw [if_pos e]; exact h3
  · have e : resE ps v s = 7 := by unfold resE; rw [if_neg (by rw [h]; simp), if_neg (by rw [hs]; simp), if_pos h1]
    refine .inr ⟨e, h6, ?_, by rw [hP]; exact h1, by rw [hP]; exact h3, by rw [hP]; exact h4, by rw [hP]; exact h5⟩
    unfold resM; rw [if_neg (by rw [e]; decide)]
theorem res_max {ps : List Pk} {v : Ws} (h : ckWish ps v = 0) :
    (resE ps v 40000 = 0 ∧ Best ps v (resM ps v 40000) ∧ resP ps v 40000 = []) ∨
    (resE ps v 40000 = 7 ∧ ¬ May ps v ∧ resM ps v 40000 = [] ∧ 0 < (resP ps v 40000).length ∧ (resP ps v 40000).length ≤ 40000 ∧ refOk (encN ps v : Int) (encC ps v) (resP ps v 40000) = true ∧ badErr (encN ps v : Int) (encC ps v) (resP ps v 40000) = 0) := res_all h (slv_steps h)
theorem res_may {ps : List Pk} {v : Ws} (h : ckWish ps v = 0) : resE ps v 40000 = 0 ↔ May ps v := by
  rcases res_max h with ⟨h1, h2, _⟩ | ⟨h1, h2, _⟩
  · exact ⟨fun _ => h2.may, fun _ => h1⟩
  · exact ⟨fun g => (by rw [g] at h1; cases h1), fun g => absurd g h2⟩
theorem res_none {ps : List Pk} {v : Ws} (h : ckWish ps v = 0) : resE ps v 40000 = 7 ↔ ¬ May ps v := by
  rcases res_max h with ⟨h1, h2, _⟩ | ⟨h1, h2, _⟩
  · exact ⟨fun g => (by rw [g] at h1; cases h1), fun g => absurd h2.may g⟩
  · exact ⟨fun _ => h2, fun _ => h1⟩
theorem res_bad {ps : List Pk} {v : Ws} {s : Int} (h : ckWish ps v ≠ 0) : resE ps v s = ckWish ps v ∧ resM ps v s = [] ∧ resP ps v s = [] := by
  have e : resE ps v s = ckWish ps v := by unfold resE; rw [if_pos h]
  refine ⟨e, ?_, ?_⟩
  · unfold resM; rw [if_neg (by rw [e]; exact h)]
  · unfold resP; rw [if_pos (.inl h)]
theorem res_set {ps : List Pk} {v : Ws} {l : List Mem} (h : ckWish ps v = 0) (hb : Best ps v l) : resE ps v 40000 = 0 ∧ resM ps v 40000 = l := by
  rcases res_max h with ⟨h1, h2, _⟩ | ⟨_, h2, _⟩
  · exact ⟨h1, h2.eq (wish_parts h).ok hb⟩
  · exact absurd hb.may h2
theorem res_setE {ps : List Pk} {v : Ws} {s : Int} (h : ckWish ps v = 0) (hs : slvE ps v s = 0) (hp : slvP ps v s = []) : setE ps v (slvM ps v s) = 0 ∧ setV ps v (slvM ps v s) = resM ps v s ∧ resE ps v s = 0 := by
  have E := encW_ok h
  have e : resE ps v s = 0 := by unfold resE; rw [if_neg (by rw [h]; simp), if_neg (by rw [hs]; simp), if_neg (by rw [hp]; simp)]
  rcases slv_tells h hs with ⟨_, h2, _⟩ | ⟨h1, _⟩
  · have h0 : setE ps v (slvM ps v s) = 0 := by
      unfold setE
      rw [if_neg (by rw [h]; simp), if_neg]
      rw [h2, (encN_of h).1]
      have := E.many; have := E.n400; omega
    exact ⟨h0, by unfold setV resM; rw [if_pos h0, if_pos e], e⟩
  · rw [hp] at h1; cases h1
def qMay (ps : List Pk) (v : Ws) (ms : List Int) : Bool := decide (resE ps { v with ms := v.ms.filter fun k => ms.contains k } 40000 = 0)
theorem mem_only {a b : List Int} {k : Int} : (k ∈ a.filter fun k => b.contains k) ↔ k ∈ a ∧ k ∈ b := by rw [List.mem_filter, List.contains_iff_mem]
theorem May.masks {ps : List Pk} {v : Ws} {a b : List Int} (hab : ∀ k ∈ b, k ∈ a) (h : May ps { v with ms := a }) : May ps { v with ms := b } := by
  obtain ⟨l, h1, h2⟩ := h
  exact ⟨l, h1, validP_mono (fun _ h => h) hab h2⟩
theorem qMay_iff {ps : List Pk} {v : Ws} (h : ckWish ps v = 0) {ms : List Int} (hs : ∀ k ∈ ms, k ∈ v.ms) : qMay ps v ms = true ↔ May ps { v with ms := ms } := by
  unfold qMay
  rw [decide_eq_true_eq, res_may (wish_mask h List.filter_sublist)]
  exact ⟨fun g => g.masks fun k hk => mem_only.2 ⟨hs k hk, hk⟩, fun g => g.masks fun k hk => (mem_only.1 hk).2⟩
theorem qMay_res {ps : List Pk} {v : Ws} (h : ckWish ps v = 0) {ms : List Int} (hs : ms.Sublist v.ms) : qMay ps v ms = true ↔ resE ps { v with ms := ms } 40000 = 0 := by
  rw [qMay_iff h hs.subset, res_may (wish_mask h hs)]
theorem qMay_mono {ps : List Pk} {v : Ws} (h : ckWish ps v = 0) : ∀ a b : List Int, (∀ k ∈ b, k ∈ a) → qMay ps v a = true → qMay ps v b = true := by
  intro a b hab
  unfold qMay
  rw [decide_eq_true_eq, decide_eq_true_eq, res_may (wish_mask h List.filter_sublist), res_may (wish_mask h List.filter_sublist)]
  exact fun g => g.masks fun k hk => mem_only.2 ⟨(mem_only.1 hk).1, hab k (mem_only.1 hk).2⟩
def unmE (ps : List Pk) (v : Ws) : Int := if ckWish ps v ≠ 0 then ckWish ps v else resE ps { v with ms := [] } 40000
def unmL (ps : List Pk) (v : Ws) : List Int := if unmE ps v = 0 then (unmAll (qMay ps v) v.ms).2 else []
theorem unmE_zero {ps : List Pk} {v : Ws} (h : unmE ps v = 0) : ckWish ps v = 0 ∧ qMay ps v [] = true := by
  unfold unmE at h
  split at h
  · rename_i g; exact absurd h g
  · rename_i g
    have g : ckWish ps v = 0 := by simpa using g
    exact ⟨g, (qMay_res g (List.nil_sublist _)).2 h⟩
theorem unm_at {ps : List Pk} {v : Ws} (h : unmE ps v = 0) (j : Nat) : UnmOk (qMay ps v) (v.ms.take j) (unmAll (qMay ps v) (v.ms.take j)) := by
  obtain ⟨h1, h2⟩ := unmE_zero h
  exact unm_ok (qMay_mono h1) h2 v.ms j
theorem unm_step {ps : List Pk} {v : Ws} (h : unmE ps v = 0) {j : Nat} {k : Int} (hj : v.ms[j]? = some k) :
    ckWish ps { v with ms := (unmAll (qMay ps v) (v.ms.take j)).1 ++ [k] } = 0 ∧
    ((resE ps { v with ms := (unmAll (qMay ps v) (v.ms.take j)).1 ++ [k] } 40000 = 0 ∧ unmAll (qMay ps v) (v.ms.take (j + 1)) = ((unmAll (qMay ps v) (v.ms.take j)).1 ++ [k], (unmAll (qMay ps v) (v.ms.take j)).2)) ∨
     (resE ps { v with ms := (unmAll (qMay ps v) (v.ms.take j)).1 ++ [k] } 40000 = 7 ∧ unmAll (qMay ps v) (v.ms.take (j + 1)) = ((unmAll (qMay ps v) (v.ms.take j)).1, (unmAll (qMay ps v) (v.ms.take j)).2 ++ [k]))) := by
  obtain ⟨h1, _⟩ := unmE_zero h
  have U := unm_at h j
  have hsub : ((unmAll (qMay ps v) (v.ms.take j)).1 ++ [k]).Sublist v.ms := by
    have e : v.ms.take (j + 1) = v.ms.take j ++ [k] := by
      obtain ⟨hj', rfl⟩ := List.getElem?_eq_some_iff.1 hj
      rw [List.take_succ_eq_append_getElem hj']
    have := (U.s1.append (List.Sublist.refl [k]))
    rw [← e] at this
    exact this.trans (List.take_sublist _ _)
  have hw := wish_mask h1 hsub
  refine ⟨hw, ?_⟩
  rw [unmAll_take hj]
  unfold unmStep
  by_cases hq : qMay ps v ((unmAll (qMay ps v) (v.ms.take j)).1 ++ [k]) = true
  · rw [if_pos hq]
    exact .inl ⟨(qMay_res h1 hsub).1 hq, rfl⟩
  · rw [if_neg hq]
    refine .inr ⟨?_, rfl⟩
    rw [res_none hw, ← qMay_iff h1 hsub.subset]
    exact hq
end
end Go.Proofs.YtedbhlgjcnnknaaGreatDoor

namespace Qm
open Go
theorem cut_one (c:UInt8) (l:W):Lib.cut l [c]=match cutAt (· == c) l with | none=>(l,[],false) | some (a,_,d)=>(a,d,true):=by
 have hi:=index_cut c l
 unfold Lib.cut
 cases h:cutAt (· == c) l with
 | none=>rw [h] at hi;rw [hi];rfl
 | some t =>
  obtain ⟨a,b,d⟩:=t
  obtain ⟨e,hb,ha⟩:=of_cutAt_some h
  rw [h] at hi
  simp only [] at hi
  rw [hi,if_pos (by omega)]
  have h1:l.take ((a.length:Int).toNat)=a:=by rw [e];simp
  have h2:l.drop ((a.length:Int).toNat+[c].length)=d:=by rw [e];simp [List.drop_append]
  rw [h1,h2]
theorem splitK_step (c:UInt8) (k:Nat) (l:W):Lib.splitK [c] 0 (k+1) l=match cutAt (· == c) l with | none=>[l] | some (a,_,d)=>a :: Lib.splitK [c] 0 k d:=by
 have hi:=index_cut c l
 rw [Lib.splitK]
 cases h:cutAt (· == c) l with
 | none=>rw [h] at hi;rw [hi];rfl
 | some t =>
  obtain ⟨a,b,d⟩:=t
  obtain ⟨e,hb,ha⟩:=of_cutAt_some h
  rw [h] at hi
  simp only [] at hi
  have h0:((a.length:Int) == -1)=false:=by simp
  have h1:l.take ((a.length:Int).toNat+0)=a:=by rw [e];simp
  have h2:l.drop ((a.length:Int).toNat+[c].length)=d:=by rw [e];simp [List.drop_append]
  rw [hi,h0,h1,h2];rfl
theorem splitK_len (c:UInt8):∀ (k:Nat) (l:W),(Lib.splitK [c] 0 k l).length<=k+1
 | 0,l=>by simp [Lib.splitK]
 | k+1,l=>by
  rw [splitK_step]
  cases cutAt (· == c) l with
  | none=>simp
  | some t =>
   obtain ⟨a,b,d⟩:=t
   have:=splitK_len c k d
   simp only [List.length_cons];omega
theorem splitN_some {l a b c d e:W} (h:cut4 l=some (a,b,c,d,e)):Lib.splitK [32] 0 (min 5 (l.length+1) - 1) l=[a,b,c,d,e]:=by
 have hl:4<=l.length:=by rw [cut4_back h];simp;omega
 rw [show min 5 (l.length+1) - 1=3+1 by omega]
 unfold cut4 at h
 split at h
 ·cases h
 rename_i a' x1 l1 h1
 split at h
 ·cases h
 rename_i b' x2 l2 h2
 split at h
 ·cases h
 rename_i c' x3 l3 h3
 split at h
 ·cases h
 rename_i d' x4 l4 h4
 simp only [Option.some.injEq,Prod.mk.injEq] at h
 obtain ⟨rfl,rfl,rfl,rfl,rfl⟩:=h
 rw [splitK_step,h1]
 simp only []
 rw [splitK_step,h2]
 simp only []
 rw [splitK_step,h3]
 simp only []
 rw [splitK_step,h4]
 rfl
theorem splitN_none {l:W} (h:cut4 l=none):(Lib.splitK [32] 0 (min 5 (l.length+1) - 1) l).length≠5:=by
 by_cases hl:l.length<4
 ·have:=splitK_len 32 (min 5 (l.length+1) - 1) l
  omega
 rw [show min 5 (l.length+1) - 1=3+1 by omega,splitK_step]
 unfold cut4 at h
 cases h1:cutAt (· == 32) l with
 | none=>simp
 | some t1 =>
  obtain ⟨a,x1,l1⟩:=t1
  rw [h1] at h
  simp only [] at h ⊢
  rw [splitK_step]
  cases h2:cutAt (· == 32) l1 with
  | none=>simp
  | some t2 =>
   obtain ⟨b,x2,l2⟩:=t2
   rw [h2] at h
   simp only [] at h ⊢
   rw [splitK_step]
   cases h3:cutAt (· == 32) l2 with
   | none=>simp
   | some t3 =>
    obtain ⟨c,x3,l3⟩:=t3
    rw [h3] at h
    simp only [] at h ⊢
    rw [splitK_step]
    cases h4:cutAt (· == 32) l3 with
    | none=>simp
    | some t4 =>
     obtain ⟨d,x4,l4⟩:=t4
     rw [h4] at h
     cases h
end Qm

namespace Go.Proofs.YtedbhlgjcnnknaaGreatDoor
section
open Go.RowKit Qm
theorem cut_some {l a d:Qm.W} {x:UInt8} (h:cutAt (· == 10) l=some (a,x,d)) (w:World) (hs:l.length<4294967281) (hM:MaxW w) :
  Calls Tryz.prog 105 #[.string ⟨l.toArray⟩,.string ⟨#[10]⟩] w fun e w'=>e=.returned (.tuple #[.string ⟨a.toArray⟩,.string ⟨d.toArray⟩,.bool true])/\Below w.heap.size w w':=by
 obtain ⟨m,hm⟩:=hM
 have hc:=cut_one 10 l
 rw [h] at hc
 refine (Tryz.strings_Cut ⟨l.toArray⟩ ⟨#[10]⟩ m w (by rw [bsz];exact hs) hm).mono ?_
 rintro e w' ⟨he,n,rfl⟩
 have hc':Lib.cut (⟨l.toArray⟩:ByteArray).data.toList (⟨#[10]⟩:ByteArray).data.toList=(a,d,true):=hc
 rw [hc'] at he
 exact ⟨he,below_drewN (qbr _ _) n⟩
theorem cut_none {l:Qm.W} (h:cutAt (· == 10) l=none) (w:World) (hs:l.length<4294967281) (hM:MaxW w) :
  Calls Tryz.prog 105 #[.string ⟨l.toArray⟩,.string ⟨#[10]⟩] w fun e w'=>e=.returned (.tuple #[.string ⟨l.toArray⟩,.string ⟨#[]⟩,.bool false])/\Below w.heap.size w w':=by
 obtain ⟨m,hm⟩:=hM
 have hc:=cut_one 10 l
 rw [h] at hc
 refine (Tryz.strings_Cut ⟨l.toArray⟩ ⟨#[10]⟩ m w (by rw [bsz];exact hs) hm).mono ?_
 rintro e w' ⟨he,n,rfl⟩
 have hc':Lib.cut (⟨l.toArray⟩:ByteArray).data.toList (⟨#[10]⟩:ByteArray).data.toList=(l,[],false):=hc
 rw [hc'] at he
 exact ⟨he,below_drewN (qbr _ _) n⟩
theorem splitN_bytes (l:Qm.W) (k:Nat):(Lib.splitB ⟨#[32]⟩ 0 k ⟨l.toArray⟩).map (·.data.toList)=Lib.splitK [32] 0 k l:=Lib.splitB_data ⟨#[32]⟩ 0 k ⟨l.toArray⟩
theorem splitN_five {l a b c d f:Qm.W} (h:cut4 l=some (a,b,c,d,f)) (w:World) (hs:l.length<4294967281) (hM:MaxW w) :
  Calls Tryz.prog 106 #[.string ⟨l.toArray⟩,.string ⟨#[32]⟩,.int .i64 5] w fun e w'=>e=.returned (.slice (some ⟨w.heap.size,0,none⟩) 5 5)/\w'=w.alloc (.cells (strs [a,b,c,d,f]).toArray 9):=by
 obtain ⟨m,hm⟩:=hM
 have hp:=splitN_some h
 have hl:4<=l.length:=by rw [cut4_back h];simp;omega
 have hb:=splitN_bytes l (min 5 (l.length+1) - 1)
 rw [hp] at hb
 refine (Tryz.strings_SplitN ⟨l.toArray⟩ ⟨#[32]⟩ 5 m w (by rw [bsz];exact hs) hm (by decide) (by decide) (by decide)).mono ?_
 rw [bsz]
 rintro e w' ⟨he,hw⟩
 have hn:min 5 (l.length+1)=5:=by omega
 have hlen:(Lib.splitB ⟨#[32]⟩ 0 (min 5 (l.length+1) - 1) ⟨l.toArray⟩).length=5:=by rw [<- List.length_map (f:=(·.data.toList)),hb];rfl
 rw [hlen,hn] at he
 refine ⟨he, ?_⟩
 rw [hw]
 unfold Lib.cellsOf
 rw [hlen,strs_of hb,hn]
 simp
theorem splitN_not {l:Qm.W} (h:cut4 l=none) (w:World) (hs:l.length<4294967281) (hM:MaxW w) :
  Calls Tryz.prog 106 #[.string ⟨l.toArray⟩,.string ⟨#[32]⟩,.int .i64 5] w fun e w'=>(∃ m cap:Nat,e=.returned (.slice (some ⟨w.heap.size,0,none⟩) m cap)/\m≠5/\m<=5)/\Below w.heap.size w w':=by
 obtain ⟨m,hm⟩:=hM
 have hp:=splitN_none h
 have hb:=splitN_bytes l (min 5 (l.length+1) - 1)
 have hk:=splitK_len 32 (min 5 (l.length+1) - 1) l
 refine (Tryz.strings_SplitN ⟨l.toArray⟩ ⟨#[32]⟩ 5 m w (by rw [bsz];exact hs) hm (by decide) (by decide) (by decide)).mono ?_
 rw [bsz]
 rintro e w' ⟨he,rfl⟩
 have hlen:(Lib.splitB ⟨#[32]⟩ 0 (min 5 (l.length+1) - 1) ⟨l.toArray⟩).length=(Lib.splitK [32] 0 (min 5 (l.length+1) - 1) l).length:=by rw [<- List.length_map (f:=(·.data.toList)),hb]
 exact ⟨⟨_,_,he,by rw [hlen];exact hp,by rw [hlen];omega⟩,(qbr _ _).alloc (qr _) _⟩
end
section
open Go.RowKit Qm
theorem RPk.far {D:Nat->Prop} {w w':World} {S:Nat->Prop} {x:List Value} {p:Pk} (h:RPk w S x p) (hf:Far D w w') (hS:∀ k,S k->k<w.heap.size/\¬ D k):RPk w' S x p:=
 h.keep fun _ hp=>hf.cell (hS _ hp).1 (hS _ hp).2
structure Td (w:World) (A:Option Addr) (c:Nat) (cs:List (List Value)) (ps:List Pk) (wx:World):Prop where
 below:Below w.heap.size w wx
 t:Whole wx w.heap.size 24 [.slice A ps.length c]
 len:cs.length=ps.length
 own:wx.ownsRow (w.heap.size+1) 101 14 (.slice A ps.length c) ps.length cs.flatten
 pk:∀ (j:Nat) (x:List Value) (y:Pk),cs[j]? = some x->ps[j]? = some y->RPk wx (fun i=>w.heap.size+1<=i/\i<wx.heap.size/\(Value.slice A ps.length c).ownBlock≠some i) x y
section
variable {w wx wy : World} {A : Option Addr} {c : Nat} {cs : List (List Value)} {ps : List Pk}
theorem Td.size (h:Td w A c cs ps wx):w.heap.size+1<=wx.heap.size:=h.t.lt
theorem Td.new (w:World):Td w none 0 [] [] (w.alloc (.cells #[.slice none 0 0] 24)):=
 ⟨(qbr _ w).alloc (qr _) _,Whole.new w _ _ [.slice none 0 0] rfl,rfl,World.ownsRow_nil _ _ _ _,fun j x y h _=>by simp at h⟩
theorem Td.move (h:Td w A c cs ps wx) (hb:Below wx.heap.size wx wy):Td w A c cs ps wy where
 below:=h.below.trans (hb.mono h.below.size)
 t:=h.t.below hb h.t.lt
 len:=h.len
 own:=(Far.of_below (fun _=>False) hb).own h.own fun _ _ h=>h
 pk:=fun j x y h1 h2=>((h.pk j x y h1 h2).far (Far.of_below (fun _=>False) hb) fun i hi=>⟨hi.2.1,fun h=>h⟩).more fun i hi=>⟨hi.1,ql hi.2.1 hb.size,hi.2.2⟩
theorem Td.push (h:Td w A c cs ps wx) {x:List Value} {y:Pk} {A':Option Addr} {c':Nat}
  (hx:RPk wx (fun i=>w.heap.size+1<=i/\i<wx.heap.size/\(Value.slice A ps.length c).ownBlock≠some i) x y)
  (hown:wy.ownsRow (w.heap.size+1) 101 14 (.slice A' (ps.length+1) c') (ps.length+1) (cs.flatten++x)) (hg:wx.grownBy wy (Value.slice A ps.length c).ownBlock)
  (hv:(Value.slice A' (ps.length+1) c').ownBlock=(Value.slice A ps.length c).ownBlock\/(Value.slice A' (ps.length+1) c').ownBlock=some wx.heap.size) :
  Td w A' c' (cs++[x]) (ps++[y]) (wy.setCell ⟨w.heap.size,0,none⟩ (.slice A' (ps.length+1) c')):=by
 have hD:∀ i,some i=(Value.slice A ps.length c).ownBlock->w.heap.size+1<=i:=fun i hi=>(h.own.lt i hi.symm).1
 have f1:Far (fun i=>w.heap.size+1<=i/\some i=(Value.slice A ps.length c).ownBlock) wx wy:=Far.of_grown hg fun i hi=>⟨hD i hi,hi⟩
 have f2:Far (fun i=>i=w.heap.size) wy (wy.setCell ⟨w.heap.size,0,none⟩ (.slice A' (ps.length+1) c')):=Far.set_ (D:=fun i=>i=w.heap.size) rfl 0 _
 have hlen:(ps++[y]).length=ps.length+1:=by simp
 have hsz:=f1.size
 have hsz2:=h.size
 have kk:∀ (j:Nat) (x:List Value) (y:Pk),cs[j]? = some x->ps[j]? = some y->RPk wy (fun i=>w.heap.size+1<=i/\i<wx.heap.size/\(Value.slice A ps.length c).ownBlock≠some i) x y:=fun j x y h1 h2=>(h.pk j x y h1 h2).far f1 fun i hi=>⟨hi.2.1,fun e=>hi.2.2 e.2.symm⟩
 have kx:=hx.far f1 fun i hi=>⟨hi.2.1,fun e=>hi.2.2 e.2.symm⟩
 have fin:∀ {x2:List Value} {y2:Pk},RPk wy (fun i=>w.heap.size+1<=i/\i<wx.heap.size/\(Value.slice A ps.length c).ownBlock≠some i) x2 y2 ->
   RPk (wy.setCell ⟨w.heap.size,0,none⟩ (.slice A' (ps.length+1) c')) (fun i=>w.heap.size+1<=i/\i<(wy.setCell ⟨w.heap.size,0,none⟩ (.slice A' (ps.length+1) c')).heap.size/\(Value.slice A' (ps++[y]).length c').ownBlock≠some i) x2 y2:=fun hh=>by
  refine (hh.far f2 fun i hi=>⟨by omega,by omega⟩).more fun i hi=>⟨hi.1,by rw [set_len];omega, ?_⟩
  rw [hlen]
  rcases hv with e | e
  ·rw [e];exact hi.2.2
  rw [e];intro e';injection e' with e';omega
 exact {
  below:=⟨f2.base.os.trans (f1.base.os.trans h.below.os),f2.base.tape.trans (f1.base.tape.trans h.below.tape),f2.base.output.trans (f1.base.output.trans h.below.output),qlt h.below.size (qlt f1.size f2.size),
   fun i hi=>(f2.block i (by omega) (by omega)).trans ((f1.block i (by omega) (fun e=>by omega)).trans (h.below.block i hi))⟩
  t:=by rw [hlen];exact (f1.whole h.t (fun e=>by omega)).set_ 0 _
  len:=by simp [h.len]
  own:=by
   rw [hlen,flat_snoc]
   exact f2.own hown fun g hg=>by have:=(hown.lt g hg).1;omega
  pk:=fun j x' y' h1 h2=>by
   have hl:=h.len
   by_cases hj:j<cs.length
   ·rw [List.getElem?_append_left hj] at h1
    rw [List.getElem?_append_left (by omega)] at h2
    have:=kk j x' y' h1 h2
    exact fin this
   have hj':j=cs.length:=by have:=(List.getElem?_eq_some_iff.1 h1).1;simp at this;omega
   subst hj'
   rw [List.getElem?_append_right (qr _),Nat.sub_self] at h1
   rw [hl,List.getElem?_append_right (qr _),Nat.sub_self] at h2
   simp only [qgz,Option.some.injEq] at h1 h2
   subst h1 h2
   exact fin kx }
theorem Td.cap (h:Td w A c cs ps wx):ps.length<=c/\c<=maxLen:=by
 obtain ⟨A',c',he,h1,h2,hr⟩:=own_formK h.own
 injection he with e1 _ e2
 subst e1 e2
 exact ⟨h1,h2⟩
theorem Td.tree (h:Td w A c cs ps wx):RTree wx (fun i=>w.heap.size+1<=i/\i<wx.heap.size) A ps.length ps:=by
 obtain ⟨A',c',he,h1,h2,hr⟩:=own_formK h.own
 injection he with e1 _ e2
 subst e1 e2
 have hrd:∀ (j:Nat) (x:List Value) (y:Pk),cs[j]? = some x->ps[j]? = some y->RPk wx (fun i=>w.heap.size+1<=i/\i<wx.heap.size) x y:=fun j x y h1 h2=>(h.pk j x y h1 h2).more fun i hi=>by omega
 refine ⟨cs,rfl,h.len,hr.more fun i hi=>by have:=h.own.lt i hi;omega,fun x hx=>?_,hrd⟩
 obtain ⟨j,hj,rfl⟩:=List.mem_iff_getElem.1 hx
 exact (hrd j _ (ps[j]'(by rw [<- h.len];exact hj)) (qge hj) (qge _)).len
end
end
end Go.Proofs.YtedbhlgjcnnknaaGreatDoor

namespace Qm
open Go
def prepT (ps:List Pk):Except (Nat×Int) (List Pk)->Except (Nat×Int) (List Pk)
 | .error e=>.error e
 | .ok qs=>.ok (ps++qs)
theorem prepT_nil (r:Except (Nat×Int) (List Pk)):prepT [] r=r:=by cases r <;> rfl
theorem prepT_snoc (ps:List Pk) (p:Pk) (r:Except (Nat×Int) (List Pk)):prepT ps (match r with | .error e=>.error e | .ok qs=>.ok (p :: qs))=prepT (ps++[p]) r:=by
 cases r <;> simp [prepT]
theorem lines_nil {f i:Nat}:parseLines f i []=.ok []:=by
 cases f with
 | zero=>rfl
 | succ f=>unfold parseLines;rw [if_pos rfl]
theorem lines_cut {f i:Nat} {s:W} (h:s≠[]) (hc:cutAt (· == 10) s=none):parseLines (f+1) i s=.error (i,1):=by
 unfold parseLines
 rw [if_neg h,hc]
theorem lines_bad {f i:Nat} {s l rest:W} {x:UInt8} {e:Int} (h:s≠[]) (hc:cutAt (· == 10) s=some (l,x,rest)) (hp:parseLine l=.error e):parseLines (f+1) i s=.error (i,e):=by
 unfold parseLines
 rw [if_neg h,hc]
 simp only []
 rw [hp]
theorem lines_good {f i:Nat} {s l rest:W} {x:UInt8} {p:Pk} (h:s≠[]) (hc:cutAt (· == 10) s=some (l,x,rest)) (hp:parseLine l=.ok p) (ps:List Pk) :
  prepT ps (parseLines (f+1) i s)=prepT (ps++[p]) (parseLines f (i+1) rest):=by
 rw [<- prepT_snoc,parseLines,if_neg h,hc]
 simp only []
 rw [hp]
 cases parseLines f (i+1) rest <;> rfl
theorem parse_many {s:W} (h:20000<s.length):parseTree s=([],0,2):=by unfold parseTree;rw [if_pos h]
theorem parse_err {s:W} (h:¬ 20000<s.length) {i:Nat} {e:Int} (hl:parseLines (s.length+1) 0 s=.error (i,e)):parseTree s=([],i,e):=by unfold parseTree;rw [if_neg h,hl]
theorem parse_ok {s:W} (h:¬ 20000<s.length) {ps:List Pk} (hl:parseLines (s.length+1) 0 s=.ok ps):parseTree s=if ckTree ps=0 then (ps,0,0) else ([],0,ckTree ps):=by unfold parseTree;rw [if_neg h,hl]
theorem line_cut {l:W} (h:cut4 l=none):parseLine l=.error 1:=by unfold parseLine;rw [h]
theorem line_num {l a b c d e:W} (h:cut4 l=some (a,b,c,d,e)) (hn:number b=none\/number c=none):parseLine l=.error 1:=by
 unfold parseLine
 rw [h]
 simp only []
 rcases hn with hn | hn
 ·rw [hn]
 rw [hn];cases number b <;> rfl
theorem line_need {l a b c d e:W} (h:cut4 l=some (a,b,c,d,e)) {v k:Int} (hv:number b=some v) (hk:number c=some k) (hn:(parseNd e).2≠0):parseLine l=.error (parseNd e).2:=by
 unfold parseLine
 rw [h]
 simp only []
 rw [hv,hk]
 simp only []
 by_cases h1:(parseNd e).2=1
 ·rw [if_pos h1,h1]
 rw [if_neg h1,if_pos hn]
theorem line_good {l a b c d e:W} (h:cut4 l=some (a,b,c,d,e)) {v k:Int} (hv:number b=some v) (hk:number c=some k) (hn:(parseNd e).2=0):parseLine l=.ok ⟨a,v,k,fsOf d,(parseNd e).1⟩:=by
 unfold parseLine
 rw [h]
 simp only []
 rw [hv,hk]
 simp only []
 rw [if_neg (by omega),if_neg (by omega)]
end Qm
