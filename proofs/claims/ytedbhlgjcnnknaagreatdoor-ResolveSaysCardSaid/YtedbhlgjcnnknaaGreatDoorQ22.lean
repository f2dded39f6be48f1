/- Parts. -/
import Derived.Test.YtedbhlgjcnnknaaGreatDoorQ21
set_option linter.unusedVariables false
set_option linter.unusedSimpArgs false
set_option linter.unusedSectionVars false
set_option maxRecDepth 100000
set_option maxHeartbeats 12800000
namespace Go.Proofs.YtedbhlgjcnnknaaGreatDoor
section
open Go.RowKit Qm
def ResolveP (ps:List Pk) (v:Ws) (s:Int) (w:World) (e:Ending) (w':World):Prop:=
 ∃ A n c B k d,e=.returned (.tuple #[.slice A n c,.slice B k d,.int .i64 (resE ps v s)])/\RSet w' (fun k=>w.heap.size<=k/\k<w'.heap.size) A n (resM ps v s)/\n<=c/\c<=maxLen/\RClauses w' (fun k=>w.heap.size<=k/\k<w'.heap.size) B k (resP ps v s)/\k<=d/\d<=maxLen/\Below w.heap.size w w'
theorem ResolveP.err {ps:List Pk} {v:Ws} {s z:Int} {w w':World} (he:resE ps v s=z) (hz:z≠0) (hp:resP ps v s=[]) (hb:Below w.heap.size w w'):ResolveP ps v s w (.returned (.tuple #[.slice none 0 0,.slice none 0 0,.int .i64 z])) w':=by
 have hm:resM ps v s=[]:=by unfold resM;rw [if_neg (by rw [he];exact hz)]
 exact ⟨none,0,0,none,0,0,by rw [he],by rw [hm];exact RSet.nil_,qr _,Nat.zero_le _,by rw [hp];exact RClauses.nil_,qr _,Nat.zero_le _,hb⟩
theorem resolve_any (ps:List Pk) (v:Ws) (s:Int) (S:Nat->Prop) (A:Option Addr) (n c:Nat) (A1 A2 A3 A4:Option Addr) (n1 c1 n2 c2 n3 c3 n4 c4:Nat) (w:World) (hT:RTree w S A n ps) (hnc:n<=c) (hc:c<=maxLen) (hV:WsAt w S A1 n1 c1 A2 n2 c2 A3 n3 c3 A4 n4 c4 v) (hS:∀ k,S k->k<w.heap.size) (hs : -9223372036854775808<=s) (hs':s<=9223372036854775807) :
  Calls Tryz.prog 27 #[.agg #[.slice A n c],.agg #[.slice A1 n1 c1,.slice A2 n2 c2,.slice A3 n3 c3,.slice A4 n4 c4],.int .i64 s] w (ResolveP ps v s w):=by
 have hb0:Below w.heap.size w ((w.alloc (.cells #[.slice A n c] 24)).alloc (.cells #[.slice A1 n1 c1,.slice A2 n2 c2,.slice A3 n3 c3,.slice A4 n4 c4] 30)):=((qbr _ w).alloc (qr _) _).alloc (by simp) _
 have T0:=qh ((Whole.new w w.heap.size 24 [.slice A n c] rfl).alloc (.cells #[.slice A1 n1 c1,.slice A2 n2 c2,.slice A3 n3 c3,.slice A4 n4 c4] 30))
 have W0:=qh (Whole.new (w.alloc (.cells #[.slice A n c] 24)) (w.heap.size+1) 30 [.slice A1 n1 c1,.slice A2 n2 c2,.slice A3 n3 c3,.slice A4 n4 c4] (by simp))
 have HT:=qh hT;have HV:=qh hV;have HS:=qh hS;clear hT hV hS
 have B0:=qh hb0
 have Hlt:=qh (fun (wx:World) (hb:Below w.heap.size w wx) k hk=>ql (HS.out k hk) hb.size)
 have HE:=qh (encode_any ps v S A n c A1 A2 A3 A4 n1 c1 n2 c2 n3 c3 n4 c4 _ (HT.out.under hb0 HS.out) hnc hc (HV.out.under hb0 HS.out) (Hlt.out _ hb0))
 have HSt:=qh (fun (AM:Option Addr) (nM cM:Nat) (m:List Bool) wx (hb:Below w.heap.size w wx) (hm:RBools wx (fun k=>k<wx.heap.size) AM nM m) (hn:nM<=cM/\cM<=maxLen)=>eset_any ps v m (fun k=>k<wx.heap.size) A AM n c nM cM A1 A2 A3 A4 n1 c1 n2 c2 n3 c3 n4 c4 wx ((HT.out.under hb HS.out).more fun k hk=>Hlt.out _ hb k hk) hnc hc ((HV.out.under hb HS.out).more fun k hk=>Hlt.out _ hb k hk) hm hn.1 hn.2 (fun k hk=>hk))
 have HSo:=qh (fun (F:Option Addr) (cF:Nat) wx (hr:RClauses wx (fun k=>k<wx.heap.size) F (encC ps v).length (encC ps v)) (hn:(encC ps v).length<=cF/\cF<=maxLen) (h4:encN ps v<=400)=>solve_any F (encC ps v).length cF (encN ps v:Int) s (encC ps v) wx (fun k=>k<wx.heap.size) (fun k hk=>hk) hr hn (by omega) (by omega) hs hs')
 obtain ⟨z,hz⟩:∃ z,ckWish ps v=z:=⟨_,rfl⟩
 have HZ:=qh hz;clear hz
 have HFL:Hid (ckWish ps v=0->encN ps v<=400):=qh fun h=>by rw [(encN_of h).1];exact (encW_ok h).n400
 obtain ⟨L,hL⟩:∃ L,(encC ps v).length=L:=⟨_,rfl⟩
 have HL:=qh hL;clear hL
 clear hb0
 go_enter Tryz.func27,Tryz.ntmps27
 go_upto_region 2 with (first | (go_at_call 12;refine HE.out.mono ?_;rintro e w2 ⟨F,cF,rfl,hcl,hcc,hcm,hb2⟩;rw [HZ.out,HL.out];refine Hid.out ?_))
 refine qh ?_
 rw [HL.out] at hcl hcc
 have T2:=qh (T0.out.below hb2 T0.out.lt)
 have W2:=qh (W0.out.below hb2 W0.out.lt)
 have B2:=qh (B0.out.trans (hb2.mono B0.out.size))
 have HCL:=qh (hcl.more (S':=fun k=>k<w2.heap.size) fun k hk=>hk.2)
 clear hb2 hcl T0 W0 B0 HE
 by_cases hz0:z=0
 ·subst hz0
  have hN4:=HFL.out HZ.out
  have hb3:Below w2.heap.size w2 (w2.alloc (.cells #[.int .i64 (encN ps v:Int),.slice F L cF] 33)):=(qbr _ w2).alloc (qr _) _
  have T3:=qh (T2.out.below hb3 T2.out.lt)
  have W3:=qh (W2.out.below hb3 W2.out.lt)
  have B3:=qh (B2.out.trans (hb3.mono B2.out.size))
  have F3:=qh (Whole.new w2 w2.heap.size 33 [.int .i64 (encN ps v:Int),.slice F L cF] rfl)
  have HSV:=qh (by
   have h:=HSo.out F cF (w2.alloc (.cells #[.int .i64 (encN ps v:Int),.slice F L cF] 33)) (by rw [HL.out];exact (HCL.out.below hb3 fun k hk=>hk).more fun k hk=>ql hk hb3.size) (by rw [HL.out];exact ⟨hcc,hcm⟩) hN4
   rw [HL.out] at h
   exact h)
  obtain ⟨y,hy⟩:∃ y,slvE ps v s=y:=⟨_,rfl⟩
  have HY:=qh hy;clear hy
  have f0:=F3.out.cell 0;have f1:=F3.out.cell 1
  simp only [qgz,qgs] at f0 f1
  unfold maxLen at hcm
  clear hb3 T2 W2 B2 HCL HSo
  go_upto_region 5 with (first | (go_at_call 26;refine HSV.out.mono ?_;rintro e w4 ⟨AM,nM,cM,AP,nP,cP,rfl,hM,hMc,hP,hPc,hb4⟩;refine Hid.out ?_))
  refine qh ?_
  have hyy:solveErr (encN ps v:Int) (encC ps v) s=y:=HY.out
  rw [hyy]
  have T4:=qh (T3.out.below hb4 T3.out.lt)
  have W4:=qh (W3.out.below hb4 W3.out.lt)
  have B4:=qh (B3.out.trans (hb4.mono B3.out.size))
  have hPL:=hP.len
  have HM:=qh ((show RBools w4 _ AM nM (slvM ps v s) from hM).more (S':=fun k=>k<w4.heap.size) fun k hk=>hk.2)
  have HP:=qh ((show RClauses w4 _ AP nP (slvP ps v s) from hP).more (S':=fun k=>w.heap.size<=k/\k<w4.heap.size) fun k hk=>⟨qlt B3.out.size hk.1,hk.2⟩)
  have HPL:Hid ((slvP ps v s).length=nP):=qh hPL
  obtain ⟨hMc1,hMc2⟩:=hMc
  obtain ⟨hPc1,hPc2⟩:=hPc
  clear hb4 hM hP hPL hyy f0 f1 F3 T3 W3 B3 HSV
  by_cases hy0:y=0
  ·subst hy0
   have hb5:Below w4.heap.size w4 (w4.alloc (.cells #[.slice AM nM cM,.slice AP nP cP] 59)):=(qbr _ w4).alloc (qr _) _
   have T5:=qh (T4.out.below hb5 T4.out.lt)
   have W5:=qh (W4.out.below hb5 W4.out.lt)
   have B5:=qh (B4.out.trans (hb5.mono B4.out.size))
   have A5:=qh (Whole.new w4 w4.heap.size 59 [.slice AM nM cM,.slice AP nP cP] rfl)
   have a0:=A5.out.cell 0;have a1:=A5.out.cell 1
   simp only [qgz,qgs] at a0 a1
   by_cases hp0:nP=0
   ·subst hp0
    have hpn:slvP ps v s=[]:=List.length_eq_zero_iff.1 HPL.out
    obtain ⟨hE0,hV0,hR0⟩:=res_setE HZ.out HY.out hpn
    have HSE:=qh (by
     have h:=HSt.out AM nM cM (slvM ps v s) (w4.alloc (.cells #[.slice AM nM cM,.slice AP 0 cP] 59)) B5.out (RBools.more (RBools.below HM.out hb5 fun k hk=>hk) fun k hk=>ql hk hb5.size) ⟨hMc1,hMc2⟩
     unfold SetP at h
     rw [hE0,hV0] at h
     exact h)
    have t0:=T5.out.cell 0;obtain ⟨u0,u1,u2,u3⟩:=ch4 W5.out.cell
    simp only [qgz,qgs] at t0 u0 u1 u2 u3
    have HRP:Hid (resP ps v s=[]):=qh (by unfold resP;rw [if_neg (by rw [HZ.out,HY.out];simp)];exact hpn)
    have HR0:=qh hR0
    unfold maxLen at hMc2
    clear hb5 hE0 hV0 hR0 hpn
    go_wp2_with (first | (go_at_call 15;refine HSE.out.mono ?_;rintro e w6 ⟨Aq,cq,rfl,hq,hq1,hq2,hb6⟩;refine Hid.out ?_))
    refine qh ?_
    have B6:=qh (B5.out.trans (hb6.mono B5.out.size))
    have HQ:=qh (hq.more (S':=fun k=>w.heap.size<=k/\k<w6.heap.size) fun k hk=>⟨qlt B5.out.size hk.1,hk.2⟩)
    clear hb6 hq
    go_wp2
    go_ret3
    exact ⟨Aq,_,cq,none,0,0,by rw [HR0.out];rfl,HQ.out,hq1,hq2,by rw [HRP.out];exact RClauses.nil_,qr _,Nat.zero_le _,B6.out⟩
   have hp1:(0:Int)<nP:=by omega
   have HRP:Hid (resP ps v s=slvP ps v s):=qh (by unfold resP;rw [if_neg (by rw [HZ.out,HY.out];simp)])
   have HR7:Hid (resE ps v s=7):=qh (by unfold resE;rw [if_neg (by rw [HZ.out];simp),if_neg (by rw [HY.out];simp),if_pos (by rw [HPL.out];omega)])
   have HP5:=qh ((HP.out.below hb5 fun k hk=>hk.2).more (S':=fun k=>w.heap.size<=k/\k<(w4.alloc (.cells #[.slice AM nM cM,.slice AP nP cP] 59)).heap.size) fun k hk=>⟨hk.1,ql hk.2 hb5.size⟩)
   unfold maxLen at hPc2
   clear hb5
   go_upto_region 8 with fail
   go_region
   go_wp2
   go_ret3
   exact ⟨none,0,0,AP,nP,cP,by rw [HR7.out];rfl,by unfold resM;rw [if_neg (by rw [HR7.out];decide)];exact RSet.nil_,qr _,Nat.zero_le _,by rw [HRP.out];exact HP5.out.keep fun _ _=>rfl,hPc1,hPc2,below_drewN B5.out 1⟩
  have hyb:(y == 0)=false:=by simpa using hy0
  have HRY:Hid (resE ps v s=y):=qh (by unfold resE;rw [if_neg (by rw [HZ.out];simp),if_pos (by rw [HY.out];exact hy0)];exact HY.out)
  have HRP:Hid (resP ps v s=[]):=qh (by unfold resP;rw [if_pos (.inr (by rw [HY.out];exact hy0))])
  have B5:Hid (Below w.heap.size w (w4.alloc (.cells #[.slice AM nM cM,.slice AP nP cP] 59))):=qh (B4.out.alloc B4.out.size _)
  go_wp2
  go_ret3
  exact ResolveP.err HRY.out hy0 HRP.out B5.out
 have hzb:(z == 0)=false:=by simpa using hz0
 have HRZ:=qh (res_bad (s:=s) (by rw [HZ.out];exact hz0))
 have B3:Hid (Below w.heap.size w (w2.alloc (.cells #[.int .i64 (encN ps v:Int),.slice F L cF] 33))):=qh (B2.out.alloc B2.out.size _)
 go_wp2
 go_ret3
 exact ResolveP.err (HRZ.out.1.trans HZ.out) hz0 HRZ.out.2.2 B3.out
end
section
open Go.RowKit Qm
theorem WsAt.mask {w:World} {S:Nat->Prop} {A1 A2 A3 A4:Option Addr} {n1 c1 n2 c2 n3 c3 n4 c4:Nat} {v:Ws} (h:WsAt w S A1 n1 c1 A2 n2 c2 A3 n3 c3 A4 n4 c4 v) {A:Option Addr} {n c:Nat} {ms:List Int} (hr:RInts w S A n ms) (hn:n<=c) (hc:c<=maxLen) :
  WsAt w S A1 n1 c1 A2 n2 c2 A n c A4 n4 c4 { v with ms:=ms } := ⟨h.h1,h.h2,⟨hn,hc⟩,h.h4,h.ts,h.ins,hr,h.on⟩
def UnmaskP (ps:List Pk) (v:Ws) (w:World) (e:Ending) (w':World):Prop:=
 ∃ A n c,e=.returned (.tuple #[.slice A n c,.int .i64 (unmE ps v)])/\RInts w' (fun k=>w.heap.size<=k/\k<w'.heap.size) A n (unmL ps v)/\n<=c/\c<=maxLen/\Below w.heap.size w w'
theorem UnmaskP.err {ps:List Pk} {v:Ws} {z:Int} {w w':World} (he:unmE ps v=z) (hz:z≠0) (hb:Below w.heap.size w w'):UnmaskP ps v w (.returned (.tuple #[.slice none 0 0,.int .i64 z])) w':=by
 have hm:unmL ps v=[]:=by unfold unmL;rw [if_neg (by rw [he];exact hz)]
 exact ⟨none,0,0,by rw [he],by rw [hm];exact RInts.nil_,qr _,Nat.zero_le _,hb⟩
structure Um (w:World) (A:Option Addr) (n c:Nat) (A1:Option Addr) (n1 c1:Nat) (A2:Option Addr) (n2 c2:Nat) (A4:Option Addr) (n4 c4:Nat) (AM:Option Addr) (nM cM:Nat) (acc out:List Int) (cv:Value) (wr:World):Prop where
 b:Below w.heap.size w wr
 t:Whole wr w.heap.size 24 [.slice A n c]
 wi:Whole wr (w.heap.size+1) 30 [.slice A1 n1 c1,.slice A2 n2 c2,.slice AM nM cM,.slice A4 n4 c4]
 ms:RInts wr (fun k=>w.heap.size+1<k/\k<wr.heap.size/\cv.ownBlock≠some k) AM nM acc
 hn:nM<=cM/\cM<=maxLen
 o:wr.ownsRow (w.heap.size+1+1) 3 1 cv out.length (out.map (Value.int .i64))
section
variable {w : World} {A : Option Addr} {n c : Nat} {A1 A2 A4 AM : Option Addr} {n1 c1 n2 c2 n4 c4 nM cM : Nat} {acc out : List Int} {cv : Value} {wr wy : World}
theorem Um.move (h:Um w A n c A1 n1 c1 A2 n2 c2 A4 n4 c4 AM nM cM acc out cv wr) (hb:Below wr.heap.size wr wy):Um w A n c A1 n1 c1 A2 n2 c2 A4 n4 c4 AM nM cM acc out cv wy:=
 ⟨h.b.trans (hb.mono h.b.size),h.t.below hb h.t.lt,h.wi.below hb h.wi.lt,(h.ms.below hb fun k hk=>hk.2.1).more fun k hk=>⟨hk.1,ql hk.2.1 hb.size,hk.2.2⟩,h.hn,(Far.of_below (fun _=>False) hb).own h.o fun _ _ h=>h⟩
theorem Um.retake (h:Um w A n c A1 n1 c1 A2 n2 c2 A4 n4 c4 AM nM cM acc out cv wr) {A6:Option Addr} {n6 c6:Nat} {acc':List Int} (hr:RInts wr (fun k=>w.heap.size+1<k/\k<wr.heap.size/\cv.ownBlock≠some k) A6 n6 acc') (hn:n6<=c6/\c6<=maxLen) :
  Um w A n c A1 n1 c1 A2 n2 c2 A4 n4 c4 A6 n6 c6 acc' out cv ((((wr.setCell ⟨w.heap.size+1,0,none⟩ (.slice A1 n1 c1)).setCell ⟨w.heap.size+1,1,none⟩ (.slice A2 n2 c2)).setCell ⟨w.heap.size+1,2,none⟩ (.slice A6 n6 c6)).setCell ⟨w.heap.size+1,3,none⟩ (.slice A4 n4 c4)):=by
 have far:Far (fun i=>i=w.heap.size+1) wr ((((wr.setCell ⟨w.heap.size+1,0,none⟩ (.slice A1 n1 c1)).setCell ⟨w.heap.size+1,1,none⟩ (.slice A2 n2 c2)).setCell ⟨w.heap.size+1,2,none⟩ (.slice A6 n6 c6)).setCell ⟨w.heap.size+1,3,none⟩ (.slice A4 n4 c4)):=
  (((Far.set_ (D:=fun i=>i=w.heap.size+1) rfl 0 (.slice A1 n1 c1)).trans (Far.set_ (D:=fun i=>i=w.heap.size+1) rfl 1 (.slice A2 n2 c2)) fun _ _ h=>h).trans (Far.set_ (D:=fun i=>i=w.heap.size+1) rfl 2 (.slice A6 n6 c6)) fun _ _ h=>h).trans (Far.set_ (D:=fun i=>i=w.heap.size+1) rfl 3 (.slice A4 n4 c4)) fun _ _ h=>h
 refine ⟨(((h.b.setCell (p:=⟨w.heap.size+1,0,none⟩) (Nat.le_succ _) _).setCell (p:=⟨w.heap.size+1,1,none⟩) (Nat.le_succ _) _).setCell (p:=⟨w.heap.size+1,2,none⟩) (Nat.le_succ _) _).setCell (p:=⟨w.heap.size+1,3,none⟩) (Nat.le_succ _) _,far.whole h.t (by show ¬ (w.heap.size=w.heap.size+1);omega), ?_,
  (far.ints hr fun i hi=>⟨hi.2.1,by show ¬ (i=w.heap.size+1);omega⟩).more fun i hi=>⟨hi.1,ql hi.2.1 far.size,hi.2.2⟩,hn,far.own h.o fun g hg=>by have:=(h.o.lt g hg).1;show ¬ (g=w.heap.size+1);omega⟩
 exact (((h.wi.set_ 0 (.slice A1 n1 c1)).set_ 1 (.slice A2 n2 c2)).set_ 2 (.slice A6 n6 c6)).set_ 3 (.slice A4 n4 c4)
theorem Um.lt (h:Um w A n c A1 n1 c1 A2 n2 c2 A4 n4 c4 AM nM cM acc out cv wr):w.heap.size+1<wr.heap.size:=h.wi.lt
theorem Um.push (h:Um w A n c A1 n1 c1 A2 n2 c2 A4 n4 c4 AM nM cM acc out cv wr) {k:Int} {o:Obj} {cv':Value} (hown:wy.ownsRow (w.heap.size+1+1) 3 1 cv' (out.length+1) (out.map (Value.int .i64)++[.int .i64 k])) (hg:(wr.alloc o).grownBy wy cv.ownBlock)
  (hv:cv'.ownBlock=cv.ownBlock\/cv'.ownBlock=some (wr.alloc o).heap.size):Um w A n c A1 n1 c1 A2 n2 c2 A4 n4 c4 AM nM cM acc (out++[k]) cv' wy:=by
 have hal:Below wr.heap.size wr (wr.alloc o):=(qbr _ wr).alloc (qr _) _
 have far:Far (fun i=>cv.ownBlock=some i) wr wy:=(Far.of_below _ hal).trans (Far.of_grown hg fun i h=>h.symm) fun _ _ h=>h
 have hge:∀ i,cv.ownBlock=some i->w.heap.size+1+1<=i:=fun i e=>(h.o.lt i e).1
 have hs:=far.size
 refine ⟨h.b.trans ((hal.mono h.b.size).grown hg (by have:=h.b.size;simp;omega) fun i e=>by have:=hge i e;omega),far.whole h.t fun e=>by have:=hge _ e;omega,far.whole h.wi fun e=>by have:=hge _ e;omega,
  (far.ints h.ms fun i hi=>⟨hi.2.1,hi.2.2⟩).more fun i hi=>⟨hi.1,ql hi.2.1 hs, ?_⟩,h.hn,by rw [List.length_append,List.map_append];exact hown⟩
 rcases hv with e | e
 ·rw [e];exact hi.2.2
 rw [e];intro e2;injection e2 with e2;have:=hi.2.1;simp at e2;omega
end
theorem unmask_any (ps:List Pk) (v:Ws) (S:Nat->Prop) (A:Option Addr) (n c:Nat) (A1 A2 A3 A4:Option Addr) (n1 c1 n2 c2 n3 c3 n4 c4:Nat) (w:World) (hT:RTree w S A n ps) (hnc:n<=c) (hc:c<=maxLen) (hV:WsAt w S A1 n1 c1 A2 n2 c2 A3 n3 c3 A4 n4 c4 v) (hS:∀ k,S k->k<w.heap.size) :
  Calls Tryz.prog 28 #[.agg #[.slice A n c],.agg #[.slice A1 n1 c1,.slice A2 n2 c2,.slice A3 n3 c3,.slice A4 n4 c4],.int .i64 40000] w (UnmaskP ps v w):=by
 have hb0:Below w.heap.size w ((w.alloc (.cells #[.slice A n c] 24)).alloc (.cells #[.slice A1 n1 c1,.slice A2 n2 c2,.slice A3 n3 c3,.slice A4 n4 c4] 30)):=((qbr _ w).alloc (qr _) _).alloc (by simp) _
 have T0:=qh ((Whole.new w w.heap.size 24 [.slice A n c] rfl).alloc (.cells #[.slice A1 n1 c1,.slice A2 n2 c2,.slice A3 n3 c3,.slice A4 n4 c4] 30))
 have W0:=qh (Whole.new (w.alloc (.cells #[.slice A n c] 24)) (w.heap.size+1) 30 [.slice A1 n1 c1,.slice A2 n2 c2,.slice A3 n3 c3,.slice A4 n4 c4] (by simp))
 obtain ⟨hn3,hc3⟩:=hV.h3
 have HT:=qh hT;have HV:=qh hV;have HS:=qh hS;clear hT hV hS
 have B0:=qh hb0
 have Hlt:=qh (fun (wx:World) (hb:Below w.heap.size w wx) k hk=>ql (HS.out k hk) hb.size)
 have HCK:=qh (cwish_any ps v S A n c A1 A2 A3 A4 n1 c1 n2 c2 n3 c3 n4 c4 _ (HT.out.under hb0 HS.out) hnc hc (HV.out.under hb0 HS.out) (Hlt.out _ hb0))
 have HRS:=qh (fun (AM:Option Addr) (nM cM:Nat) (ms:List Int) wx (hb:Below w.heap.size w wx) (hm:RInts wx (fun k=>k<wx.heap.size) AM nM ms) (hn:nM<=cM) (hcM:cM<=maxLen)=>resolve_any ps { v with ms:=ms } 40000 (fun k=>k<wx.heap.size) A n c A1 A2 AM A4 n1 c1 n2 c2 nM cM n4 c4 wx ((HT.out.under hb HS.out).more fun k hk=>Hlt.out _ hb k hk) hnc hc (((HV.out.under hb HS.out).more fun k hk=>Hlt.out _ hb k hk).mask hm hn hcM) (fun k hk=>hk) (by decide) (by decide))
 obtain ⟨z,hz⟩:∃ z,ckWish ps v=z:=⟨_,rfl⟩
 have HZ:=qh hz;clear hz
 clear hb0
 go_enter Tryz.func28,Tryz.ntmps28
 go_upto_region 2 with (first | (go_at_call 34;refine HCK.out.mono ?_;rintro e w2 ⟨rfl,hb2⟩;rw [HZ.out];refine Hid.out ?_))
 refine qh ?_
 have T2:=qh (T0.out.below hb2 T0.out.lt)
 have W2:=qh (W0.out.below hb2 W0.out.lt)
 have B2:=qh (B0.out.trans (hb2.mono B0.out.size))
 clear hb2 T0 W0 B0 HCK
 by_cases hz0:z=0
 ·subst hz0
  obtain ⟨u0,u1,u2,u3⟩:=ch4 W2.out.cell;have y2:=W2.out.free 2
  have t0:=T2.out.cell 0
  simp only [qgz,qgs] at t0 u0 u1 u2 u3
  go_upto_region 6 with fail
  have T3:=qh (T2.out.far (p:=⟨w.heap.size+1,2,none⟩) (by show w.heap.size≠w.heap.size+1;omega) (.slice none 0 0))
  have W3:=qh (W2.out.set_ 2 (.slice none 0 0))
  have B3:=qh (B2.out.setCell (p:=⟨w.heap.size+1,2,none⟩) (Nat.le_succ _) (.slice none 0 0))
  clear u0 u1 u2 u3 y2 t0 T2 W2 B2
  generalize w2.setCell ⟨w.heap.size+1,2,none⟩ (.slice none 0 0)=w3 at *
  obtain ⟨u0,u1,u2,u3⟩:=ch4 W3.out.cell
  have t0:=T3.out.cell 0
  simp only [qgz,qgs,List.set_cons_succ,List.set_cons_zero] at t0 u0 u1 u2 u3
  have HR3:=qh (HRS.out none 0 0 [] w3 B3.out RInts.nil_ (qr _) (Nat.zero_le _))
  obtain ⟨y,hy⟩:∃ y,resE ps { v with ms:=[] } 40000=y:=⟨_,rfl⟩
  have HY:=qh hy;clear hy
  have HUY:Hid (unmE ps v=y):=qh (by unfold unmE;rw [if_neg (by rw [HZ.out];simp)];exact HY.out)
  go_upto_region 7 with (first | (go_at_call 27;refine HR3.out.mono ?_;rintro e w4 ⟨Aa,na,ca,Ab,nb,cb,rfl,-,-,-,-,-,-,hb4⟩;rw [HY.out];refine Hid.out ?_))
  refine qh ?_
  have T4:=qh (T3.out.below hb4 T3.out.lt)
  have W4:=qh (W3.out.below hb4 W3.out.lt)
  have B4:=qh (B3.out.trans (hb4.mono B3.out.size))
  clear hb4 u0 u1 u2 u3 t0 T3 W3 B3 HR3
  by_cases hy0:y=0
  ·subst hy0
   have U4:Hid (Um w A n c A1 n1 c1 A2 n2 c2 A4 n4 c4 none 0 0 [] [] (.slice none 0 0) w4):=qh ⟨B4.out,T4.out,W4.out,RInts.nil_,⟨qr _,Nat.zero_le _⟩,World.ownsRow_nil _ _ _ _⟩
   obtain ⟨i0,hi0,hz1,hz2,hz3⟩:=info_parts int_infoE
   have Hi:=qh hi0;have Hz0:=qh hz1;have Hz1:=qh hz2;have Hz2:=qh hz3
   have hms8:v.ms.length<=100000:=by
    have W:=wish_parts HZ.out
    have h1:=ckMask_short W.ms
    have h2:=ckTree_len W.tree
    omega
   have hn38:n3<=100000:=by rw [<- HV.out.ms.len];exact hms8
   clear hi0 hz1 hz2 hz3 T4 W4 B4
   unfold maxLen at hc3
   go_wp2
   go_loopg [42,13] n3 (fun g iv ov wr=>∃ (j:Nat) (AM:Option Addr) (nM cM:Nat) (acc out:List Int),Hid (j+g=n3)/\iv=.int .i64 j/\Hid (unmAll (qMay ps v) (v.ms.take j)=(acc,out))/\acc.length<=j/\out.length<=j/\Hid (Um w A n c A1 n1 c1 A2 n2 c2 A4 n4 c4 AM nM cM acc out ov wr))
   case atStart=>exact ⟨0,none,0,0,[],[],qh (Nat.zero_add _),rfl,qh rfl,qr _,qr _,U4⟩
   case round =>
    obtain ⟨j,AM,nM,cM,acc,out,Hj,rfl,HA,hacl,houl,HU⟩:=hrel
    clear U4
    by_cases hj:j<n3
    ·obtain ⟨b,o,rfl,hbS,hcell⟩:=(HV.out.under HU.out.b HS.out).ms.at_ hj
     have hjs:v.ms[j]? = some (v.ms.getD j 0):=by
      have hl:j<v.ms.length:=by rw [HV.out.ms.len];exact hj
      rw [qgd,qge hl];rfl
     generalize v.ms.getD j 0=k at hcell hjs
     have hst:=unm_step HUY.out hjs
     rw [HA.out] at hst
     dsimp only at hst
     have HST:=qh hst
     have hbl:b<wr.heap.size:=ql (HS.out _ hbS) HU.out.b.size
     have hj1:(j:Int)<n3:=by omega
     have hj0:(0:Int)<=(j:Int):=by omega
     have hnMl:nM<=100000:=by have:=HU.out.ms.len;omega
     have HNM:Hid (nM=acc.length):=qh HU.out.ms.len.symm
     have hb7:Below wr.heap.size wr (wr.alloc (.cells #[.slice A1 n1 c1,.slice A2 n2 c2,.slice AM nM cM,.slice A4 n4 c4] 30)):=(qbr _ wr).alloc (qr _) _
     have U7:=qh (HU.out.move hb7)
     have HB7:=qh hb7
     have TB7:=qh (Whole.new wr wr.heap.size 30 [.slice A1 n1 c1,.slice A2 n2 c2,.slice AM nM cM,.slice A4 n4 c4] rfl)
     have HCl:=qh (cloneInts_any AM nM cM (acc.map (Value.int .i64)) (wr.alloc (.cells #[.slice A1 n1 c1,.slice A2 n2 c2,.slice AM nM cM,.slice A4 n4 c4] 30)) (fun k=>k<(wr.alloc (.cells #[.slice A1 n1 c1,.slice A2 n2 c2,.slice AM nM cM,.slice A4 n4 c4] 30)).heap.size) (U7.out.ms.more fun k hk=>hk.2.1) (fun u hu=>by obtain ⟨x,_,rfl⟩:=List.mem_map.1 hu;rfl) (fun k hk=>hk) (by omega))
     obtain ⟨u0,u1,u2,u3⟩:=ch4 HU.out.wi.cell
     have v2:=U7.out.wi.cell 2
     simp only [qgz,qgs] at u0 u1 u2 u3 v2
     have hcm:=HU.out.hn.2
     unfold maxLen at hcm
     have hwl:=HU.out.lt
     have HHN:=qh HU.out.hn
     clear hst hjs hb7
     go_upto_region 14 with fail
     clear u0 u1 u2 u3 hcell
     have htb:wr.heap.size<(wr.alloc (.cells #[.slice A1 n1 c1,.slice A2 n2 c2,.slice AM nM cM,.slice A4 n4 c4] 30)).heap.size:=by simp
     generalize wr.alloc (.cells #[.slice A1 n1 c1,.slice A2 n2 c2,.slice AM nM cM,.slice A4 n4 c4] 30)=wt at *
     go_upto_region 15 with (first | (go_at_call 39;refine HCl.out.mono ?_;rintro e w5 ⟨A5,c5,rfl,hn5,hc5,hown5,hb5⟩;refine Hid.out ?_))
     refine qh ?_
     have hg5:=hown5.lt
     have HO5:=qh hown5
     have HB5:=qh hb5
     have TB5:=qh (TB7.out.below hb5 TB7.out.lt)
     unfold maxLen at hc5
     clear hown5 hb5 HCl v2
     go_upto_region 15 with (at_builtin;refine wpList_append_own_at _ rfl _ _ 27 rfl wt.heap.size 3 i0 (.int .i64 0) 1 8 Tryz.underlying27 Hi.out Hz0.out Hz1.out Hz2.out rfl (by decide) _ _ _ rfl (HO5.out.alloc _) ⟨w5.heap.size,0,none⟩ 1 1 [.int .i64 k] rfl rfl ?e1 ?e2 ?e3 ?e4 ?e5 ?_)
     case e1=>exact cell_one_new _ _ _
     case e2=>simp [Value.oneCell']
     case e3=>unfold maxLen;omega
     case e4=>omega
     case e5=>have:=HB5.out.size;simp;omega
     intro cv' w6 hown6 hg6 _ hat6
     obtain ⟨A6,c6,rfl,hn6,hc6,hrow6⟩:=own_form hown6
     have TB6:=qh ((TB5.out.alloc _).grown hg6 (fun e=>by have:=(hg5 _ e.symm).1;omega))
     have HB6:Hid (Below wr.heap.size wr w6):=qh ((((HB7.out.trans (HB5.out.mono (Nat.le_of_lt htb))).alloc (by have:=HB5.out.size;omega) _)).grown hg6 (by have:=HB5.out.size;simp;omega) (fun g e=>by have:=(hg5 _ e).1;omega))
     have z2:=TB6.out.cell 2;have f2:=TB6.out.free 2
     simp only [qgz,qgs] at z2
     have HR6:=qh hrow6
     clear hown6 hg6 hat6 hrow6 HO5 TB5 hg5
     go_upto_region 15 with fail
     have TB7':=qh (TB6.out.set_ 2 (.slice A6 (nM+1) c6))
     have HB7':=qh (HB6.out.setCell (p:=⟨wr.heap.size,2,none⟩) (qr _) (.slice A6 (nM+1) c6))
     have hr7:RInts (w6.setCell ⟨wr.heap.size,2,none⟩ (.slice A6 (nM+1) c6)) (fun k=>wr.heap.size<k/\k<(w6.setCell ⟨wr.heap.size,2,none⟩ (.slice A6 (nM+1) c6)).heap.size) A6 (nM+1) (acc++[k]):=by
      have h1:RInts w6 (fun k=>wt.heap.size<=k/\k<w6.heap.size) A6 (nM+1) (acc++[k]):=by
       have h:=HR6.out
       unfold RInts
       rw [List.map_append];exact h
      refine (h1.keep fun p hp=>World.cell?_of_block (heap_setCell_other _ _ _ _ (by show p.block≠wr.heap.size;have:=hp.1;omega))).more fun i hi=>⟨by have:=hi.1;omega,by simpa [World.setCell] using hi.2⟩
     have HR7:=qh hr7
     clear hr7 z2 f2 TB6 HB6 HR6 TB7 HB7 HB5 U7
     generalize w6.setCell ⟨wr.heap.size,2,none⟩ (.slice A6 (nM+1) c6)=w7 at *
     have U7:=qh (HU.out.move HB7'.out)
     have hc6':=hc6
     unfold maxLen at hc6'
     have HRR:=qh (HRS.out A6 (nM+1) c6 (acc++[k]) w7 U7.out.b (HR7.out.more fun i hi=>hi.2) hn6 hc6)
     have t0:=U7.out.t.cell 0
     obtain ⟨z0,z1,z2,z3⟩:=ch4 TB7'.out.cell
     simp only [qgz,qgs,List.set_cons_succ,List.set_cons_zero] at t0 z0 z1 z2 z3
     obtain ⟨y,hy⟩:∃ y,resE ps { v with ms:=acc++[k] } 40000=y:=⟨_,rfl⟩
     have hst:=HST.out
     rw [hy] at hst
     have HY2:=qh hy
     have HST2:=qh hst
     have HOL:=qh HU.out.o.lt
     clear hy hst HST HU
     go_upto_region 16 with (first | (go_at_call 27;refine HRR.out.mono ?_;rintro e w8 ⟨Ax,nx,cx,Ay,ny,cy,rfl,-,-,-,-,-,-,hb8⟩;rw [HY2.out];refine Hid.out ?_))
     refine qh ?_
     have U8:=qh (U7.out.move hb8)
     have TB8:=qh (TB7'.out.below hb8 TB7'.out.lt)
     have HR8:=qh ((HR7.out.below hb8 fun i hi=>hi.2).more (S':=fun i=>wr.heap.size<i/\i<w8.heap.size) fun i hi=>⟨hi.1,ql hi.2 hb8.size⟩)
     clear hb8 t0 z0 z1 z2 z3 U7 TB7' HR7 HRR HB7'
     obtain ⟨_,⟨hy0,hnx⟩ | ⟨hy7,hnx⟩⟩:=HST2.out
     ·subst hy0
      obtain ⟨z0,z1,z2,z3⟩:=ch4 TB8.out.cell
      obtain ⟨u0,u1,u2,u3⟩:=ch4 U8.out.wi.cell
      obtain ⟨f0,f1,f2,f3⟩:=ch4 U8.out.wi.free
      simp only [qgz,qgs,List.set_cons_succ,List.set_cons_zero] at z0 z1 z2 z3 u0 u1 u2 u3
      have UX:=qh (U8.out.retake (HR8.out.more fun i hi=>⟨by omega,hi.2,fun e=>by have:=(HOL.out i e).2;omega⟩) ⟨hn6,hc6⟩)
      go_wp2
      go_roundg (gk - 1)
      case measure=>have:=Hj.out;omega
      case rel=>exact ⟨j+1,A6,nM+1,c6,acc++[k],out,qh (by have:=Hj.out;omega),by go_num,qh hnx,by simp;omega,by omega,UX⟩
     subst hy7
     go_wp2_with (at_builtin;refine wpList_append_own_at _ rfl _ _ 27 rfl (w.heap.size+1+1) 3 i0 (.int .i64 0) 1 8 Tryz.underlying27 Hi.out Hz0.out Hz1.out Hz2.out rfl (by decide) _ _ _ rfl (U8.out.o.alloc _) ⟨w8.heap.size,0,none⟩ 1 1 [.int .i64 k] rfl rfl ?kk1 ?kk2 ?kk3 ?kk4 ?kk5 ?_)
     case kk2=>simp [Value.oneCell']
     case kk3=>unfold maxLen;omega
     case kk4=>omega
     case kk5=>have:=U8.out.b.size;have:=U8.out.lt;simp;omega
     intro cv' w9 hown9 hg9 _ hat9
     have UX:=qh (U8.out.push hown9 hg9 (by simpa using hat9))
     clear hown9 hg9 hat9
     go_wp2
     go_roundg (gk - 1)
     case measure=>have:=Hj.out;omega
     case rel=>exact ⟨j+1,_,_,_,acc,out++[k],qh (by have:=Hj.out;omega),by go_num,qh hnx,by omega,by simp;omega,UX⟩
    obtain rfl:n3=j:=by have:=Hj.out;omega
    have hall:v.ms.take n3=v.ms:=List.take_of_length_le (by rw [HV.out.ms.len];exact qr _)
    have ha:=HA.out
    rw [hall] at ha
    have HUL:Hid (unmL ps v=out):=qh (by unfold unmL;rw [if_pos HUY.out,ha])
    obtain ⟨Ao,co,rfl,hno,hco,hrow⟩:=own_form HU.out.o
    have HRO:Hid (RInts wr (fun k=>w.heap.size<=k/\k<wr.heap.size) Ao out.length out):=qh (Row.more hrow fun k hk=>⟨by have:=hk.1;omega,hk.2⟩)
    clear hall ha hrow
    go_wp2
    go_ret2
    exact ⟨Ao,_,co,by rw [HUY.out];rfl,by rw [HUL.out];exact HRO.out,hno,hco,HU.out.b⟩
  have hyb:(y == 0)=false:=by simpa using hy0
  go_wp2
  go_ret2
  exact UnmaskP.err HUY.out hy0 B4.out
 have hzb:(z == 0)=false:=by simpa using hz0
 have HRZ:Hid (unmE ps v=z):=qh (by unfold unmE;rw [if_pos (by rw [HZ.out];exact hz0)];exact HZ.out)
 go_wp2
 go_ret2
 exact UnmaskP.err HRZ.out hz0 B2.out
end
section
open Go.RowKit Qm
theorem flat_lenG {K:Nat}:∀ {cs:List (List Value)},(∀ x∈cs,x.length=K)->cs.flatten.length=cs.length * K
 | [],_=>by simp
 | c :: r,h=>by
  have:=flat_lenG (K:=K) (cs:=r) fun x hx=>h x (List.mem_cons_of_mem _ hx)
  have h0:=h c (List.mem_cons_self ..)
  rw [List.flatten_cons,List.length_append,this,h0,List.length_cons,Nat.succ_mul];omega
theorem RSeq.whole {α:Type} {K:Nat} {R:List Value->α->Prop} {w:World} {S:Nat->Prop} {b n:Nat} {t:TypeId} (cs:List (List Value)) (ys:List α) (h:Whole w b t cs.flatten) (hl:ys.length=n) (hn:cs.length=n) (hK:∀ x∈cs,x.length=K)
  (hR:∀ (j:Nat) (x:List Value) (y:α),cs[j]? = some x->ys[j]? = some y->R x y) (hb:S b):RSeq K R w S (some ⟨b,0,none⟩) n ys:=
 ⟨cs,hl,hn,h.row hb (by rw [flat_lenG hK,hn]),hK,hR⟩
end
section
open Go.RowKit Qm
structure Re (w:World) (T:Nat) (A:Option Addr) (c:Nat) (ab:Nat) (ta:At) (KA:Option Addr) (kn:Nat) (ks:List Int) (wx:World):Prop where
 t:RTree wx (fun i=>i<T) A 4 smallT
 tb:Whole wx T 24 [.slice A 4 c]
 a:Whole wx ab 75 (atRow ta)
 m:Whole wx (T+1+1) 85 [.int .i64 3,.slice none 0 0]
 v:Whole wx (T+1+1+1) 30 [.slice (some ⟨ab,0,none⟩) 1 1,.slice (some ⟨T+1+1,0,none⟩) 1 1,.slice KA kn kn,.slice none 0 0]
 k:RInts wx (fun i=>T+1+1+1<i/\i<wx.heap.size) KA kn ks
 ok:(ta.nm.length<=maxLen/\ta.fl.length<=maxLen)/\kn<=maxLen/\ab≠T+1+1+1
 bel:Below w.heap.size w wx
 hT:w.heap.size<=T
section
variable {w : World} {T : Nat} {A : Option Addr} {c : Nat} {ab : Nat} {ta : At} {KA : Option Addr} {kn : Nat} {ks : List Int} {wx wy : World}
theorem Re.move (h:Re w T A c ab ta KA kn ks wx) (hb:Below wx.heap.size wx wy):Re w T A c ab ta KA kn ks wy:=
 ⟨h.t.under hb (fun k hk=>Nat.lt_trans hk h.tb.lt),h.tb.below hb h.tb.lt,h.a.below hb h.a.lt,h.m.below hb h.m.lt,h.v.below hb h.v.lt,(h.k.below hb fun k hk=>hk.2).more fun k hk=>⟨hk.1,ql hk.2 hb.size⟩,h.ok,h.bel.trans (hb.mono h.bel.size),h.hT⟩
theorem Re.ws (h:Re w T A c ab ta KA kn ks wx):WsAt wx (fun i=>i<wx.heap.size) (some ⟨ab,0,none⟩) 1 1 (some ⟨T+1+1,0,none⟩) 1 1 KA kn kn none 0 0 ⟨[ta],[⟨3,[]⟩],ks,[]⟩:=
 ⟨⟨by decide,by decide⟩,⟨by decide,by decide⟩,⟨qr _,h.ok.2.1⟩,⟨by decide,by decide⟩,
  RSeq.whole [atRow ta] [ta] h.a rfl rfl (fun x hx=>by simp at hx;subst hx;rfl) (fun j x y h1 h2=>by
   match j with
   | 0=>simp at h1 h2;subst h1 h2;exact ⟨rfl,h.ok.1.1,h.ok.1.2⟩
   | j+1=>simp at h1) h.a.lt,
  RSeq.whole (α:=Mem) (K:=2) (R:=RMem wx (fun i=>i<wx.heap.size)) (n:=1) [[.int .i64 3,.slice none 0 0]] [⟨3,[]⟩] h.m rfl rfl (fun x hx=>by simp at hx;subst hx;rfl) (fun j u y g1 g2=>by
   match j with
   | 0=>simp at g1 g2;subst g1 g2;exact ⟨_,_,_,rfl,by decide,by decide,Row.nil_⟩
   | j+1=>simp at g1) h.m.lt,h.k.more fun k hk=>hk.2,RSeq.nil_⟩
theorem Re.tr (h:Re w T A c ab ta KA kn ks wx):RTree wx (fun i=>i<wx.heap.size) A 4 smallT:=h.t.more fun k hk=>Nat.lt_trans hk h.tb.lt
theorem Re.res (h:Re w T A c ab ta KA kn ks wx) (hc:4<=c/\c<=maxLen):Calls Tryz.prog 27 #[.agg #[.slice A 4 c],.agg #[.slice (some ⟨ab,0,none⟩) 1 1,.slice (some ⟨T+1+1,0,none⟩) 1 1,.slice KA kn kn,.slice none 0 0],.int .i64 40000] wx (ResolveP smallT ⟨[ta],[⟨3,[]⟩],ks,[]⟩ 40000 wx):=
 resolve_any smallT ⟨[ta],[⟨3,[]⟩],ks,[]⟩ 40000 (fun i=>i<wx.heap.size) A 4 c _ _ _ _ 1 1 1 1 kn kn 0 0 wx h.tr hc.1 hc.2 h.ws (fun _ h=>h) (by decide) (by decide)
theorem Re.unm (h:Re w T A c ab ta KA kn ks wx) (hc:4<=c/\c<=maxLen):Calls Tryz.prog 28 #[.agg #[.slice A 4 c],.agg #[.slice (some ⟨ab,0,none⟩) 1 1,.slice (some ⟨T+1+1,0,none⟩) 1 1,.slice KA kn kn,.slice none 0 0],.int .i64 40000] wx (UnmaskP smallT ⟨[ta],[⟨3,[]⟩],ks,[]⟩ wx):=
 unmask_any smallT ⟨[ta],[⟨3,[]⟩],ks,[]⟩ (fun i=>i<wx.heap.size) A 4 c _ _ _ _ 1 1 1 1 kn kn 0 0 wx h.tr hc.1 hc.2 h.ws (fun _ h=>h)
theorem size_set (w:World) (p:Addr) (u:Value):(w.setCell p u).heap.size=w.heap.size:=by simp [World.setCell]
theorem Re.target (h:Re w T A c ab ta KA kn ks wx) {tb:At} (ht:tb.nm.length<=maxLen/\tb.fl.length<=maxLen) :
  Re w T A c wx.heap.size tb KA kn ks ((wx.setCell ⟨T+1+1+1,0,none⟩ (.slice (some ⟨wx.heap.size,0,none⟩) 1 1)).alloc (.cells (atRow tb).toArray 75)):=by
 have hsz:=size_set wx ⟨T+1+1+1,0,none⟩ (.slice (some ⟨wx.heap.size,0,none⟩) 1 1)
 have far:Far (fun i=>i=T+1+1+1) wx ((wx.setCell ⟨T+1+1+1,0,none⟩ (.slice (some ⟨wx.heap.size,0,none⟩) 1 1)).alloc (.cells (atRow tb).toArray 75)):=
  (Far.set_ (D:=fun i=>i=T+1+1+1) rfl 0 _).trans (Far.of_below _ ((qbr _ _).alloc (qr _) _)) fun _ _ h=>h
 have hTl:=h.tb.lt
 have hvl:=h.v.lt
 refine ⟨h.t.keep fun p hp=>far.cell (by omega) (by show ¬ (p.block=T+1+1+1);omega),far.whole h.tb (by show ¬ (T=T+1+1+1);omega),Whole.new _ wx.heap.size 75 (atRow tb) hsz.symm,far.whole h.m (by show ¬ (T+1+1=T+1+1+1);omega),(h.v.set_ 0 (.slice (some ⟨wx.heap.size,0,none⟩) 1 1)).alloc _, ?_,⟨ht,h.ok.2.1,by omega⟩,(h.bel.setCell (p:=⟨T+1+1+1,0,none⟩) (by show w.heap.size<=T+1+1+1;have:=h.hT;omega) _).alloc (by rw [hsz];exact h.bel.size) _,h.hT⟩
 exact (far.ints h.k fun i hi=>⟨hi.2,by show ¬ (i=T+1+1+1);omega⟩).more fun i hi=>⟨hi.1,ql hi.2 far.size⟩
theorem Re.masked (h:Re w T A c ab ta KA kn ks wx) {xs:List Int} {n:Nat} (hn:xs.length=n) (hm:n<=maxLen) :
  Re w T A c ab ta (some ⟨wx.heap.size,0,none⟩) n xs ((wx.setCell ⟨T+1+1+1,2,none⟩ (.slice (some ⟨wx.heap.size,0,none⟩) n n)).alloc (.cells (xs.map (Value.int .i64)).toArray 3)):=by
 have hsz:=size_set wx ⟨T+1+1+1,2,none⟩ (.slice (some ⟨wx.heap.size,0,none⟩) n n)
 have far:Far (fun i=>i=T+1+1+1) wx ((wx.setCell ⟨T+1+1+1,2,none⟩ (.slice (some ⟨wx.heap.size,0,none⟩) n n)).alloc (.cells (xs.map (Value.int .i64)).toArray 3)):=
  (Far.set_ (D:=fun i=>i=T+1+1+1) rfl 2 _).trans (Far.of_below _ ((qbr _ _).alloc (qr _) _)) fun _ _ h=>h
 have hTl:=h.tb.lt
 have hvl:=h.v.lt
 have hw:=Whole.new (wx.setCell ⟨T+1+1+1,2,none⟩ (.slice (some ⟨wx.heap.size,0,none⟩) n n)) wx.heap.size 3 (xs.map (Value.int .i64)) hsz.symm
 exact ⟨h.t.keep fun p hp=>far.cell (by omega) (by show ¬ (p.block=T+1+1+1);omega),far.whole h.tb (by show ¬ (T=T+1+1+1);omega),far.whole h.a (by show ¬ (ab=T+1+1+1);exact h.ok.2.2),far.whole h.m (by show ¬ (T+1+1=T+1+1+1);omega),(h.v.set_ 2 (.slice (some ⟨wx.heap.size,0,none⟩) n n)).alloc _,hw.ints (xs:=xs) ⟨by omega,hw.lt⟩ hn,⟨h.ok.1,hm,h.ok.2.2⟩,(h.bel.setCell (p:=⟨T+1+1+1,2,none⟩) (by show w.heap.size<=T+1+1+1;have:=h.hT;omega) _).alloc (by rw [hsz];exact h.bel.size) _,h.hT⟩
theorem set_far {B:Option Addr} {n:Nat} {l:List Mem} (h:RSet wx (fun k=>T+1+1+1<k/\k<wx.heap.size) B n l) (F:Far (fun i=>i=T+1+1+1) wx wy):RSet wy (fun k=>T+1+1+1<k/\k<wy.heap.size) B n l:=
 RSet.more (fun k hk=>⟨hk.1,ql hk.2 F.size⟩) (RSet.keep h fun p hp=>F.cell hp.2 (by show ¬ (p.block=T+1+1+1);omega))
end
theorem set_two {wx:World} {b b2:Nat} {t t2:TypeId} {x:Bool} {p q:Int} (h1:Whole wx b t [.bool x]) (h2:Whole wx b2 t2 [.int .i64 p,.slice (some ⟨b,0,none⟩) 1 1,.int .i64 q,.slice none 0 0]):RSet wx (fun i=>i<wx.heap.size) (some ⟨b2,0,none⟩) 2 [⟨p,[x]⟩,⟨q,[]⟩]:=
 RSeq.whole (α:=Mem) (K:=2) (R:=RMem wx (fun i=>i<wx.heap.size)) (n:=2) [[.int .i64 p,.slice (some ⟨b,0,none⟩) 1 1],[.int .i64 q,.slice none 0 0]] [⟨p,[x]⟩,⟨q,[]⟩] h2 rfl rfl (fun x hx=>by simp at hx;rcases hx with rfl | rfl <;> rfl) (fun j u y g1 g2=>by
   match j with
   | 0=>simp at g1 g2;subst g1 g2;exact ⟨_,_,_,rfl,by decide,by decide,h1.bools (xs:=[x]) h1.lt rfl⟩
   | 1=>simp at g1 g2;subst g1 g2;exact ⟨_,_,_,rfl,by decide,by decide,Row.nil_⟩
   | j+2=>simp at g1) h2.lt
theorem resolved_any (w:World) (hL:LaidV w) (hM:MaxW w) :
  Calls Tryz.prog 29 #[] w fun e w'=>e=.returned (.bool true)/\Below w.heap.size w w':=by
 have Hsm:=qh (small_any w hL hM)
 unfold SmallPost at Hsm
 clear hL hM
 go_enter Tryz.func29,Tryz.ntmps29
 go_upto_region 3 with (first | (go_at_call 51;refine Hsm.out.mono ?_;rintro e w1 ⟨A,c,rfl,hT,hc1,hc2,hb1⟩;refine Hid.out ?_))
 refine qh ?_
 go_upto_region 3 with fail
 have h1:=Whole.new w1 w1.heap.size 24 [.slice A 4 c] rfl
 have h2:=Whole.new (w1.alloc (.cells #[.slice A 4 c] 24)) (w1.heap.size+1) 75 (atRow atR1) (by simp)
 have h3:=Whole.new ((w1.alloc (.cells #[.slice A 4 c] 24)).alloc (.cells (atRow atR1).toArray 75)) (w1.heap.size+1+1) 85 [.int .i64 3,.slice none 0 0] (by simp)
 have h4:=Whole.new (((w1.alloc (.cells #[.slice A 4 c] 24)).alloc (.cells (atRow atR1).toArray 75)).alloc (.cells #[.int .i64 3,.slice none 0 0] 85)) (w1.heap.size+1+1+1) 30 [.slice (some ⟨w1.heap.size+1,0,none⟩) 1 1,.slice (some ⟨w1.heap.size+1+1,0,none⟩) 1 1,.slice none 0 0,.slice none 0 0] (by simp)
 have hbl:Below w1.heap.size w1 ((((w1.alloc (.cells #[.slice A 4 c] 24)).alloc (.cells (atRow atR1).toArray 75)).alloc (.cells #[.int .i64 3,.slice none 0 0] 85)).alloc (.cells #[.slice (some ⟨w1.heap.size+1,0,none⟩) 1 1,.slice (some ⟨w1.heap.size+1+1,0,none⟩) 1 1,.slice none 0 0,.slice none 0 0] 30)):=((((qbr _ w1).alloc (qr _) _).alloc (by simp) _).alloc (by simp;omega) _).alloc (by simp;omega) _
 have Y3:Hid (Re w w1.heap.size A c (w1.heap.size+1) atR1 none 0 [] _):=qh ⟨(hT.under hbl fun k hk=>hk.2).more fun k hk=>hk.2,((h1.alloc _).alloc _).alloc _,(h2.alloc _).alloc _,h3.alloc _,h4,RInts.nil_,⟨⟨by decide,by decide⟩,Nat.zero_le _,by omega⟩,hb1.trans (hbl.mono hb1.size),hb1.size⟩
 rw [show (atRow atR1).toArray=(#[.string ⟨#[97]⟩,.int .i64 0,.int .i64 0,.int .i64 0,.string ⟨#[]⟩,.bool false]:Array Value) from rfl] at Y3
 clear h1 h2 h3 h4 hbl hT hb1
 generalize w1.heap.size=T at Y3 ⊢
 generalize World.alloc (World.alloc (World.alloc (World.alloc w1 _) _) _) _=w3 at Y3 ⊢
 have HR3:Hid (Calls Tryz.prog 27 _ w3 (ResolveP smallT wsR1 40000 w3)):=qh (Y3.out.res ⟨hc1,hc2⟩)
 have t0:=Y3.out.tb.cell 0
 obtain ⟨v0,v1,v2,v3⟩:=ch4 Y3.out.v.cell
 have y0:=Y3.out.v.free 0;have y2:=Y3.out.v.free 2
 simp only [qgz,qgs] at t0 v0 v1 v2 v3
 have vlt:=Y3.out.v.lt
 have tlt:=Y3.out.tb.lt
 go_upto_region 4 with (first | (go_at_call 27;refine HR3.out.mono ?_;rintro e w5 ⟨Aa,na,ca,Ba,ka,da,rfl,hSa,ha1,ha2,-,-,-,hb5⟩;rw [res_R1.1];refine Hid.out ?_))
 refine qh ?_
 rw [res_R1.2] at hSa
 obtain rfl:2=na:=hSa.len
 have Y5:=qh (Y3.out.move hb5)
 have hvl3:=Y3.out.v.lt
 have SA5:=qh (hSa.more (S':=fun k=>T+1+1+1<k/\k<w5.heap.size) fun k hk=>⟨by omega,hk.2⟩)
 clear t0 v0 v1 v2 v3 y0 y2 vlt tlt HR3 Y3 hb5 hSa hvl3
 have t0:=Y5.out.tb.cell 0
 obtain ⟨v0,v1,v2,v3⟩:=ch4 Y5.out.v.cell
 have y0:=Y5.out.v.free 0;have y2:=Y5.out.v.free 2
 simp only [qgz,qgs] at t0 v0 v1 v2 v3
 have vlt:=Y5.out.v.lt
 have tlt:=Y5.out.tb.lt
 go_upto_region 5 with fail
 have Y6:=Y5.out.target (tb:=atR2) ⟨by decide,by decide⟩
 have F6:Far (fun i=>i=T+1+1+1) w5 ((w5.setCell ⟨T+1+1+1,0,none⟩ (.slice (some ⟨w5.heap.size,0,none⟩) 1 1)).alloc (.cells (atRow atR2).toArray 75)):=
  (Far.set_ (D:=fun i=>i=T+1+1+1) rfl 0 _).trans (Far.of_below _ ((qbr _ _).alloc (qr _) _)) fun _ _ h=>h
 have Y6:=qh Y6
 have F6:=qh F6
 rw [show (atRow atR2).toArray=(#[.string ⟨#[97]⟩,.int .i64 0,.int .i64 0,.int .i64 0,.string ⟨#[120]⟩,.bool true]:Array Value) from rfl] at Y6 F6
 have SA6:=qh (set_far SA5.out F6.out)
 clear t0 v0 v1 v2 v3 y0 y2 vlt tlt F6 SA5 Y5
 generalize World.alloc (World.setCell w5 _ _) _=w6 at Y6 SA6 ⊢
 generalize w5.heap.size=ab at Y6 ⊢
 have HR6:Hid (Calls Tryz.prog 27 _ w6 (ResolveP smallT wsR2 40000 w6)):=qh (Y6.out.res ⟨hc1,hc2⟩)
 have t0:=Y6.out.tb.cell 0
 obtain ⟨v0,v1,v2,v3⟩:=ch4 Y6.out.v.cell
 have y0:=Y6.out.v.free 0;have y2:=Y6.out.v.free 2
 simp only [qgz,qgs] at t0 v0 v1 v2 v3
 have vlt:=Y6.out.v.lt
 have tlt:=Y6.out.tb.lt
 go_upto_region 6 with (first | (go_at_call 27;refine HR6.out.mono ?_;rintro e w7 ⟨Ab,nb,cb,Bb,kb,db,rfl,hSb,hb1,hb2,-,-,-,hb7⟩;rw [res_R2.1];refine Hid.out ?_))
 refine qh ?_
 rw [res_R2.2] at hSb
 obtain rfl:2=nb:=hSb.len
 have Y7:=qh (Y6.out.move hb7)
 have hvl6:=Y6.out.v.lt
 have SA7:=qh ((SA6.out.under hb7 fun k hk=>hk.2).more (S':=fun k=>T+1+1+1<k/\k<w7.heap.size) fun k hk=>⟨hk.1,ql hk.2 hb7.size⟩)
 have SB7:=qh (hSb.more (S':=fun k=>T+1+1+1<k/\k<w7.heap.size) fun k hk=>⟨by omega,hk.2⟩)
 clear t0 v0 v1 v2 v3 y0 y2 vlt tlt HR6 Y6 hb7 hSb hvl6 SA6
 have t0:=Y7.out.tb.cell 0
 obtain ⟨v0,v1,v2,v3⟩:=ch4 Y7.out.v.cell
 have y0:=Y7.out.v.free 0;have y2:=Y7.out.v.free 2
 simp only [qgz,qgs] at t0 v0 v1 v2 v3
 have vlt:=Y7.out.v.lt
 have tlt:=Y7.out.tb.lt
 go_upto_region 7 with fail
 have Y8:=qh (Y7.out.masked (xs:=[0,2]) (n:=2) rfl (by decide))
 have F8:Hid (Far (fun i=>i=T+1+1+1) w7 ((w7.setCell ⟨T+1+1+1,2,none⟩ (.slice (some ⟨w7.heap.size,0,none⟩) 2 2)).alloc (.cells (([0,2]:List Int).map (Value.int .i64)).toArray 3))):=
  qh ((Far.set_ (D:=fun i=>i=T+1+1+1) rfl 2 _).trans (Far.of_below _ ((qbr _ _).alloc (qr _) _)) fun _ _ h=>h)
 rw [show (([0,2]:List Int).map (Value.int .i64)).toArray=(#[.int .i64 0,.int .i64 2]:Array Value) from rfl] at Y8 F8
 have SA8:=qh (set_far SA7.out F8.out)
 have SB8:=qh (set_far SB7.out F8.out)
 clear t0 v0 v1 v2 v3 y0 y2 vlt tlt F8 SA7 SB7 Y7
 generalize World.alloc (World.setCell w7 _ _) _=w8 at Y8 SA8 SB8 ⊢
 generalize w7.heap.size=kb2 at Y8 ⊢
 have HR8:Hid (Calls Tryz.prog 27 _ w8 (ResolveP smallT wsR3 40000 w8)):=qh (Y8.out.res ⟨hc1,hc2⟩)
 have t0:=Y8.out.tb.cell 0
 obtain ⟨v0,v1,v2,v3⟩:=ch4 Y8.out.v.cell
 have y0:=Y8.out.v.free 0;have y2:=Y8.out.v.free 2
 simp only [qgz,qgs] at t0 v0 v1 v2 v3
 have vlt:=Y8.out.v.lt
 have tlt:=Y8.out.tb.lt
 go_upto_region 8 with (first | (go_at_call 27;refine HR8.out.mono ?_;rintro e w9 ⟨Ac,nc,cc,Bc,kc,dc,rfl,-,-,-,hPc,-,-,hb9⟩;rw [res_R3];refine Hid.out ?_))
 refine qh ?_
 have Y9:=qh (Y8.out.move hb9)
 have hkc:0<kc:=by have:=prf_R3;rw [hPc.len] at this;exact this
 have SA9:=qh ((SA8.out.under hb9 fun k hk=>hk.2).more (S':=fun k=>k<w9.heap.size) fun k hk=>ql hk.2 hb9.size)
 have SB9:=qh ((SB8.out.under hb9 fun k hk=>hk.2).more (S':=fun k=>k<w9.heap.size) fun k hk=>ql hk.2 hb9.size)
 clear t0 v0 v1 v2 v3 y0 y2 vlt tlt HR8 Y8 hb9 hPc SA8 SB8
 have HU9:Hid (Calls Tryz.prog 28 _ w9 (UnmaskP smallT wsR3 w9)):=qh (Y9.out.unm ⟨hc1,hc2⟩)
 have t0:=Y9.out.tb.cell 0
 obtain ⟨v0,v1,v2,v3⟩:=ch4 Y9.out.v.cell
 have y0:=Y9.out.v.free 0;have y2:=Y9.out.v.free 2
 simp only [qgz,qgs] at t0 v0 v1 v2 v3
 have vlt:=Y9.out.v.lt
 have tlt:=Y9.out.tb.lt
 go_upto_region 9 with (first | (go_at_call 28;refine HU9.out.mono ?_;rintro e w10 ⟨Ad,nd,cd,rfl,hId,hd1,hd2,hb10⟩;rw [unm_R3.1];refine Hid.out ?_))
 refine qh ?_
 rw [unm_R3.2] at hId
 obtain rfl:1=nd:=hId.len
 have B10:=qh (Y9.out.bel.trans (hb10.mono Y9.out.bel.size))
 have SA10:=qh ((SA9.out.under hb10 fun k hk=>hk).more (S':=fun k=>k<w10.heap.size) fun k hk=>ql hk hb10.size)
 have SB10:=qh ((SB9.out.under hb10 fun k hk=>hk).more (S':=fun k=>k<w10.heap.size) fun k hk=>ql hk hb10.size)
 have ID10:=qh (hId.more (S':=fun k=>k<w10.heap.size) fun k hk=>hk.2)
 have hkc1:(0:Int)<kc:=by omega
 clear t0 v0 v1 v2 v3 y0 y2 vlt tlt HU9 Y9 hb10 hId SA9 SB9
 have hW1:=Whole.new w10 w10.heap.size 4 [.bool false] rfl
 have hW2:=Whole.new (w10.alloc (.cells #[.bool false] 4)) (w10.heap.size+1) 85 [.int .i64 1,.slice (some ⟨w10.heap.size,0,none⟩) 1 1,.int .i64 3,.slice none 0 0] (by simp)
 have hbx:Below w10.heap.size w10 ((w10.alloc (.cells #[.bool false] 4)).alloc (.cells #[.int .i64 1,.slice (some ⟨w10.heap.size,0,none⟩) 1 1,.int .i64 3,.slice none 0 0] 85)):=((qbr _ _).alloc (qr _) _).alloc (by simp) _
 have hSS:=sameSetr_any memR1 memR1 (fun k=>k<((w10.alloc (.cells #[.bool false] 4)).alloc (.cells #[.int .i64 1,.slice (some ⟨w10.heap.size,0,none⟩) 1 1,.int .i64 3,.slice none 0 0] 85)).heap.size) Aa (some ⟨w10.heap.size+1,0,none⟩) 2 ca 2 2 _ ((SA10.out.under hbx fun k hk=>hk).more fun k hk=>ql hk hbx.size) (set_two (hW1.alloc _) hW2) (fun _ h=>h) (by decide) (by decide)
 rw [eq_R1] at hSS
 have HSS:=qh hSS
 have B11:=qh (B10.out.trans (hbx.mono B10.out.size))
 have SB11:=qh ((SB10.out.under hbx fun k hk=>hk).more (S':=fun k=>k<((w10.alloc (.cells #[.bool false] 4)).alloc (.cells #[.int .i64 1,.slice (some ⟨w10.heap.size,0,none⟩) 1 1,.int .i64 3,.slice none 0 0] 85)).heap.size) fun k hk=>ql hk hbx.size)
 have ID11:=qh ((ID10.out.below hbx fun k hk=>hk).more (S':=fun k=>k<((w10.alloc (.cells #[.bool false] 4)).alloc (.cells #[.int .i64 1,.slice (some ⟨w10.heap.size,0,none⟩) 1 1,.int .i64 3,.slice none 0 0] 85)).heap.size) fun k hk=>ql hk hbx.size)
 clear hSS hW1 hW2 hbx SA10 SB10 ID10 B10
 go_wp2_with (first | (go_at_call 24;refine HSS.out.mono ?_;rintro e w12 ⟨rfl,hb12⟩;refine Hid.out ?_))
 refine qh ?_
 have B12:=qh (B11.out.trans (hb12.mono B11.out.size))
 have SB12:=qh ((SB11.out.under hb12 fun k hk=>hk).more (S':=fun k=>k<w12.heap.size) fun k hk=>ql hk hb12.size)
 have ID12:=qh ((ID11.out.below hb12 fun k hk=>hk).more (S':=fun k=>k<w12.heap.size) fun k hk=>ql hk hb12.size)
 clear hb12 B11 SB11 ID11 HSS
 have hW1:=Whole.new w12 w12.heap.size 4 [.bool true] rfl
 have hW2:=Whole.new (w12.alloc (.cells #[.bool true] 4)) (w12.heap.size+1) 85 [.int .i64 1,.slice (some ⟨w12.heap.size,0,none⟩) 1 1,.int .i64 2,.slice none 0 0] (by simp)
 have hbx:Below w12.heap.size w12 ((w12.alloc (.cells #[.bool true] 4)).alloc (.cells #[.int .i64 1,.slice (some ⟨w12.heap.size,0,none⟩) 1 1,.int .i64 2,.slice none 0 0] 85)):=((qbr _ _).alloc (qr _) _).alloc (by simp) _
 have hSS:=sameSetr_any memR2 memR2 (fun k=>k<((w12.alloc (.cells #[.bool true] 4)).alloc (.cells #[.int .i64 1,.slice (some ⟨w12.heap.size,0,none⟩) 1 1,.int .i64 2,.slice none 0 0] 85)).heap.size) Ab (some ⟨w12.heap.size+1,0,none⟩) 2 cb 2 2 _ ((SB12.out.under hbx fun k hk=>hk).more fun k hk=>ql hk hbx.size) (set_two (hW1.alloc _) hW2) (fun _ h=>h) (by decide) (by decide)
 rw [eq_R2] at hSS
 have HSS:=qh hSS
 have B13:=qh (B12.out.trans (hbx.mono B12.out.size))
 have ID13:=qh ((ID12.out.below hbx fun k hk=>hk).more (S':=fun k=>k<((w12.alloc (.cells #[.bool true] 4)).alloc (.cells #[.int .i64 1,.slice (some ⟨w12.heap.size,0,none⟩) 1 1,.int .i64 2,.slice none 0 0] 85)).heap.size) fun k hk=>ql hk hbx.size)
 clear hSS hW1 hW2 hbx SB12 ID12 B12
 go_wp2_with (first | (go_at_call 24;refine HSS.out.mono ?_;rintro e w14 ⟨rfl,hb14⟩;refine Hid.out ?_))
 refine qh ?_
 have B14:=qh (B13.out.trans (hb14.mono B13.out.size))
 have ID14:=qh ((ID13.out.below hb14 fun k hk=>hk).more (S':=fun k=>k<w14.heap.size) fun k hk=>ql hk hb14.size)
 clear hb14 B13 ID13 HSS
 have hal:=(qbr w14.heap.size w14).alloc (qr _) (.cells #[.int .i64 2] 3)
 have hI:=Whole.new w14 w14.heap.size 3 [.int .i64 2] rfl
 have hEQ:=equal_int Ad (some ⟨w14.heap.size,0,none⟩) 1 1 cd 1 [2] [2] _ (fun k=>k<(w14.alloc (.cells #[.int .i64 2] 3)).heap.size) ((ID14.out.below hal (fun k hk=>hk)).more fun k hk=>ql hk hal.size) (hI.ints (xs:=[2]) hI.lt rfl) (by decide) (by decide)
 rw [show (([2]:List Int) == [2])=true from by decide] at hEQ
 have HEQ:=qh hEQ
 have B15:=qh (B14.out.trans (hal.mono B14.out.size))
 clear hal hI hEQ ID14 B14
 go_wp2_with (first | (go_at_call 32;refine HEQ.out.mono ?_;rintro e w16 ⟨rfl,nq,rfl⟩;refine Hid.out ?_))
 refine qh ?_
 have B16:=qh (below_drewN B15.out nq)
 clear B15 HEQ
 go_wp2
 go_ret
 exact ⟨rfl,B16.out⟩
end
section
open Go.RowKit Qm
end
section
open Go.RowKit
end
section
open Go.RowKit Qm
structure Hb (w:World) (A:Option Addr) (n c:Nat) (B:Option Addr) (q d k:Nat) (nr:List Value) (wx:World):Prop where
 t:Whole wx w.heap.size 24 [.slice A n c]
 l:Whole wx (w.heap.size+1) 26 [.slice B q d]
 k:Whole wx (w.heap.size+1+1) 3 [.int .i64 (k:Int)]
 n:Whole wx (w.heap.size+1+1+1) 99 nr
 e:Whole wx (w.heap.size+1+1+1+1) 164 [.func (.func 112) #[] #[.pointer (some ⟨w.heap.size,0,none⟩),.pointer (some ⟨w.heap.size+1,0,none⟩),.pointer (some ⟨w.heap.size+1+1,0,none⟩)]]
 bel:Below w.heap.size w wx
theorem memAt_at {l:List Mem} {k:Nat} {m:Mem} (h:l[k]? = some m):memAt l k=m:=by
 unfold memAt
 rw [qgd,h];rfl
theorem flagsN_kid {k:Int} {a:At} {f:Qm.W} {no:Bool}:∀ {ks:List Nd} {x:Nd},x∈ks->∀ g∈flagsN x,g∈flagsL ks
 | y :: r,x,hx,g,hg=>by
  simp only [flagsL,List.mem_append]
  rcases List.mem_cons.1 hx with rfl | hx
  ·exact .inl hg
  exact .inr (flagsN_kid (k:=k) (a:=a) (f:=f) (no:=no) hx g hg)
end
section
open Go.RowKit Qm
theorem ckSet_zero {ps:List Pk} {l:List Mem} (h:ckSet ps l=0):ckTree ps=0/\ckMs ps none l=0:=by
 unfold ckSet at h
 by_cases h0:ckTree ps=0
 ·rw [if_neg (by simpa using h0)] at h;exact ⟨h0,h⟩
 rw [if_pos h0] at h;exact absurd h h0
theorem Cx.of {ps:List Pk} {l:List Mem} {S:Nat->Prop} {A B:Option Addr} {n c q d:Nat} {w:World} (h:ckSet ps l=0) (hT:RTree w S A n ps) (hnc:n<=c) (hc:c<=maxLen) (hL:RSet w S B q l) (hqd:q<=d) (hd:d<=maxLen) (hS:∀ k,S k->k<w.heap.size):Cx ps l S A n c B q d w:=
 ⟨hT,hL,hnc,hc,by rw [<- hT.len];exact ckTree_len (ckSet_zero h).1,hqd,hd,ckMs_mem (ckSet_zero h).2,hS⟩
theorem own_flags {ps:List Pk} {l:List Mem} (h:ckSet ps l=0) {k:Nat} (hk:k<l.length):∀ f∈flagsN (pkOf ps (memAt l k).pl).nd,f∈(pkOf ps (memAt l k).pl).fs:=by
 obtain ⟨h1,h2⟩:=ckSet_zero h
 have hm:memAt l k∈l:=by
  rw [memAt_at (qge hk)];exact List.getElem_mem hk
 obtain ⟨a,b,_⟩:=ckMs_mem h2 _ hm
 have hp:pkOf ps (memAt l k).pl∈ps:=by
  unfold pkOf
  have hlt:(memAt l k).pl.toNat<ps.length:=by omega
  rw [qgd,qge hlt]
  exact List.getElem_mem hlt
 exact (pkOk (ckTree_mem h1 _ hp)).sub
end
section
open Go.RowKit
theorem ints_cell {w:World} {S:Nat->Prop} {b o n:Nat} {xs:List Int} (h:RInts w S (some ⟨b,o,none⟩) n xs):∀ j,j<xs.length->w.cell? ⟨b,o+j,none⟩=some (.int .i64 (xs.getD j 0)):=by
 intro j hj
 obtain ⟨b',o',e,_,hc⟩:=h.at_ (k:=j) (by have:=h.len;omega)
 injection e with e;injection e with e1 e2
 subst e1 e2
 exact hc
theorem containsI_any (A:Option Addr) (n c:Nat) (xs:List Int) (x:Int) (w:World) (S:Nat->Prop) (h:RInts w S A n xs) (hn:n<=maxLen) :
  Calls Tryz.prog 43 #[.slice A n c,.int .i64 x] w fun e w'=>e=.returned (.bool (xs.contains x))/\w'=w:=by
 have hl:=h.len
 unfold maxLen at hn
 by_cases h0:n=0
 ·subst h0
  obtain rfl:=List.eq_nil_of_length_eq_zero hl
  exact (Tryz.slices_Contains_int_empty A c x w).mono fun e w' ⟨he,hw⟩=>⟨by simpa using he,hw⟩
 obtain ⟨b,o,rfl,_⟩:=Row.some_lit h (by omega)
 refine (Tryz.slices_Contains_int b o n c xs x w (by omega) (by omega) (ints_cell h)).mono fun e w' ⟨he,hw⟩=>⟨?_,hw⟩
 rw [he,List.take_of_length_le (by omega)]
end
section
open Go.RowKit Qm
theorem all_take_succ {α:Type} {f:α->Bool} {l:List α} {j:Nat} {x:α} (h:l[j]? = some x):(l.take (j+1)).all f=((l.take j).all f && f x):=by
 obtain ⟨hj,rfl⟩:=List.getElem?_eq_some_iff.1 h
 rw [List.take_succ_eq_append_getElem hj,List.all_append];simp
theorem all_take_false {α:Type} {f:α->Bool} {l:List α} {j:Nat} {x:α} (h:l[j]? = some x) (hf:f x=false):l.all f=false:=by
 rw [Bool.eq_false_iff]
 intro ha
 have:=List.all_eq_true.1 ha x (List.mem_of_getElem? h)
 rw [hf] at this;cases this
theorem allOk_false {ps:List Pk} {ms:List Int} {l:List Mem} {i:Nat} (hi:i<l.length) (h:oneOk ps ms l i=false):allOk ps ms l l.length=false:=by
 rw [Bool.eq_false_iff]
 intro ha
 have:=allOk_at ha i hi
 rw [h] at this;cases this
end
section
open Go.RowKit Qm
end
section
open Go.RowKit
end
section
open Go.RowKit Qm
theorem sameMem_iff (x y:Mem):sameMem x y=true↔x=y:=by
 obtain ⟨p,o⟩:=x;obtain ⟨q,r⟩:=y
 unfold sameMem
 rw [Bool.and_eq_true,decide_eq_true_eq,beq_iff_eq,Mem.mk.injEq]
theorem eqL_self (l:List Mem):eqL sameMem l l=true:=(eqL_iff sameMem_iff).2 rfl
end
end Go.Proofs.YtedbhlgjcnnknaaGreatDoor
