/- Parts. -/
import Derived.Test.YtedbhlgjcnnknaaGreatDoorQ17
set_option linter.unusedVariables false
set_option linter.unusedSimpArgs false
set_option linter.unusedSectionVars false
set_option maxRecDepth 100000
set_option maxHeartbeats 12800000
namespace Go.Proofs.YtedbhlgjcnnknaaGreatDoor
open Go.RowKit Qm
structure Wb (w:World) (A:Option Addr) (n c:Nat) (wv:List Value) (wx:World):Prop where
 t:Whole wx w.heap.size 24 [.slice A n c]
 v:Whole wx (w.heap.size+1) 30 wv
 bel:Below w.heap.size w wx
section
variable {w : World} {A : Option Addr} {n c : Nat} {wv : List Value} {wx wy : World}
theorem Wb.move (h:Wb w A n c wv wx) (hb:Below wx.heap.size wx wy):Wb w A n c wv wy:=⟨h.t.below hb h.t.lt,h.v.below hb h.v.lt,h.bel.trans (hb.mono h.bel.size)⟩
theorem Wb.alloc (h:Wb w A n c wv wx) (o:Obj):Wb w A n c wv (wx.alloc o):=h.move ((qbr _ _).alloc (qr _) o)
theorem Wb.drewN (h:Wb w A n c wv wx) (k:Nat):Wb w A n c wv (wx.drewN k):=h.move (below_drewN (qbr _ _) k)
theorem Wb.new (w:World) (A:Option Addr) (n c:Nat) (wv:List Value):Wb w A n c wv ((w.alloc (.cells #[.slice A n c] 24)).alloc (.cells wv.toArray 30)):=
 ⟨(Whole.new w _ _ [.slice A n c] rfl).alloc _,Whole.new (w.alloc (.cells #[.slice A n c] 24)) (w.heap.size+1) _ wv (by simp),((qbr _ w).alloc (qr _) _).alloc (by simp) _⟩
end
theorem ckAts_step {l:List At} {j:Nat} {a:At} (h:l[j]? = some a):ckAts (l.drop j)=if ckAtom a≠0 then ckAtom a else ckAts (l.drop (j+1)):=by
 obtain ⟨hj,rfl⟩:=List.getElem?_eq_some_iff.1 h
 rw [List.drop_eq_getElem_cons hj];rfl
theorem ckMask_step {ps:List Pk} {l:List Int} {j:Nat} {x:Int} (h:l[j]? = some x):ckMask ps (prevOf l j) (l.drop j)=if x<0\/(ps.length:Int)<=x then 5 else if badPl (prevOf l j) x=true then 6 else ckMask ps (prevOf l (j+1)) (l.drop (j+1)):=by
 rw [prevOf_succ h]
 obtain ⟨hj,rfl⟩:=List.getElem?_eq_some_iff.1 h
 rw [List.drop_eq_getElem_cons hj];rfl
theorem ckOn_step {ps:List Pk} {l:List (Int×Int)} {j:Nat} {x:Int×Int} (h:l[j]? = some x):ckOn ps (prevOf l j) (l.drop j)=if x.1<0\/(ps.length:Int)<=x.1\/x.2<0\/((pkOf ps x.1).fs.length:Int)<=x.2 then 5 else if badOn (prevOf l j) x=true then 6 else ckOn ps (prevOf l (j+1)) (l.drop (j+1)):=by
 rw [prevOf_succ h]
 obtain ⟨hj,rfl⟩:=List.getElem?_eq_some_iff.1 h
 rw [List.drop_eq_getElem_cons hj];rfl
theorem getD_some {l:List Int} {j:Nat} (h:j<l.length):l[j]? = some (l.getD j 0):=by
 rw [qgd,qge h];rfl
theorem cwish_any (ps:List Pk) (v:Ws) (S:Nat->Prop) (A:Option Addr) (n c:Nat) (A1 A2 A3 A4:Option Addr) (n1 c1 n2 c2 n3 c3 n4 c4:Nat) (w:World) (hT:RTree w S A n ps) (hnc:n<=c) (hc:c<=maxLen) (hV:WsAt w S A1 n1 c1 A2 n2 c2 A3 n3 c3 A4 n4 c4 v) (hS:∀ k,S k->k<w.heap.size) :
  Calls Tryz.prog 34 #[.agg #[.slice A n c],.agg #[.slice A1 n1 c1,.slice A2 n2 c2,.slice A3 n3 c3,.slice A4 n4 c4]] w fun e w'=>e=.returned (.int .i64 (ckWish ps v))/\Below w.heap.size w w':=by
 have Hpl:=qh hT.len
 have X0:=qh (Wb.new w A n c [.slice A1 n1 c1,.slice A2 n2 c2,.slice A3 n3 c3,.slice A4 n4 c4])
 have HT:=qh hT;have HS:=qh hS;have HV:=qh hV;clear hT hS hV
 have hl0:=fun q hq=>ql (HS.out q hq) X0.out.bel.size
 have Hcs:=qh (cset_any ps v.ins S A A2 n c n2 c2 _ (HT.out.under X0.out.bel HS.out) hnc hc (HV.out.ins.under X0.out.bel HS.out) (qlt HV.out.h2.1 HV.out.h2.2) hl0)
 clear hl0
 have H1:=HV.out.h1;have H2:=HV.out.h2;have H3:=HV.out.h3;have H4:=HV.out.h4
 unfold maxLen at hc H1 H2 H3 H4
 have hts:=HV.out.ts.len
 have hms:=HV.out.ms.len
 have hon:=HV.out.on.len
 have HR:Hid (ckWish ps v=if ckSet ps v.ins≠0 then ckSet ps v.ins else ckWishR ps v):=qh rfl
 have HR1:Hid (ckWishR ps v=if 6<v.ts.length then 2 else if ckAts v.ts≠0 then ckAts v.ts else if ckMask ps none v.ms≠0 then ckMask ps none v.ms else ckOn ps none v.on):=qh rfl
 generalize ckWish ps v=R at HR ⊢
 generalize hz:ckSet ps v.ins=z at Hcs HR
 have HZ:=qh hz;clear hz
 have Hts:=qh hts;have Hms:=qh hms;have Hon:=qh hon
 clear hts hms hon
 by_cases z0:z=0
 ·subst z0
  have hn8:n<=8:=by
   have:=HZ.out
   unfold ckSet at this
   by_cases h0:ckTree ps=0
   ·rw [<- Hpl.out];exact ckTree_len h0
   rw [if_pos h0] at this;exact absurd this h0
  have HR2:Hid (R=if 6<n1 then 2 else if ckAts v.ts≠0 then ckAts v.ts else if ckMask ps none v.ms≠0 then ckMask ps none v.ms else ckOn ps none v.on):=qh (by rw [HR.out,if_neg (by simp),HR1.out,Hts.out])
  clear HR HR1
  by_cases h6:(6:Int)<n1
  ·
   go_enter Tryz.func34,Tryz.ntmps34
   go_wp2_with (first | (go_at_call 56;refine Hcs.out.mono ?_;rintro e w2 ⟨rfl,hb2⟩;refine Hid.out ?_))
   refine qh ?_
   have X2:=qh (X0.out.move hb2)
   clear hb2 X0 Hcs
   have v0:=X2.out.v.cell 0
   simp only [qgz] at v0
   go_wp2
   go_ret
   exact ⟨ret_int (by rw [HR2.out,if_pos (by omega)]),X2.out.bel⟩
  have h6':decide ((6:Int)<n1)=false:=qdf h6
  have HRA:Hid (R=if ckAts v.ts≠0 then ckAts v.ts else if ckMask ps none v.ms≠0 then ckMask ps none v.ms else ckOn ps none v.on):=qh (by rw [HR2.out,if_neg (by omega)])
  clear HR2
  go_enter Tryz.func34,Tryz.ntmps34
  go_wp2_with (first | (go_at_call 56;refine Hcs.out.mono ?_;rintro e w2 ⟨rfl,hb2⟩;refine Hid.out ?_))
  refine qh ?_
  have X2:=qh (X0.out.move hb2)
  clear hb2 X0 Hcs
  have v0:=X2.out.v.cell 0
  simp only [qgz] at v0
  have vlt:=X2.out.v.lt
  go_wp2
  clear v0 vlt
  go_loopg [27] n1 (fun g iv wr=>∃ j:Nat,Hid (j+g=n1)/\iv=.int .i64 j/\Hid (ckAts v.ts=ckAts (v.ts.drop j))/\Hid (Wb w A n c [.slice A1 n1 c1,.slice A2 n2 c2,.slice A3 n3 c3,.slice A4 n4 c4] wr))
  case atStart=>exact ⟨0,qh (Nat.zero_add _),rfl,qh rfl,X2⟩
  case round =>
   obtain ⟨j,Hj,rfl,Hcl,XR⟩:=hrel
   clear X2
   by_cases hj:j<n1
   ·obtain ⟨b,o,x,a,rfl,hbS,ha,hxa,_,hcell⟩:=(HV.out.ts.keep (w':=wr) (fun p hp=>XR.out.bel.cell (HS.out _ hp)) fun _ _ h=>h).at_ hj (by decide)
    obtain ⟨rfl,ha1,ha2⟩:=hxa
    have Hst:=qh (ckAts_step ha)
    have hac:=fun wx=>check_any ⟨a.nm.toArray⟩ ⟨a.fl.toArray⟩ a.op a.ver a.slot a.on wx (by rw [bsz];exact ha1) (by rw [bsz];exact ha2)
    rw [atOf_mk] at hac
    unfold atv at hac
    generalize ckAtom a=y at hac Hst
    have Hac:=qh hac;clear hac
    have g0:=hcell 0 (by omega);have g1:=hcell 1 (by omega);have g2:=hcell 2 (by omega);have g3:=hcell 3 (by omega);have g4:=hcell 4 (by omega);have g5:=hcell 5 (by omega)
    unfold atRow at g0 g1 g2 g3 g4 g5
    simp only [qgz,qgs,Nat.add_zero] at g0 g1 g2 g3 g4 g5
    have X3:=qh (XR.out.alloc (.cells #[.string ⟨a.nm.toArray⟩,.int .i64 a.op,.int .i64 a.ver,.int .i64 a.slot,.string ⟨a.fl.toArray⟩,.bool a.on] 75))
    clear hcell ha ha1 ha2
    go_wp2_with (first | (go_at_call 75;refine (Hac.out _).mono ?_;rintro e w4 ⟨rfl,hb4⟩;refine Hid.out ?_))
    refine qh ?_
    have X4:=qh (X3.out.move hb4)
    clear hb4 g0 g1 g2 g3 g4 g5
    by_cases y0:y=0
    ·subst y0
     have HE:Hid (ckAts (v.ts.drop j)=ckAts (v.ts.drop (j+1))):=qh (by rw [Hst.out,if_neg (by simp)])
     go_wp2
     go_roundg (gk - 1)
     case measure=>have:=Hj.out;omega
     case rel=>exact ⟨j+1,qh (by have:=Hj.out;omega),by go_num,qh (by rw [Hcl.out,HE.out]),X4⟩
    have y1:(y != 0)=true:=by simpa using y0
    have HE:Hid (ckAts v.ts=y):=qh (by rw [Hcl.out,Hst.out,if_pos y0])
    go_wp2
    go_ret
    exact ⟨ret_int (by rw [HRA.out,HE.out,if_pos y0]),X4.out.bel⟩
   obtain rfl:n1=j:=by have:=Hj.out;omega
   have HRB:Hid (R=if ckMask ps none v.ms≠0 then ckMask ps none v.ms else ckOn ps none v.on):=qh (by
    rw [HRA.out,Hcl.out,List.drop_of_length_le (by have:=Hts.out;omega)];rfl)
   clear HRA Hcl
   have v2:=XR.out.v.cell 2
   simp only [qgz,qgs] at v2
   go_wp2
   clear v2
   obtain ⟨wq,hwq⟩:∃ x,x=wr:=⟨_,rfl⟩
   rw [<- hwq] at XR ⊢
   clear hwq
   go_loopg [40] n3 (fun g iv wr=>∃ j:Nat,Hid (j+g=n3)/\iv=.int .i64 j/\Hid (ckMask ps none v.ms=ckMask ps (prevOf v.ms j) (v.ms.drop j))/\Hid (Wb w A n c [.slice A1 n1 c1,.slice A2 n2 c2,.slice A3 n3 c3,.slice A4 n4 c4] wr))
   case atStart=>exact ⟨0,qh (Nat.zero_add _),rfl,qh rfl,XR⟩
   case round =>
    obtain ⟨j,Hj,rfl,Hcl,XQ⟩:=hrel
    clear XR
    by_cases hj:j<n3
    ·obtain ⟨b,o,rfl,hbS,g0⟩:=RInts.at_ (RInts.keep (w':=wr) HV.out.ms fun p hp=>XQ.out.bel.cell (HS.out _ hp)) hj
     have Hst:=qh (ckMask_step (ps:=ps) (getD_some (l:=v.ms) (j:=j) (by have:=Hms.out;omega)))
     have hbl:b<wr.heap.size:=ql (HS.out _ hbS) XQ.out.bel.size
     have t0:=XQ.out.t.cell 0
     have v2:=XQ.out.v.cell 2
     simp only [qgz,qgs] at t0 v2
     generalize v.ms.getD j 0=x at g0 Hst
     by_cases hneg:x<0
     ·have HE:Hid (ckMask ps none v.ms=5):=qh (by rw [Hcl.out,Hst.out,if_pos (.inl hneg)])
      have hneg':decide (x<0)=true:=qdt hneg
      go_wp2
      go_ret
      exact ⟨ret_int (by rw [HRB.out,HE.out,if_pos (by decide)]),XQ.out.bel⟩
     have hneg':decide (x<0)=false:=qdf hneg
     by_cases hpn:(n:Int)<=x
     ·have HE:Hid (ckMask ps none v.ms=5):=qh (by rw [Hcl.out,Hst.out,if_pos (.inr (by rw [Hpl.out];exact hpn))])
      have hpn':decide ((n:Int)<=x)=true:=qdt hpn
      go_wp2
      go_ret
      exact ⟨ret_int (by rw [HRB.out,HE.out,if_pos (by decide)]),XQ.out.bel⟩
     have hpn':decide ((n:Int)<=x)=false:=qdf hpn
     have HSt2:Hid (ckMask ps none v.ms=if badPl (prevOf v.ms j) x=true then 6 else ckMask ps (prevOf v.ms (j+1)) (v.ms.drop (j+1))):=qh (by rw [Hcl.out,Hst.out,if_neg (by have:=Hpl.out;omega)])
     clear Hst Hcl
     rcases j with _ | i
     ·have HE:Hid (ckMask ps none v.ms=ckMask ps (prevOf v.ms (0+1)) (v.ms.drop (0+1))):=qh (by rw [HSt2.out,if_neg (by rw [prevOf_zero];simp [badPl])])
      simp only [Nat.add_zero] at g0
      go_wp2
      go_roundg (gk - 1)
      case measure=>have:=Hj.out;omega
      case rel=>exact ⟨0+1,qh (by have:=Hj.out;omega),by go_num,HE,XQ⟩
     obtain ⟨b',o',e,_,k0⟩:=RInts.at_ (RInts.keep (w':=wr) HV.out.ms fun p hp=>XQ.out.bel.cell (HS.out _ hp)) (k:=i) (by omega)
     injection e with e;injection e with e1 e2;subst e1 e2
     have Hpr:Hid (prevOf v.ms (i+1)=some (v.ms.getD i 0)):=qh (prevOf_succ (getD_some (by have:=Hms.out;omega)))
     have HSt3:Hid (ckMask ps none v.ms=if badPl (some (v.ms.getD i 0)) x=true then 6 else ckMask ps (prevOf v.ms (i+1+1)) (v.ms.drop (i+1+1))):=qh (by rw [HSt2.out,Hpr.out])
     clear HSt2
     generalize v.ms.getD i 0=pp at k0 HSt3
     have hwr:IntKind.i64.wrap ((i:Int)+1 - 1)=(i:Int):=by rw [IntKind.wrap_i64];omega
     have hwr0:IntKind.i64.wrap (i:Int)=(i:Int):=by rw [IntKind.wrap_i64];omega
     have hin:i<n3:=by omega
     have hin2:(i:Int)<n3:=by omega
     have hin3:(0:Int)<(i:Int)+1:=by omega
     by_cases hb:x<=pp
     ·have HE:Hid (ckMask ps none v.ms=6):=qh (by rw [HSt3.out,if_pos (by simpa [badPl] using hb)])
      have hb':decide (x<=pp)=true:=qdt hb
      go_wp2
      go_ret
      exact ⟨ret_int (by rw [HRB.out,HE.out,if_pos (by decide)]),XQ.out.bel⟩
     have HE:Hid (ckMask ps none v.ms=ckMask ps (prevOf v.ms (i+1+1)) (v.ms.drop (i+1+1))):=qh (by rw [HSt3.out,if_neg (by simpa [badPl] using hb)])
     have hb':decide (x<=pp)=false:=qdf hb
     go_wp2
     go_roundg (gk - 1)
     case measure=>have:=Hj.out;omega
     case rel=>exact ⟨i+1+1,qh (by have:=Hj.out;omega),by go_num,HE,XQ⟩
    obtain rfl:n3=j:=by have:=Hj.out;omega
    have HRC:Hid (R=ckOn ps none v.on):=qh (by
     rw [HRB.out,Hcl.out,List.drop_of_length_le (by have:=Hms.out;omega)];rfl)
    clear HRB Hcl
    have v3:=XQ.out.v.cell 3
    simp only [qgz,qgs] at v3
    go_wp2
    clear v3
    obtain ⟨wu,hwu⟩:∃ x,x=wr:=⟨_,rfl⟩
    rw [<- hwu] at XQ ⊢
    clear hwu
    go_loopg [70] n4 (fun g iv wr=>∃ j:Nat,Hid (j+g=n4)/\iv=.int .i64 j/\Hid (ckOn ps none v.on=ckOn ps (prevOf v.on j) (v.on.drop j))/\Hid (Wb w A n c [.slice A1 n1 c1,.slice A2 n2 c2,.slice A3 n3 c3,.slice A4 n4 c4] wr))
    case atStart=>exact ⟨0,qh (Nat.zero_add _),rfl,qh rfl,XQ⟩
    case round =>
     obtain ⟨j,Hj,rfl,Hcl,XT⟩:=hrel
     clear XQ
     by_cases hj:j<n4
     ·obtain ⟨b,o,x,y,rfl,hbS,hy,hxy,_,hcell⟩:=(HV.out.on.keep (w':=wr) (fun p hp=>XT.out.bel.cell (HS.out _ hp)) fun _ _ h=>h).at_ hj (by decide)
      have Hst:=qh (ckOn_step (ps:=ps) hy)
      unfold RPair at hxy
      subst hxy
      obtain ⟨x0,x1⟩:=y
      have hbl:b<wr.heap.size:=ql (HS.out _ hbS) XT.out.bel.size
      have g0:=hcell 0 (by omega);have g1:=hcell 1 (by omega)
      simp only [qgz,qgs,Nat.add_zero] at g0 g1
      dsimp only at Hst
      have X3:=qh (XT.out.alloc (.cells #[.int .i64 x0,.int .i64 x1] 86))
      have t0:=XT.out.t.cell 0
      have v3:=XT.out.v.cell 3
      simp only [qgz,qgs] at t0 v3
      have vlt:=XT.out.v.lt
      have tlt:=XT.out.t.lt
      clear hcell hy
      have HR3:Hid (R=ckOn ps none v.on):=HRC
      by_cases hneg:x0<0
      ·have HE:Hid (ckOn ps (prevOf v.on j) (v.on.drop j)=5):=qh (by rw [Hst.out,if_pos (.inl hneg)])
       have hneg':decide (x0<0)=true:=qdt hneg
       go_wp2
       go_quiet (fail)
       go_wp2
       go_ret
       exact ⟨ret_int (by rw [HR3.out,Hcl.out,HE.out]),below_drewN X3.out.bel _⟩
      have hneg':decide (x0<0)=false:=qdf hneg
      by_cases hpn:(n:Int)<=x0
      ·have HE:Hid (ckOn ps (prevOf v.on j) (v.on.drop j)=5):=qh (by rw [Hst.out,if_pos (.inr (.inl (by rw [Hpl.out];exact hpn)))])
       have hpn':decide ((n:Int)<=x0)=true:=qdt hpn
       go_wp2
       go_quiet (fail)
       go_wp2
       go_ret
       exact ⟨ret_int (by rw [HR3.out,Hcl.out,HE.out]),below_drewN X3.out.bel _⟩
      have hpn':decide ((n:Int)<=x0)=false:=qdf hpn
      by_cases hneg1:x1<0
      ·have HE:Hid (ckOn ps (prevOf v.on j) (v.on.drop j)=5):=qh (by rw [Hst.out,if_pos (.inr (.inr (.inl hneg1)))])
       have hneg1':decide (x1<0)=true:=qdt hneg1
       go_wp2
       go_quiet (fail)
       go_wp2
       go_ret
       exact ⟨ret_int (by rw [HR3.out,Hcl.out,HE.out]),below_drewN X3.out.bel _⟩
      have hneg1':decide (x1<0)=false:=qdf hneg1
      obtain ⟨y,rfl⟩:∃ y:Nat,x0=y:=⟨x0.toNat,by omega⟩
      have hyn:y<n:=by omega
      obtain ⟨b2,o2,p,D,fn,fc,kd,pa,f,no,F,fq,fd,rfl,hbS2,hp,hP,hcell⟩:=(HT.out.under XT.out.bel HS.out).at_ hyn
      have h3:=hcell 3 (by omega)
      unfold pkRow ndRow at h3
      simp only [qgz,qgs] at h3
      have Hfl:Hid ((pkOf ps (y:Int)).fs.length=fn):=qh (by unfold pkOf;rw [Int.toNat_natCast,qgd,hp];exact hP.fs.len)
      have hbl2:b2<wr.heap.size:=ql (HS.out _ hbS2) XT.out.bel.size
      have hy0:(0:Int)<=(y:Int):=by omega
      have hy1:(y:Int)<n:=by omega
      clear hcell hp hP
      by_cases hfn:(fn:Int)<=x1
      ·have HE:Hid (ckOn ps (prevOf v.on j) (v.on.drop j)=5):=qh (by rw [Hst.out,if_pos (.inr (.inr (.inr (by rw [Hfl.out];exact hfn))))])
       have hfn':decide ((fn:Int)<=x1)=true:=qdt hfn
       go_wp2
       go_quiet (fail)
       go_wp2
       go_ret
       exact ⟨ret_int (by rw [HR3.out,Hcl.out,HE.out]),below_drewN X3.out.bel _⟩
      have hfn':decide ((fn:Int)<=x1)=false:=qdf hfn
      have HSt2:Hid (ckOn ps none v.on=if badOn (prevOf v.on j) ((y:Int),x1)=true then 6 else ckOn ps (prevOf v.on (j+1)) (v.on.drop (j+1))):=qh (by rw [Hcl.out,Hst.out,if_neg (by have:=Hpl.out;have:=Hfl.out;omega)])
      clear Hst Hcl
      rcases j with _ | i
      ·have HE:Hid (ckOn ps none v.on=ckOn ps (prevOf v.on (0+1)) (v.on.drop (0+1))):=qh (by rw [HSt2.out,if_neg (by rw [prevOf_zero];simp [badOn])])
       simp only [Nat.zero_mul,Nat.add_zero,Nat.zero_add] at g0 g1
       go_wp2
       go_quiet (fail)
       go_wp2
       go_quiet (fail)
       go_wp2
       go_roundg (gk - 1)
       case measure=>have:=Hj.out;omega
       case rel=>exact ⟨(0+1),qh (by have:=Hj.out;omega),by go_num,HE,qh (by first | exact X3.out.drewN _ | exact (X3.out.drewN _).drewN _)⟩
      obtain ⟨b',o',x',q,e,_,hq,hxq,_,hcell⟩:=(HV.out.on.keep (w':=wr) (fun p hp=>XT.out.bel.cell (HS.out _ hp)) fun _ _ h=>h).at_ (j:=i) (by omega) (by decide)
      injection e with e;injection e with e1 e2;subst e1 e2
      unfold RPair at hxq
      subst hxq
      obtain ⟨q0,q1⟩:=q
      have k0:=hcell 0 (by omega);have k1:=hcell 1 (by omega)
      simp only [qgz,qgs,Nat.add_zero] at k0 k1
      have Hpr:Hid (prevOf v.on (i+1)=some (q0,q1)):=qh (prevOf_succ hq)
      have HSt3:Hid (ckOn ps none v.on=if badOn (some (q0,q1)) ((y:Int),x1)=true then 6 else ckOn ps (prevOf v.on (i+1+1)) (v.on.drop (i+1+1))):=qh (by rw [HSt2.out,Hpr.out])
      have Hbo:Hid (badOn (some (q0,q1)) ((y:Int),x1) = !(decide (q0<(y:Int)) || (decide (q0=(y:Int)) && decide (q1<x1)))):=qh rfl
      clear HSt2 hcell hq
      generalize badOn (some (q0,q1)) ((y:Int),x1)=bo at HSt3 Hbo
      have hwr:IntKind.i64.wrap ((i:Int)+1 - 1)=(i:Int):=by rw [IntKind.wrap_i64];omega
      have hwr0:IntKind.i64.wrap (i:Int)=(i:Int):=by rw [IntKind.wrap_i64];omega
      have hin:i<n4:=by omega
      have hin2:(i:Int)<n4:=by omega
      have hin3:(0:Int)<(i:Int)+1:=by omega
      by_cases hq0:q0<(y:Int)
      ·have hq0':decide (q0<(y:Int))=true:=qdt hq0
       have HE:Hid (ckOn ps none v.on=ckOn ps (prevOf v.on (i+1+1)) (v.on.drop (i+1+1))):=qh (by rw [HSt3.out,Hbo.out,hq0'];rfl)
       go_wp2
       go_quiet (fail)
       go_wp2
       go_quiet (fail)
       go_wp2
       go_roundg (gk - 1)
       case measure=>have:=Hj.out;omega
       case rel=>exact ⟨(i+1+1),qh (by have:=Hj.out;omega),by go_num,HE,qh (by first | exact X3.out.drewN _ | exact (X3.out.drewN _).drewN _)⟩
      have hq0':decide (q0<(y:Int))=false:=qdf hq0
      by_cases hqe:q0=(y:Int)
      ·have hqe':(q0 == (y:Int))=true:=by simpa using hqe
       by_cases hq1:q1<x1
       ·have hq1':decide (q1<x1)=true:=qdt hq1
        have HE:Hid (ckOn ps none v.on=ckOn ps (prevOf v.on (i+1+1)) (v.on.drop (i+1+1))):=qh (by rw [HSt3.out,Hbo.out,hq0',qdt hqe,hq1'];rfl)
        have Hqe:=qh hqe;clear hqe
        go_wp2
        go_quiet (fail)
        go_wp2
        go_quiet (fail)
        go_wp2
        go_roundg (gk - 1)
        case measure=>have:=Hj.out;omega
        case rel=>exact ⟨(i+1+1),qh (by have:=Hj.out;omega),by go_num,HE,qh (by first | exact X3.out.drewN _ | exact (X3.out.drewN _).drewN _)⟩
       have hq1':decide (q1<x1)=false:=qdf hq1
       have HE:Hid (ckOn ps none v.on=6):=qh (by rw [HSt3.out,Hbo.out,hq0',hq1'];simp)
       have Hqe:=qh hqe;clear hqe
       go_wp2
       go_quiet (fail)
       go_wp2
       go_quiet (fail)
       go_wp2
       go_ret
       exact ⟨ret_int (by rw [HR3.out,HE.out]),by first | exact below_drewN X3.out.bel _ | exact below_drewN (below_drewN X3.out.bel _) _⟩
      have hqe':(q0 == (y:Int))=false:=by simpa using hqe
      have HE:Hid (ckOn ps none v.on=6):=qh (by rw [HSt3.out,Hbo.out,hq0',qdf hqe];rfl)
      go_wp2
      go_quiet (fail)
      go_wp2
      go_quiet (fail)
      go_wp2
      go_ret
      exact ⟨ret_int (by rw [HR3.out,HE.out]),by first | exact below_drewN X3.out.bel _ | exact below_drewN (below_drewN X3.out.bel _) _⟩
     obtain rfl:n4=j:=by have:=Hj.out;omega
     go_wp2
     go_ret
     exact ⟨ret_int (by rw [HRC.out,Hcl.out,List.drop_of_length_le (by have:=Hon.out;omega)];rfl),XT.out.bel⟩
 have z1:(z != 0)=true:=by simpa using z0
 go_enter Tryz.func34,Tryz.ntmps34
 go_wp2_with (first | (go_at_call 56;refine Hcs.out.mono ?_;rintro e w2 ⟨rfl,hb2⟩;refine Hid.out ?_))
 refine qh ?_
 have X2:=qh (X0.out.move hb2)
 clear hb2 X0 Hcs
 go_wp2
 go_ret
 exact ⟨ret_int (by rw [HR.out,if_pos z0]),X2.out.bel⟩
end Go.Proofs.YtedbhlgjcnnknaaGreatDoor
