/- Parts. -/
import Derived.Test.YtedbhlgjcnnknaaGreatDoorQ28
import Derived.Test.YtedbhlgjcnnknaaGreatDoorQ26
import Derived.ProofKit
import Derived.ChangeOld
import Derived.Lib.SmallJoins
import Derived.Deep.Matrix
import Derived.Deep.Grids
import Derived.Test.YtedbhlgjcnnknaaGreatDoorRows
import Derived.LaidMore
import Derived.OpenShut
import Derived.Stop.Joined
import Derived.Stop.LaidErr
import Derived.Lib.LaidTab
set_option linter.unusedVariables false
set_option linter.unusedSimpArgs false
set_option linter.unusedSectionVars false
set_option maxRecDepth 100000
set_option maxHeartbeats 12800000
namespace Go.Proofs.YtedbhlgjcnnknaaGreatDoor
section
open Go.RowKit Qm
theorem rcheckTree_any (ps:List Pk) (S:Nat->Prop) (A:Option Addr) (n c:Nat) (w:World) (hT:RTree w S A n ps) (hnc:n<=c) (hc:c<=maxLen) (hS:∀ k,S k->k<w.heap.size) :
  Calls Tryz.prog 65 #[.agg #[.slice A n c]] w fun e w'=>e=.returned (.int .i64 (ckTree ps))/\Below w.heap.size w w':=by
 have hl:=hT.len
 have HK:Hid (ckTree ps=if 8<ps.length then 2 else ckT none ps.length ps):=qh rfl
 generalize ckTree ps=R at HK ⊢
 have HT:=qh hT;have HS:=qh hS;clear hT hS
 have X0:=qh (Tx.new w A n c)
 unfold maxLen at hc
 by_cases n8:(8:Int)<n
 ·go_enter Tryz.func65,Tryz.ntmps65
  go_wp2
  go_ret
  exact ⟨ret_int (by rw [HK.out,if_pos (by omega)]),X0.out.below⟩
 have n8':decide ((8:Int)<n)=false:=qdf n8
 have HK1:Hid (R=ckT none n ps):=qh (by rw [HK.out,if_neg (by omega),hl])
 clear HK
 go_enter Tryz.func65,Tryz.ntmps65
 go_wp2
 go_loopg [3,19] n (fun g fv iv wr=>∃ (j m:Nat),Hid (j+g=n)/\iv=.int .i64 j/\fv=.int .i64 m/\n+m<=14/\Hid (ckT none n ps=ckT (prevOf ps j) (n+m) (ps.drop j))/\Hid (Tx w A n c wr))
 case atStart=>exact ⟨0,0,qh (Nat.zero_add _),rfl,rfl,by omega,qh rfl,X0⟩
 case round =>
  obtain ⟨j,m,Hj,rfl,rfl,hm,Hcl,XR⟩:=hrel
  have hJ2:ctJ w A n c ps _:=‹∀ (k:Nat) (a':Act) (w':World),_->_›
  by_cases hj:j<n
  ·exact rct_round ps S A n c w HT hnc hc HS R HK1 gk wr _ _ _ _ _ _ _ _ _ _ _ _ _ _ _ _ _ _ _ _ _ _ _ _ _ _ _ _ _ _ _ _ _ _ _ _ _ _ _ _ _ _ _ _ _ _ _ _ _ _ _ _ _ _ _ _ _ _ _ _ _ _ _ _ _ _ _ _ _ _ _ _ _ _ _ _ _ _ _ _ _ _ _ _ _ _ _ _ _ _ _ _ _ _ _ _ _ _ _ _ _ _ _ _ _ _ _ _ _ _ _ _ _ _ _ _ _ _ _ _ _ _ _ _ _ _ _ _ _ _ _ hJ2 (by assumption) j m Hj hm Hcl XR hj
  obtain rfl:n=j:=by have:=Hj.out;omega
  clear hJ2
  go_wp2
  go_ret
  exact ⟨ret_int (by rw [HK1.out,Hcl.out,ckT_done (by omega)]),XR.out.below⟩
end
section
open Go.RowKit Qm
theorem rcset_any (ps:List Pk) (l:List Mem) (S:Nat->Prop) (A B:Option Addr) (n c k d:Nat) (w:World) (hT:RTree w S A n ps) (hn8:n<=8) (hnc:n<=c) (hc:c<=maxLen) (hL:RSet w S B k l) (hk:k<=maxLen) (hS:∀ k,S k->k<w.heap.size) :
  Calls Tryz.prog 25 #[.agg #[.slice A n c],.slice B k d] w fun e w'=>e=.returned (.int .i64 (ckMs ps none l))/\Below w.heap.size w w':=by
 have Hpl:=qh hT.len
 have Hll:=qh hL.len
 have X2:=qh (Tx.new w A n c)
 have HT:=qh hT;have HS:=qh hS;have HL:=qh hL;clear hT hS hL
 obtain ⟨R,hR⟩:∃ R,R=ckMs ps none l:=⟨_,rfl⟩
 rw [<- hR]
 have HK1:=qh hR
 clear hR
 unfold maxLen at hc hk
 go_enter Tryz.func25,Tryz.ntmps25
 go_wp2
 go_loopg [5,10] k (fun g lv iv wr=>∃ (j:Nat) (la:Int),Hid (j+g=k)/\iv=.int .i64 j/\lv=.int .i64 la/\Hid (∀ q,prevOf (l.map Mem.pl) j=some q->la=q)/\Hid (ckMs ps none l=ckMs ps (prevOf (l.map Mem.pl) j) (l.drop j))/\Hid (Tx w A n c wr))
 case atStart=>exact ⟨0,-1,qh (Nat.zero_add _),rfl,rfl,qh (fun q h=>by rw [prevOf_zero] at h;cases h),qh rfl,X2⟩
 case round =>
  obtain ⟨j,la,Hj,rfl,rfl,Hla,Hcl,XR⟩:=hrel
  clear X2
  by_cases hj:j<k
  ·obtain ⟨b,o,m,E,q,r,rfl,hbS,hm,hqr,hr,hon,g0,g1⟩:=(HL.out.under XR.out.below HS.out).at_ hj
   have Hst:=qh (ckMs_step (ps:=ps) hm)
   have HMj:Hid (∀ i:Nat,j=i+1->∃ m',l[i]? = some m'):=qh fun i hi=>⟨_,qge (by have:=Hll.out;omega)⟩
   have Hol:=qh hon.len
   have hbl:b<wr.heap.size:=ql (HS.out _ hbS) XR.out.below.size
   have X3:=qh (XR.out.move ((qbr _ wr).alloc (qr _) (.cells #[.int .i64 m.pl,.slice E q r] 85)))
   have Hmj:Hid (prevOf (l.map Mem.pl) (j+1)=some m.pl):=qh (prevOf_succ (by rw [qgm,hm];rfl))
   obtain ⟨pl,on⟩:=m
   dsimp only at g0 g1 Hst Hol X3 Hmj
   clear hm hon
   have t0:=XR.out.whole.cell 0
   simp only [qgz] at t0
   have tlt:=XR.out.whole.lt
   by_cases hneg:pl<0
   ·have HE:Hid (ckMs ps (prevOf (l.map Mem.pl) j) (l.drop j)=5):=qh (by rw [Hst.out,if_pos (.inl hneg)])
    have hneg':decide (pl<0)=true:=qdt hneg
    go_wp2
    go_ret
    exact ⟨ret_int (by rw [HK1.out,Hcl.out,HE.out]),X3.out.below⟩
   have hneg':decide (pl<0)=false:=qdf hneg
   by_cases hpn:(n:Int)<=pl
   ·
    have HE:Hid (ckMs ps (prevOf (l.map Mem.pl) j) (l.drop j)=5):=qh (by rw [Hst.out,if_pos (.inr (by rw [Hpl.out];exact hpn))])
    have hpn':decide ((n:Int)<=pl)=true:=qdt hpn
    go_wp2
    go_ret
    exact ⟨ret_int (by rw [HK1.out,Hcl.out,HE.out]),X3.out.below⟩
   obtain ⟨y,rfl⟩:∃ y:Nat,pl=y:=⟨pl.toNat,by omega⟩
   have hyn:y<n:=by omega
   obtain ⟨b2,o2,p,D,fn,fc,kd,pa,f,no,F,fq,fd,rfl,hbS2,hp,hP,hcell⟩:=(HT.out.under XR.out.below HS.out).at_ hyn
   have h3:=hcell 3 (by omega)
   unfold pkRow ndRow at h3
   simp only [qgz,qgs] at h3
   have Hfl:Hid ((pkOf ps (y:Int)).fs.length=fn):=qh (by unfold pkOf;rw [Int.toNat_natCast,qgd,hp];exact hP.fs.len)
   have hbl2:b2<wr.heap.size:=ql (HS.out _ hbS2) XR.out.below.size
   clear hcell hp hP
   have HSt2:Hid (ckMs ps (prevOf (l.map Mem.pl) j) (l.drop j)=if badPl (prevOf (l.map Mem.pl) j) (y:Int)=true then 6 else if q≠fn then 4 else ckMs ps (prevOf (l.map Mem.pl) (j+1)) (l.drop (j+1))):=qh (by
    rw [Hst.out,if_neg (by have:=Hpl.out;omega),Hfl.out,Hol.out])
   clear Hst
   have hy0:(0:Int)<=(y:Int):=by omega
   have hy1:(y:Int)<n:=by omega
   rcases j with _ | i
   ·have HX:Hid (ckMs ps (prevOf (l.map Mem.pl) 0) (l.drop 0)=if q≠fn then 4 else ckMs ps (prevOf (l.map Mem.pl) (0+1)) (l.drop (0+1))):=qh (by rw [HSt2.out,if_neg (by rw [prevOf_zero];simp [badPl])])
    simp only [Nat.zero_mul,Nat.add_zero] at g0 g1
    by_cases hq:q=fn
    ·have HE:Hid (ckMs ps (prevOf (l.map Mem.pl) 0) (l.drop 0)=ckMs ps (prevOf (l.map Mem.pl) (0+1)) (l.drop (0+1))):=qh (by rw [HX.out,if_neg (by simpa using hq)])
     subst hq
     go_wp2
     go_quiet (fail)
     go_wp2
     go_roundg (gk - 1)
     case measure=>have:=Hj.out;omega
     case rel=>exact ⟨0+1,y,qh (by have:=Hj.out;omega),by go_num,rfl,qh (fun q h=>by rw [Hmj.out] at h;exact Option.some.inj h),qh (by rw [Hcl.out,HE.out]),qh (X3.out.drew _)⟩
    have HE:Hid (ckMs ps (prevOf (l.map Mem.pl) 0) (l.drop 0)=4):=qh (by rw [HX.out,if_pos hq])
    have hq':((q:Int) != (fn:Int))=true:=by simp;omega
    go_wp2
    go_quiet (fail)
    go_wp2
    go_ret
    exact ⟨ret_int (by rw [HK1.out,Hcl.out,HE.out]),below_drewN X3.out.below _⟩
   obtain ⟨b',o',m',E',q',r',e,_,hm',_,_,_,k0,_⟩:=(HL.out.under XR.out.below HS.out).at_ (j:=i) (by omega)
   injection e with e;injection e with e1 e2;subst e1 e2
   have Hpr:Hid (prevOf (l.map Mem.pl) (i+1)=some m'.pl):=qh (prevOf_succ (by rw [qgm,hm'];rfl))
   have HSt3:Hid (ckMs ps (prevOf (l.map Mem.pl) (i+1)) (l.drop (i+1))=if badPl (some m'.pl) (y:Int)=true then 6 else if q≠fn then 4 else ckMs ps (prevOf (l.map Mem.pl) (i+1+1)) (l.drop (i+1+1))):=qh (by rw [HSt2.out,Hpr.out])
   have hla:m'.pl=la:=(Hla.out _ Hpr.out).symm
   rw [hla] at HSt3
   clear hm' HSt2 hla k0
   have hwr:IntKind.i64.wrap ((i:Int)+1 - 1)=(i:Int):=by rw [IntKind.wrap_i64];omega
   have hwr0:IntKind.i64.wrap (i:Int)=(i:Int):=by rw [IntKind.wrap_i64];omega
   have hin:i<k:=by omega
   have hin2:(i:Int)<k:=by omega
   have hin3:(0:Int)<(i:Int)+1:=by omega
   by_cases hb:(y:Int)<=la
   ·have HE:Hid (ckMs ps (prevOf (l.map Mem.pl) (i+1)) (l.drop (i+1))=6):=qh (by rw [HSt3.out,if_pos (by simpa [badPl] using hb)])
    have hb':decide ((y:Int)<=la)=true:=qdt hb
    go_wp2
    go_ret
    exact ⟨ret_int (by rw [HK1.out,Hcl.out,HE.out]),X3.out.below⟩
   have HX:Hid (ckMs ps (prevOf (l.map Mem.pl) (i+1)) (l.drop (i+1))=if q≠fn then 4 else ckMs ps (prevOf (l.map Mem.pl) (i+1+1)) (l.drop (i+1+1))):=qh (by rw [HSt3.out,if_neg (by simpa [badPl] using hb)])
   have hb':decide ((y:Int)<=la)=false:=qdf hb
   by_cases hq:q=fn
   ·have HE:Hid (ckMs ps (prevOf (l.map Mem.pl) (i+1)) (l.drop (i+1))=ckMs ps (prevOf (l.map Mem.pl) ((i+1)+1)) (l.drop ((i+1)+1))):=qh (by rw [HX.out,if_neg (by simpa using hq)])
    subst hq
    go_wp2
    go_quiet (fail)
    go_wp2
    go_roundg (gk - 1)
    case measure=>have:=Hj.out;omega
    case rel=>exact ⟨(i+1)+1,y,qh (by have:=Hj.out;omega),by go_num,rfl,qh (fun q h=>by rw [Hmj.out] at h;exact Option.some.inj h),qh (by rw [Hcl.out,HE.out]),qh (X3.out.drew _)⟩
   have HE:Hid (ckMs ps (prevOf (l.map Mem.pl) (i+1)) (l.drop (i+1))=4):=qh (by rw [HX.out,if_pos hq])
   have hq':((q:Int) != (fn:Int))=true:=by simp;omega
   go_wp2
   go_quiet (fail)
   go_wp2
   go_ret
   exact ⟨ret_int (by rw [HK1.out,Hcl.out,HE.out]),below_drewN X3.out.below _⟩
  obtain rfl:k=j:=by have:=Hj.out;omega
  go_wp2
  go_ret
  exact ⟨ret_int (by rw [HK1.out,Hcl.out,ckMs_done (by have:=Hll.out;omega)]),XR.out.below⟩
end
section
open Go.RowKit Qm
theorem badOn_num {q0 q1 y x1:Int} (h1:0<=q1) (h2:q1<=9) (h3:0<=x1) (h4:x1<=9):badOn (some (q0,q1)) (y,x1)=decide (10 * y+x1<=10 * q0+q1):=by
 simp only [badOn]
 by_cases hq:q0<y
 ·rw [qdt hq,qdf (show ¬ 10 * y+x1<=10 * q0+q1 by omega)];rfl
 rw [qdf hq,Bool.false_or]
 by_cases he:q0=y
 ·rw [qdt he,Bool.true_and]
  by_cases hx:q1<x1
  ·rw [qdt hx,qdf (by omega)];rfl
  rw [qdf hx,qdt (by omega)];rfl
 rw [qdf he,Bool.false_and,qdt (by omega)];rfl
theorem rcwish_any (ps:List Pk) (v:Ws) (S:Nat->Prop) (A:Option Addr) (n c:Nat) (A1 A2 A3 A4:Option Addr) (n1 c1 n2 c2 n3 c3 n4 c4:Nat) (w:World) (hT:RTree w S A n ps) (hck:ckTree ps=0) (hnc:n<=c) (hc:c<=maxLen) (hV:WsAt w S A1 n1 c1 A2 n2 c2 A3 n3 c3 A4 n4 c4 v) (hS:∀ k,S k->k<w.heap.size) :
  Calls Tryz.prog 66 #[.agg #[.slice A n c],.agg #[.slice A1 n1 c1,.slice A2 n2 c2,.slice A3 n3 c3,.slice A4 n4 c4]] w fun e w'=>e=.returned (.int .i64 (ckWish ps v))/\Below w.heap.size w w':=by
 have Hpl:=qh hT.len
 have X0:=qh (Wb.new w A n c [.slice A1 n1 c1,.slice A2 n2 c2,.slice A3 n3 c3,.slice A4 n4 c4])
 have HT:=qh hT;have HS:=qh hS;have HV:=qh hV;clear hT hS hV
 have hl0:=fun q hq=>ql (HS.out q hq) X0.out.bel.size
 have hn8:n<=8:=by rw [<- Hpl.out];exact ckTree_len hck
 have HOK:Hid (∀ p∈ps,p.fs.length<=2):=qh fun p hp=>(pkOk (ckTree_mem hck p hp)).len
 have Hcs:=qh (rcset_any ps v.ins S A A2 n c n2 c2 _ (HT.out.under X0.out.bel HS.out) hn8 hnc hc (HV.out.ins.under X0.out.bel HS.out) (qlt HV.out.h2.1 HV.out.h2.2) hl0)
 clear hl0
 have H1:=HV.out.h1;have H2:=HV.out.h2;have H3:=HV.out.h3;have H4:=HV.out.h4
 unfold maxLen at hc H1 H2 H3 H4
 have hts:=HV.out.ts.len
 have hms:=HV.out.ms.len
 have hon:=HV.out.on.len
 have HR:Hid (ckWish ps v=if ckMs ps none v.ins≠0 then ckMs ps none v.ins else ckWishR ps v):=qh (by unfold ckWish ckSet;rw [if_neg (show ¬ (ckTree ps≠0) by simp [hck])])
 clear hck
 have HR1:Hid (ckWishR ps v=if 6<v.ts.length then 2 else if ckAts v.ts≠0 then ckAts v.ts else if ckMask ps none v.ms≠0 then ckMask ps none v.ms else ckOn ps none v.on):=qh rfl
 generalize ckWish ps v=R at HR ⊢
 generalize hz:ckMs ps none v.ins=z at Hcs HR
 have HZ:=qh hz;clear hz
 have Hts:=qh hts;have Hms:=qh hms;have Hon:=qh hon
 clear hts hms hon
 by_cases z0:z=0
 ·subst z0
  have HR2:Hid (R=if 6<n1 then 2 else if ckAts v.ts≠0 then ckAts v.ts else if ckMask ps none v.ms≠0 then ckMask ps none v.ms else ckOn ps none v.on):=qh (by rw [HR.out,if_neg (by simp),HR1.out,Hts.out])
  clear HR HR1
  by_cases h6:(6:Int)<n1
  ·
   go_enter Tryz.func66,Tryz.ntmps66
   go_wp2_with (first | (go_at_call 25;refine Hcs.out.mono ?_;rintro e w2 ⟨rfl,hb2⟩;refine Hid.out ?_))
   refine qh ?_
   have X2:=qh (X0.out.move hb2)
   clear hb2 X0 Hcs
   have v0:=X2.out.v.cell 0
   simp only [qgz] at v0
   go_wp2
   go_ret
   exact ⟨ret_int (by rw [HR2.out,if_pos (by omega)]),X2.out.bel⟩
  have h6':decide ((6:Int)<n1)=false:=qdf h6
  have HRA:Hid (R=if ckAts v.ts≠0 then ckAts v.ts else if ckMask ps none v.ms≠0 then ckMask ps none v.ms else ckOn ps none v.on):=qh (by rw [HR2.out,if_neg (by omega)])
  clear HR2
  go_enter Tryz.func66,Tryz.ntmps66
  go_wp2_with (first | (go_at_call 25;refine Hcs.out.mono ?_;rintro e w2 ⟨rfl,hb2⟩;refine Hid.out ?_))
  refine qh ?_
  have X2:=qh (X0.out.move hb2)
  clear hb2 X0 Hcs
  have v0:=X2.out.v.cell 0
  simp only [qgz] at v0
  have vlt:=X2.out.v.lt
  go_wp2
  clear v0 vlt
  go_loopg [29] n1 (fun g iv wr=>∃ j:Nat,Hid (j+g=n1)/\iv=.int .i64 j/\Hid (ckAts v.ts=ckAts (v.ts.drop j))/\Hid (Wb w A n c [.slice A1 n1 c1,.slice A2 n2 c2,.slice A3 n3 c3,.slice A4 n4 c4] wr))
  case atStart=>exact ⟨0,qh (Nat.zero_add _),rfl,qh rfl,X2⟩
  case round =>
   obtain ⟨j,Hj,rfl,Hcl,XR⟩:=hrel
   clear X2
   by_cases hj:j<n1
   ·obtain ⟨b,o,x,a,rfl,hbS,ha,hxa,_,hcell⟩:=(HV.out.ts.keep (w':=wr) (fun p hp=>XR.out.bel.cell (HS.out _ hp)) fun _ _ h=>h).at_ hj (by decide)
    obtain ⟨rfl,ha1,ha2⟩:=hxa
    have Hst:=qh (ckAts_step ha)
    have hac:=fun wx=>rcheck_any ⟨a.nm.toArray⟩ ⟨a.fl.toArray⟩ a.op a.ver a.slot a.on wx (by rw [bsz];exact ha1) (by rw [bsz];exact ha2)
    rw [atOf_mk] at hac
    unfold atv at hac
    generalize ckAtom a=y at hac Hst
    have Hac:=qh hac;clear hac
    have g0:=hcell 0 (by omega);have g1:=hcell 1 (by omega);have g2:=hcell 2 (by omega);have g3:=hcell 3 (by omega);have g4:=hcell 4 (by omega);have g5:=hcell 5 (by omega)
    unfold atRow at g0 g1 g2 g3 g4 g5
    simp only [qgz,qgs,Nat.add_zero] at g0 g1 g2 g3 g4 g5
    have X3:=qh (XR.out.alloc (.cells #[.string ⟨a.nm.toArray⟩,.int .i64 a.op,.int .i64 a.ver,.int .i64 a.slot,.string ⟨a.fl.toArray⟩,.bool a.on] 75))
    clear hcell ha ha1 ha2
    go_wp2_with (first | (go_at_call 93;refine (Hac.out _).mono ?_;rintro e w4 ⟨rfl,hb4⟩;refine Hid.out ?_))
    refine qh ?_
    have X4:=qh (X3.out.move hb4)
    clear hb4 g0 g1 g2 g3 g4 g5
    by_cases y0:y=0
    ·subst y0
     have HE:Hid (ckAts (v.ts.drop j)=ckAts (v.ts.drop (j+1))):=qh (by rw [Hst.out,if_neg (by simp)])
     go_wp2
     go_roundg (gk - 1)
     case measure=>have:=Hj.out;omega
     case rel=>exact ⟨j+1,qh (by have:=Hj.out;omega),by go_num,qh (by rw [Hcl.out,HE.out]),X4⟩
    have y1:(y != 0)=true:=by simpa using y0
    have HE:Hid (ckAts v.ts=y):=qh (by rw [Hcl.out,Hst.out,if_pos y0])
    go_wp2
    go_ret
    exact ⟨ret_int (by rw [HRA.out,HE.out,if_pos y0]),X4.out.bel⟩
   obtain rfl:n1=j:=by have:=Hj.out;omega
   have HRB:Hid (R=if ckMask ps none v.ms≠0 then ckMask ps none v.ms else ckOn ps none v.on):=qh (by
    rw [HRA.out,Hcl.out,List.drop_of_length_le (by have:=Hts.out;omega)];rfl)
   clear HRA Hcl
   have v2:=XR.out.v.cell 2
   simp only [qgz,qgs] at v2
   go_wp2
   clear v2
   obtain ⟨wq,hwq⟩:∃ x,x=wr:=⟨_,rfl⟩
   rw [<- hwq] at XR ⊢
   clear hwq
   go_loopg [42] n3 (fun g iv wr=>∃ j:Nat,Hid (j+g=n3)/\iv=.int .i64 j/\Hid (ckMask ps none v.ms=ckMask ps (prevOf v.ms j) (v.ms.drop j))/\Hid (Wb w A n c [.slice A1 n1 c1,.slice A2 n2 c2,.slice A3 n3 c3,.slice A4 n4 c4] wr))
   case atStart=>exact ⟨0,qh (Nat.zero_add _),rfl,qh rfl,XR⟩
   case round =>
    obtain ⟨j,Hj,rfl,Hcl,XQ⟩:=hrel
    clear XR
    by_cases hj:j<n3
    ·obtain ⟨b,o,rfl,hbS,g0⟩:=RInts.at_ (RInts.keep (w':=wr) HV.out.ms fun p hp=>XQ.out.bel.cell (HS.out _ hp)) hj
     have Hst:=qh (ckMask_step (ps:=ps) (getD_some (l:=v.ms) (j:=j) (by have:=Hms.out;omega)))
     have hbl:b<wr.heap.size:=ql (HS.out _ hbS) XQ.out.bel.size
     have t0:=XQ.out.t.cell 0
     have v2:=XQ.out.v.cell 2
     simp only [qgz,qgs] at t0 v2
     generalize v.ms.getD j 0=x at g0 Hst
     by_cases hneg:x<0
     ·have HE:Hid (ckMask ps none v.ms=5):=qh (by rw [Hcl.out,Hst.out,if_pos (.inl hneg)])
      have hneg':decide (x<0)=true:=qdt hneg
      go_wp2
      go_ret
      exact ⟨ret_int (by rw [HRB.out,HE.out,if_pos (by decide)]),XQ.out.bel⟩
     have hneg':decide (x<0)=false:=qdf hneg
     by_cases hpn:(n:Int)<=x
     ·have HE:Hid (ckMask ps none v.ms=5):=qh (by rw [Hcl.out,Hst.out,if_pos (.inr (by rw [Hpl.out];exact hpn))])
      have hpn':decide ((n:Int)<=x)=true:=qdt hpn
      go_wp2
      go_ret
      exact ⟨ret_int (by rw [HRB.out,HE.out,if_pos (by decide)]),XQ.out.bel⟩
     have hpn':decide ((n:Int)<=x)=false:=qdf hpn
     have HSt2:Hid (ckMask ps none v.ms=if badPl (prevOf v.ms j) x=true then 6 else ckMask ps (prevOf v.ms (j+1)) (v.ms.drop (j+1))):=qh (by rw [Hcl.out,Hst.out,if_neg (by have:=Hpl.out;omega)])
     clear Hst Hcl
     rcases j with _ | i
     ·have HE:Hid (ckMask ps none v.ms=ckMask ps (prevOf v.ms (0+1)) (v.ms.drop (0+1))):=qh (by rw [HSt2.out,if_neg (by rw [prevOf_zero];simp [badPl])])
      simp only [Nat.add_zero] at g0
      go_wp2
      go_roundg (gk - 1)
      case measure=>have:=Hj.out;omega
      case rel=>exact ⟨0+1,qh (by have:=Hj.out;omega),by go_num,HE,XQ⟩
     obtain ⟨b',o',e,_,k0⟩:=RInts.at_ (RInts.keep (w':=wr) HV.out.ms fun p hp=>XQ.out.bel.cell (HS.out _ hp)) (k:=i) (by omega)
     injection e with e;injection e with e1 e2;subst e1 e2
     have Hpr:Hid (prevOf v.ms (i+1)=some (v.ms.getD i 0)):=qh (prevOf_succ (getD_some (by have:=Hms.out;omega)))
     have HSt3:Hid (ckMask ps none v.ms=if badPl (some (v.ms.getD i 0)) x=true then 6 else ckMask ps (prevOf v.ms (i+1+1)) (v.ms.drop (i+1+1))):=qh (by rw [HSt2.out,Hpr.out])
     clear HSt2
     generalize v.ms.getD i 0=pp at k0 HSt3
     have hwr:IntKind.i64.wrap ((i:Int)+1 - 1)=(i:Int):=by rw [IntKind.wrap_i64];omega
     have hwr0:IntKind.i64.wrap (i:Int)=(i:Int):=by rw [IntKind.wrap_i64];omega
     have hin:i<n3:=by omega
     have hin2:(i:Int)<n3:=by omega
     have hin3:(0:Int)<(i:Int)+1:=by omega
     by_cases hb:x<=pp
     ·have HE:Hid (ckMask ps none v.ms=6):=qh (by rw [HSt3.out,if_pos (by simpa [badPl] using hb)])
      have hb':decide (x<=pp)=true:=qdt hb
      go_wp2
      go_ret
      exact ⟨ret_int (by rw [HRB.out,HE.out,if_pos (by decide)]),XQ.out.bel⟩
     have HE:Hid (ckMask ps none v.ms=ckMask ps (prevOf v.ms (i+1+1)) (v.ms.drop (i+1+1))):=qh (by rw [HSt3.out,if_neg (by simpa [badPl] using hb)])
     have hb':decide (x<=pp)=false:=qdf hb
     go_wp2
     go_roundg (gk - 1)
     case measure=>have:=Hj.out;omega
     case rel=>exact ⟨i+1+1,qh (by have:=Hj.out;omega),by go_num,HE,XQ⟩
    obtain rfl:n3=j:=by have:=Hj.out;omega
    have HRC:Hid (R=ckOn ps none v.on):=qh (by
     rw [HRB.out,Hcl.out,List.drop_of_length_le (by have:=Hms.out;omega)];rfl)
    clear HRB Hcl
    have v3:=XQ.out.v.cell 3
    simp only [qgz,qgs] at v3
    go_wp2
    clear v3
    obtain ⟨wu,hwu⟩:∃ x,x=wr:=⟨_,rfl⟩
    rw [<- hwu] at XQ ⊢
    clear hwu
    go_loopg [11,72] n4 (fun g lv iv wr=>∃ (j:Nat) (la:Int),Hid (j+g=n4)/\iv=.int .i64 j/\lv=.int .i64 la /\ -1<=la/\la<=1000/\Hid (j=0->la = -1)/\Hid (∀ q,prevOf v.on j=some q->la=10 * q.1+q.2/\0<=q.2/\q.2<=9)/\Hid (ckOn ps none v.on=ckOn ps (prevOf v.on j) (v.on.drop j))/\Hid (Wb w A n c [.slice A1 n1 c1,.slice A2 n2 c2,.slice A3 n3 c3,.slice A4 n4 c4] wr))
    case atStart=>exact ⟨0,-1,qh (Nat.zero_add _),rfl,rfl,by omega,by omega,qh (fun _=>rfl),qh (fun q h=>by rw [prevOf_zero] at h;cases h),qh rfl,XQ⟩
    case round =>
     obtain ⟨j,la,Hj,rfl,rfl,hla1,hla2,Hl0,Hla,Hcl,XT⟩:=hrel
     clear XQ
     by_cases hj:j<n4
     ·obtain ⟨b,o,x,y,rfl,hbS,hy,hxy,_,hcell⟩:=(HV.out.on.keep (w':=wr) (fun p hp=>XT.out.bel.cell (HS.out _ hp)) fun _ _ h=>h).at_ hj (by decide)
      have Hst:=qh (ckOn_step (ps:=ps) hy)
      have hyq:=qh hy
      unfold RPair at hxy
      subst hxy
      obtain ⟨x0,x1⟩:=y
      have hbl:b<wr.heap.size:=ql (HS.out _ hbS) XT.out.bel.size
      have g0:=hcell 0 (by omega);have g1:=hcell 1 (by omega)
      simp only [qgz,qgs,Nat.add_zero] at g0 g1
      dsimp only at Hst
      have X3:=qh (XT.out.alloc (.cells #[.int .i64 x0,.int .i64 x1] 86))
      have t0:=XT.out.t.cell 0
      have v3:=XT.out.v.cell 3
      simp only [qgz,qgs] at t0 v3
      have vlt:=XT.out.v.lt
      have tlt:=XT.out.t.lt
      clear hcell hy
      have HR3:Hid (R=ckOn ps none v.on):=HRC
      by_cases hneg:x0<0
      ·have HE:Hid (ckOn ps (prevOf v.on j) (v.on.drop j)=5):=qh (by rw [Hst.out,if_pos (.inl hneg)])
       have hneg':decide (x0<0)=true:=qdt hneg
       go_wp2
       go_quiet (fail)
       go_wp2
       go_ret
       exact ⟨ret_int (by rw [HR3.out,Hcl.out,HE.out]),below_drewN X3.out.bel _⟩
      have hneg':decide (x0<0)=false:=qdf hneg
      by_cases hpn:(n:Int)<=x0
      ·have HE:Hid (ckOn ps (prevOf v.on j) (v.on.drop j)=5):=qh (by rw [Hst.out,if_pos (.inr (.inl (by rw [Hpl.out];exact hpn)))])
       have hpn':decide ((n:Int)<=x0)=true:=qdt hpn
       go_wp2
       go_quiet (fail)
       go_wp2
       go_ret
       exact ⟨ret_int (by rw [HR3.out,Hcl.out,HE.out]),below_drewN X3.out.bel _⟩
      have hpn':decide ((n:Int)<=x0)=false:=qdf hpn
      by_cases hneg1:x1<0
      ·have HE:Hid (ckOn ps (prevOf v.on j) (v.on.drop j)=5):=qh (by rw [Hst.out,if_pos (.inr (.inr (.inl hneg1)))])
       have hneg1':decide (x1<0)=true:=qdt hneg1
       go_wp2
       go_quiet (fail)
       go_wp2
       go_ret
       exact ⟨ret_int (by rw [HR3.out,Hcl.out,HE.out]),below_drewN X3.out.bel _⟩
      have hneg1':decide (x1<0)=false:=qdf hneg1
      obtain ⟨y,rfl⟩:∃ y:Nat,x0=y:=⟨x0.toNat,by omega⟩
      have hyn:y<n:=by omega
      obtain ⟨b2,o2,p,D,fn,fc,kd,pa,f,no,F,fq,fd,rfl,hbS2,hp,hP,hcell⟩:=(HT.out.under XT.out.bel HS.out).at_ hyn
      have h3:=hcell 3 (by omega)
      unfold pkRow ndRow at h3
      simp only [qgz,qgs] at h3
      have Hfl:Hid ((pkOf ps (y:Int)).fs.length=fn):=qh (by unfold pkOf;rw [Int.toNat_natCast,qgd,hp];exact hP.fs.len)
      have hbl2:b2<wr.heap.size:=ql (HS.out _ hbS2) XT.out.bel.size
      have hy0:(0:Int)<=(y:Int):=by omega
      have hy1:(y:Int)<n:=by omega
      have Hf2:Hid (fn<=2):=qh (by have:=HOK.out p (List.mem_of_getElem? hp);have:=hP.fs.len;omega)
      clear hcell hp hP
      by_cases hfn:(fn:Int)<=x1
      ·have HE:Hid (ckOn ps (prevOf v.on j) (v.on.drop j)=5):=qh (by rw [Hst.out,if_pos (.inr (.inr (.inr (by rw [Hfl.out];exact hfn))))])
       have hfn':decide ((fn:Int)<=x1)=true:=qdt hfn
       go_wp2
       go_quiet (fail)
       go_wp2
       go_ret
       exact ⟨ret_int (by rw [HR3.out,Hcl.out,HE.out]),below_drewN X3.out.bel _⟩
      have hfn':decide ((fn:Int)<=x1)=false:=qdf hfn
      have HSt2:Hid (ckOn ps none v.on=if badOn (prevOf v.on j) ((y:Int),x1)=true then 6 else ckOn ps (prevOf v.on (j+1)) (v.on.drop (j+1))):=qh (by rw [Hcl.out,Hst.out,if_neg (by have:=Hpl.out;have:=Hfl.out;omega)])
      have hx9:x1<=9:=by have:=Hf2.out;omega
      have hx0:0<=x1:=by omega
      have hy8:(y:Int)<=8:=by omega
      have HP:=qh (prevOf_succ hyq.out)
      clear Hst Hcl
      rcases j with _ | i
      ·have HE:Hid (ckOn ps none v.on=ckOn ps (prevOf v.on (0+1)) (v.on.drop (0+1))):=qh (by rw [HSt2.out,if_neg (by rw [prevOf_zero];simp [badOn])])
       simp only [Nat.zero_mul,Nat.add_zero,Nat.zero_add] at g0 g1
       obtain rfl:la = -1:=Hl0.out rfl
       have hle:decide (10 * (y:Int)+x1 <= -1)=false:=qdf (by omega)
       go_wp2
       go_quiet (fail)
       go_wp2
       go_roundg (gk - 1)
       case measure=>have:=Hj.out;omega
       case rel=>exact ⟨(0+1),10 * (y:Int)+x1,qh (by have:=Hj.out;omega),by go_num,rfl,by omega,by omega,qh (fun h=>by omega),qh (fun q h=>by rw [HP.out] at h;cases Option.some.inj h;exact ⟨rfl,hx0,hx9⟩),HE,qh (X3.out.drewN _)⟩
      obtain ⟨⟨q0,q1⟩,hq⟩:∃ q,v.on[i]? = some q:=⟨_,qge (by have:=Hon.out;omega)⟩
      have Hpr:Hid (prevOf v.on (i+1)=some (q0,q1)):=qh (prevOf_succ hq)
      obtain ⟨hl1,hl2,hl3⟩:=Hla.out _ Hpr.out
      dsimp only at hl1 hl2 hl3
      have hbo:=badOn_num (q0:=q0) (q1:=q1) (y:=(y:Int)) (x1:=x1) hl2 hl3 hx0 hx9
      rw [<- hl1] at hbo
      have HSt3:Hid (ckOn ps none v.on=if decide (10 * (y:Int)+x1<=la)=true then 6 else ckOn ps (prevOf v.on (i+1+1)) (v.on.drop (i+1+1))):=qh (by rw [HSt2.out,Hpr.out,hbo])
      clear HSt2 hq hbo hl1 hl2 hl3 Hpr Hla Hl0
      by_cases hle0:10 * (y:Int)+x1<=la
      ·have hle:decide (10 * (y:Int)+x1<=la)=true:=qdt hle0
       have HE:Hid (ckOn ps none v.on=6):=qh (by rw [HSt3.out,if_pos hle])
       go_wp2
       go_quiet (fail)
       go_wp2
       go_ret
       exact ⟨ret_int (by rw [HR3.out,HE.out]),below_drewN X3.out.bel _⟩
      have hle:decide (10 * (y:Int)+x1<=la)=false:=qdf hle0
      have HE:Hid (ckOn ps none v.on=ckOn ps (prevOf v.on (i+1+1)) (v.on.drop (i+1+1))):=qh (by rw [HSt3.out,if_neg (by rw [hle];simp)])
      go_wp2
      go_quiet (fail)
      go_wp2
      go_roundg (gk - 1)
      case measure=>have:=Hj.out;omega
      case rel=>exact ⟨(i+1+1),10 * (y:Int)+x1,qh (by have:=Hj.out;omega),by go_num,rfl,by omega,by omega,qh (fun h=>by omega),qh (fun q h=>by rw [HP.out] at h;cases Option.some.inj h;exact ⟨rfl,hx0,hx9⟩),HE,qh (X3.out.drewN _)⟩
     obtain rfl:n4=j:=by have:=Hj.out;omega
     go_wp2
     go_ret
     exact ⟨ret_int (by rw [HRC.out,Hcl.out,List.drop_of_length_le (by have:=Hon.out;omega)];rfl),XT.out.bel⟩
 have z1:(z != 0)=true:=by simpa using z0
 go_enter Tryz.func66,Tryz.ntmps66
 go_wp2_with (first | (go_at_call 25;refine Hcs.out.mono ?_;rintro e w2 ⟨rfl,hb2⟩;refine Hid.out ?_))
 refine qh ?_
 have X2:=qh (X0.out.move hb2)
 clear hb2 X0 Hcs
 go_wp2
 go_ret
 exact ⟨ret_int (by rw [HR.out,if_pos z0]),X2.out.bel⟩
end
section
open Go.RowKit Qm
theorem right_any (ps:List Pk) (v:Ws) (S:Nat->Prop) (A:Option Addr) (n c:Nat) (A1 A2 A3 A4:Option Addr) (n1 c1 n2 c2 n3 c3 n4 c4:Nat) (w:World) (hT:RTree w S A n ps) (hnc:n<=c) (hc:c<=maxLen) (hV:WsAt w S A1 n1 c1 A2 n2 c2 A3 n3 c3 A4 n4 c4 v) (hS:∀ k,S k->k<w.heap.size) :
  Calls Tryz.prog 21 #[.agg #[.slice A n c],.agg #[.slice A1 n1 c1,.slice A2 n2 c2,.slice A3 n3 c3,.slice A4 n4 c4]] w fun e w'=>e=.returned (.int .i64 (ckWish ps v))/\Below w.heap.size w w':=by
 have X0:=qh (Wb.new w A n c [.slice A1 n1 c1,.slice A2 n2 c2,.slice A3 n3 c3,.slice A4 n4 c4])
 have Hlt:=qh (fun (wx:World) (hb:Below w.heap.size w wx) k hk=>ql (hS k hk) hb.size)
 have HTR:=qh (rcheckTree_any ps S A n c _ (hT.under X0.out.bel hS) hnc hc (Hlt.out _ X0.out.bel))
 have HWR:=qh (fun wx (hb:Below w.heap.size w wx) (h0:ckTree ps=0)=>rcwish_any ps v S A n c A1 A2 A3 A4 n1 c1 n2 c2 n3 c3 n4 c4 wx (hT.under hb hS) h0 hnc hc (hV.under hb hS) (Hlt.out _ hb))
 clear hT hV hS Hlt
 obtain ⟨k,hk⟩:∃ x,ckTree ps=x:=⟨_,rfl⟩
 have HK:=qh hk
 rw [hk] at HTR HWR
 obtain ⟨r,hr⟩:∃ x,ckWish ps v=x:=⟨_,rfl⟩
 have HR:=qh hr
 rw [hr] at HWR ⊢
 clear hk hr
 have t0:=X0.out.t.cell 0
 simp only [qgz] at t0
 go_enter Tryz.func21,Tryz.ntmps21
 go_upto_region 2 with (first | (go_at_call 65;refine HTR.out.mono ?_;rintro e w2 ⟨rfl,hb2⟩;refine Hid.out ?_))
 refine qh ?_
 have X2:=qh (X0.out.move hb2)
 clear t0 hb2 HTR X0
 have t0:=X2.out.t.cell 0;obtain ⟨u0,u1,u2,u3⟩:=ch4 X2.out.v.cell
 simp only [qgz,qgs] at t0 u0 u1 u2 u3
 by_cases h:k=0
 ·subst h
  have HW2:=qh (HWR.out _ X2.out.bel rfl)
  go_wp2_with (first | (go_at_call 66;refine HW2.out.mono ?_;rintro e w3 ⟨rfl,hb3⟩;refine Hid.out ?_))
  refine qh ?_
  have X3:=qh (X2.out.move hb3)
  clear t0 u0 u1 u2 u3
  go_wp2
  go_ret
  exact ⟨rfl,X3.out.bel⟩
 have hb:(k == 0)=false:=by simpa using h
 have hs:ckSet ps v.ins=k:=by unfold ckSet;rw [if_pos (by rw [HK.out];exact h),HK.out]
 obtain rfl:r=k:=by rw [<- HR.out];unfold ckWish;rw [if_pos (by rw [hs];exact h),hs]
 go_wp2
 go_ret
 exact ⟨rfl,X2.out.bel⟩
end
section
open Go.RowKit Qm
theorem rsays_any (ps:List Pk) (v:Ws) (S:Nat->Prop) (A:Option Addr) (n c:Nat) (A1 A2 A3 A4:Option Addr) (n1 c1 n2 c2 n3 c3 n4 c4:Nat) (w:World) (hT:RTree w S A n ps) (hnc:n<=c) (hc:c<=maxLen) (hV:WsAt w S A1 n1 c1 A2 n2 c2 A3 n3 c3 A4 n4 c4 v) (hS:∀ k,S k->k<w.heap.size) (hLV:LaidV w) (hMW:MaxW w) :
  Calls Tryz.prog 6 #[.agg #[.slice A n c],.agg #[.slice A1 n1 c1,.slice A2 n2 c2,.slice A3 n3 c3,.slice A4 n4 c4]] w fun e w'=>e=.returned (.bool true)/\Below w.heap.size w w':=by
 have X0:=qh (Wb.new w A n c [.slice A1 n1 c1,.slice A2 n2 c2,.slice A3 n3 c3,.slice A4 n4 c4])
 have HT:=qh hT;have HV:=qh hV;have HS:=qh hS;have HLV:=qh hLV;have HMW:=qh hMW;clear hT hV hS hLV hMW
 have Hlt:=qh (fun (wx:World) (hb:Below w.heap.size w wx) k hk=>ql (HS.out k hk) hb.size)
 have HWS:=qh (fun wx (hb:Below w.heap.size w wx)=>(HV.out.under hb HS.out).more (S':=fun k=>k<wx.heap.size) fun k hk=>Hlt.out _ hb k hk)
 have HTR:=qh (fun wx (hb:Below w.heap.size w wx)=>(HT.out.under hb HS.out).more (S':=fun k=>k<wx.heap.size) fun k hk=>Hlt.out _ hb k hk)
 have HRS:=qh (fun wx (hb:Below w.heap.size w wx)=>resolve_any ps v 40000 (fun k=>k<wx.heap.size) A n c A1 A2 A3 A4 n1 c1 n2 c2 n3 c3 n4 c4 wx (HTR.out _ hb) hnc hc (HWS.out _ hb) (fun k hk=>hk) (by decide) (by decide))
 have HUN:=qh (fun wx (hb:Below w.heap.size w wx)=>unmask_any ps v (fun k=>k<wx.heap.size) A n c A1 A2 A3 A4 n1 c1 n2 c2 n3 c3 n4 c4 wx (HTR.out _ hb) hnc hc (HWS.out _ hb) (fun k hk=>hk))
 have Hri:=qh (fun wx (hb:Below w.heap.size w wx)=>right_any ps v (fun k=>k<wx.heap.size) A n c A1 A2 A3 A4 n1 c1 n2 c2 n3 c3 n4 c4 wx (HTR.out _ hb) hnc hc (HWS.out _ hb) (fun k hk=>hk))
 have HRR:=qh (fun wx (hb:Below w.heap.size w wx) (h0:ckWish ps v=0)=>rresolved_any ps v (fun k=>k<wx.heap.size) A n c A1 A2 A3 A4 n1 c1 n2 c2 n3 c3 n4 c4 wx (HTR.out _ hb) hnc hc (HWS.out _ hb) (fun k hk=>hk) h0)
 have HRU:=qh (fun wx (hb:Below w.heap.size w wx) (h0:ckWish ps v=0)=>runmasked_any ps v (fun k=>k<wx.heap.size) A n c A1 A2 A3 A4 n1 c1 n2 c2 n3 c3 n4 c4 wx (HTR.out _ hb) hnc hc (HWS.out _ hb) (fun k hk=>hk) h0)
 have Hrd:=qh (fun wx (hb:Below w.heap.size w wx)=>resolved_any wx (HLV.out.below hb) (HMW.out.below hb))
 obtain ⟨z,hz⟩:∃ z,ckWish ps v=z:=⟨_,rfl⟩
 have HZ:=qh hz
 rw [hz] at Hri HRR HRU
 obtain ⟨re,hre⟩:∃ x,resE ps v 40000=x:=⟨_,rfl⟩
 have HRE:=qh hre
 obtain ⟨ue,hue⟩:∃ x,unmE ps v=x:=⟨_,rfl⟩
 have HUE:=qh hue
 have hr0:=HRS.out _ X0.out.bel
 unfold ResolveP at hr0
 rw [hre] at hr0
 have HR0:=qh hr0
 have t0:=X0.out.t.cell 0;obtain ⟨u0,u1,u2,u3⟩:=ch4 X0.out.v.cell
 simp only [qgz,qgs] at t0 u0 u1 u2 u3
 clear hz hre hr0 HRS
 go_enter Tryz.func6,Tryz.ntmps6
 go_upto_region 2 with (first | (go_at_call 27;refine HR0.out.mono ?_;rintro e w2 ⟨B1,m1,d1,B2,m2,d2,rfl,hr1,hm1,hd1,hr2,hm2,hd2,hb2⟩;refine Hid.out ?_))
 refine qh ?_
 have X2:=qh (X0.out.move hb2)
 have HR1:=qh (hr1.more (S':=fun k=>k<w2.heap.size) fun k hk=>hk.2)
 have HL1:=qh hr1.len
 have HL2:=qh hr2.len
 have hu2:=HUN.out _ X2.out.bel
 unfold UnmaskP at hu2
 rw [hue] at hu2
 have HU2:=qh hu2
 clear hr1 hr2 hm2 hd2 hb2 t0 u0 u1 u2 u3 X0 HR0 hu2 HUN hue
 have t0:=X2.out.t.cell 0;obtain ⟨u0,u1,u2,u3⟩:=ch4 X2.out.v.cell
 simp only [qgz,qgs] at t0 u0 u1 u2 u3
 go_upto_region 3 with (first | (go_at_call 28;refine HU2.out.mono ?_;rintro e w3 ⟨B3,m3,d3,rfl,hr3,hm3,hd3,hb3⟩;refine Hid.out ?_))
 refine qh ?_
 have X3:=qh (X2.out.move hb3)
 have HB23:=qh hb3
 have HR3:=qh (RInts.more hr3 (S':=fun k=>k<w3.heap.size) fun k hk=>hk.2)
 have HL3:=qh hr3.len
 have HI3:=qh (Hri.out _ X3.out.bel)
 clear hr3 hb3 t0 u0 u1 u2 u3 X2 HU2 Hri
 have t0:=X3.out.t.cell 0;obtain ⟨u0,u1,u2,u3⟩:=ch4 X3.out.v.cell
 simp only [qgz,qgs] at t0 u0 u1 u2 u3
 go_upto_region 4 with (first | (go_at_call 21;refine HI3.out.mono ?_;rintro e w4 ⟨rfl,hb4⟩;refine Hid.out ?_))
 refine qh ?_
 have X4:=qh (X3.out.move hb4)
 have HB34:=qh hb4
 have HO4:=qh (Hrd.out _ X4.out.bel)
 clear hb4 t0 u0 u1 u2 u3 X3 HI3
 by_cases h0:z=0
 ·subst h0
  go_upto_region 6 with (first | (go_at_call 29;refine HO4.out.mono ?_;rintro e w5 ⟨rfl,hb5⟩;refine Hid.out ?_))
  refine qh ?_
  have X5:=qh (X4.out.move hb5)
  have HB25:=qh (HB23.out.trans ((HB34.out.trans (hb5.mono HB34.out.size)).mono HB23.out.size))
  have HB35:=qh (HB34.out.trans (hb5.mono HB34.out.size))
  have hrr:=HRR.out _ X5.out.bel (by first | rfl | trivial)
  unfold RResP at hrr
  rw [HRE.out] at hrr
  obtain ⟨RL,hRL⟩:∃ x,(resM ps v 40000).length=x:=⟨_,rfl⟩
  obtain ⟨rb,hrb⟩:∃ x,decide (re=0)=x:=⟨_,rfl⟩
  rw [hRL,hrb] at hrr
  rw [hRL] at HL1
  have HRR5:=qh hrr
  have HRB:=qh hrb
  have HRL:=qh hRL
  obtain rfl:RL=m1:=HL1.out
  clear hb5 HO4 Hrd X4 hrr HRR hrb hRL
  have t0:=X5.out.t.cell 0;obtain ⟨u0,u1,u2,u3⟩:=ch4 X5.out.v.cell
  simp only [qgz,qgs] at t0 u0 u1 u2 u3
  go_upto_region 7 with (first | (go_at_call 30;refine HRR5.out.mono ?_;rintro e w6 ⟨B6,d6,rfl,hr6,hm6,hd6,hb6⟩;refine Hid.out ?_))
  refine qh ?_
  have X6:=qh (X5.out.move hb6)
  have HB26:=qh (HB25.out.trans (hb6.mono HB25.out.size))
  have HB36:=qh (HB35.out.trans (hb6.mono HB35.out.size))
  have hss:=sameSetr_any (resM ps v 40000) (resM ps v 40000) (fun k=>k<w6.heap.size) B1 B6 RL d1 RL d6 w6 ((HR1.out.under HB26.out fun k hk=>hk).more fun k hk=>ql hk HB26.out.size) (hr6.more fun k hk=>hk.2) (fun k hk=>hk) (qlt hm1 hd1) (qlt hm6 hd6)
  rw [eqL_self] at hss
  have HSS:=qh hss
  clear hss hr6 hm6 hd6 hb6 t0 u0 u1 u2 u3 HRR5 X5
  go_upto_region 7 with fail
  unfold maxLen at hd1
  go_cut [98] (fun s98 wx=>s98=.bool false/\Hid (Below w6.heap.size w6 wx))
  case first =>
   rcases res_max HZ.out with ⟨h1,_,h3⟩ | ⟨h1,_,h3,h4,_,_,_⟩
   ·have hre0:re=0:=by rw [<- HRE.out];exact h1
    have hm20:m2=0:=by rw [<- HL2.out,h3];rfl
    obtain rfl:rb=true:=by rw [<- HRB.out,hre0];rfl
    subst hre0 hm20
    clear h1 h3
    go_wp2_with (first | (go_at_call 24;refine HSS.out.mono ?_;rintro e w7 ⟨rfl,hb7⟩;refine Hid.out ?_))
    refine qh ?_
    have HB7:=qh hb7
    clear hb7
    go_wp2
    go_meet
    case rel=>exact ⟨rfl,HB7⟩
   have hre0:re=7:=by rw [<- HRE.out];exact h1
   have hRL0:RL=0:=by rw [<- HRL.out,h3];rfl
   have hm20:¬ (m2=0):=by rw [<- HL2.out];omega
   obtain rfl:rb=false:=by rw [<- HRB.out,hre0];rfl
   subst hre0 hRL0
   clear h1 h3 h4
   go_wp2
   go_meet
   case rel=>exact ⟨congrArg Value.bool (beq_eq_false_iff_ne.2 (by omega)),qh (qbr _ _)⟩
  case rest =>
   obtain ⟨rfl,HBC⟩:=hcut
   have XC:=qh (X6.out.move HBC.out)
   have HB3C:=qh (HB36.out.trans (HBC.out.mono HB36.out.size))
   have hru:=HRU.out _ XC.out.bel (by first | rfl | trivial)
   unfold RUnmP at hru
   rw [HUE.out] at hru
   obtain ⟨ub,hub⟩:∃ x,decide (ue=0)=x:=⟨_,rfl⟩
   rw [hub] at hru
   have HUB:=qh hub
   have HRUC:=qh hru
   have t0:=XC.out.t.cell 0;obtain ⟨u0,u1,u2,u3⟩:=ch4 XC.out.v.cell
   simp only [qgz,qgs] at t0 u0 u1 u2 u3
   clear hru hub HRU HSS X6
   go_wp2_with (first | (go_at_call 31;refine HRUC.out.mono ?_;rintro e w8 ⟨B7,m7,d7,rfl,hr7,hm7,hd7,hb8⟩;refine Hid.out ?_))
   refine qh ?_
   have X8:=qh (XC.out.move hb8)
   have HB38:=qh (HB3C.out.trans (hb8.mono HB3C.out.size))
   have hue:ue=0\/ue=7:=by
    rcases res_max (wish_mask HZ.out (List.nil_sublist v.ms)) with ⟨h1,_⟩ | ⟨h1,_⟩
    ·exact .inl (by rw [<- HUE.out];unfold unmE;rw [if_neg (by rw [HZ.out];decide)];exact h1)
    exact .inr (by rw [<- HUE.out];unfold unmE;rw [if_neg (by rw [HZ.out];decide)];exact h1)
   rcases hue with hue0 | hue7
   ·subst hue0
    obtain rfl:ub=true:=by rw [<- HUB.out];rfl
    have hEQ:=equal_int B3 B7 m3 m7 d3 d7 (unmL ps v) (unmL ps v) w8 (fun k=>k<w8.heap.size) ((RInts.below HR3.out HB38.out fun k hk=>hk).more fun k hk=>ql hk HB38.out.size) (RInts.more hr7 fun k hk=>hk.2) (qlt hm3 hd3) (qlt hm7 hd7)
    rw [beq_self_eq_true] at hEQ
    have HEQ:=qh hEQ
    clear hEQ hr7 hm7 hd7 hb8 t0 u0 u1 u2 u3
    go_wp2_with (first | (go_at_call 32;refine HEQ.out.mono ?_;rintro e w16 ⟨rfl,nq,rfl⟩;refine Hid.out ?_))
    refine qh ?_
    have B16:=qh (below_drewN X8.out.bel nq)
    go_wp2
    go_ret
    exact ⟨rfl,B16.out⟩
   subst hue7
   obtain rfl:ub=false:=by rw [<- HUB.out];rfl
   have hm30:m3=0:=by rw [<- HL3.out];unfold unmL;rw [if_neg (by rw [HUE.out];decide)];rfl
   subst hm30
   clear hr7 hm7 hd7 hb8 t0 u0 u1 u2 u3
   go_wp2
   go_ret
   exact ⟨rfl,X8.out.bel⟩
 have hzb:(z == 0)=false:=by simpa using h0
 have hre0:re=z:=by rw [<- HRE.out];unfold resE;rw [if_pos (by rw [HZ.out];exact h0),HZ.out]
 have hue0:ue=z:=by rw [<- HUE.out];unfold unmE;rw [if_pos (by rw [HZ.out];exact h0),HZ.out]
 have hm10:m1=0:=by rw [<- HL1.out];unfold resM;rw [if_neg (by rw [HRE.out,hre0];exact h0)];rfl
 have hm20:m2=0:=by rw [<- HL2.out];unfold resP;rw [if_pos (.inl (by rw [HZ.out];exact h0))];rfl
 have hm30:m3=0:=by rw [<- HL3.out];unfold unmL;rw [if_neg (by rw [HUE.out,hue0];exact h0)];rfl
 subst hre0 hue0 hm10 hm20 hm30
 go_upto_region 5 with (first | (go_at_call 29;refine HO4.out.mono ?_;rintro e w5 ⟨rfl,hb5⟩;refine Hid.out ?_))
 refine qh ?_
 have X5:=qh (X4.out.move hb5)
 have HO5:=qh (Hrd.out _ X5.out.bel)
 clear hb5 HO4 X4
 go_upto_region 5 with fail
 go_wp2_with (first | (go_at_call 29;refine HO5.out.mono ?_;rintro e w6 ⟨rfl,hb6⟩;have X6:=qh (X5.out.move hb6);refine Hid.out ?_))
 refine qh ?_
 go_wp2
 go_ret
 exact ⟨rfl,X6.out.bel⟩
end
section
open Go.ChangeShapes Go.WideShapes Go.ChangeAt Go.RowKit Go.Joins Go.Deep
theorem spot_add {w:World} {a:Addr} {n:Nat} {f:Nat->Value} (hn:0<n) (h:∀ i,i<n->w.cell? (a.add i)=some (f i)):∃ b o,a=⟨b,o,none⟩/\b<w.heap.size/\∀ j,j<n->w.cell? ⟨b,o+j,none⟩=some (f j):=by
 obtain ⟨b,o,spot⟩:=a
 have h0:=h 0 hn
 have hs:spot=none:=by simpa [Addr.add] using World.cell?_spot h0
 subst hs
 have ha:∀ j,(⟨b,o,none⟩:Addr).add j=⟨b,o+j,none⟩:=by
  intro j;unfold Addr.add;by_cases hj:j=0 <;> simp [hj]
 refine ⟨b,o,rfl, ?_,fun j hj=>by rw [<- ha];exact h j hj⟩
 have:=World.block_lt_of_cell? w _ h0
 rw [ha] at this;exact this
theorem row_of_cells {w:World} {a:Addr} {n:Nat} {vs:List Value} (hl:vs.length=n) (h:∀ i (_:i<n),w.cell? (a.add i)=vs[i]?):Row w (fun k=>k<w.heap.size) (some a) n vs:=by
 refine ⟨hl,fun hn=>?_⟩
 obtain ⟨b,o,rfl,hb,hc⟩:=spot_add (f:=fun i=>(vs[i]?).getD undef) hn (fun i hi=>by rw [h i hi,qge (by omega)];rfl)
 exact ⟨b,o,rfl,hb,fun j hj=>by rw [hc j hj,qge (by omega)];rfl⟩
section
variable {H : Type} {enc : TypeId × Value → H} {P : Program} {w : World} {base : Nat} {held : Bool}
end
end
section
open Go.ChangeShapes Go.WideShapes Go.ChangeAt Go.RowKit Qm
section
variable {H : Type} {enc : TypeId × Value → H} {w : World} {base : Nat} {sp : Nat → Bool} {held : Bool}
theorem field_cell {P:Program} {t:TypeId} {fs:Array Field} {fuel:Nat} {cs:List Value} {x:DataW H×List MemPlace} (ht:P.underlying t=some (.struct fs)) (h:DataW.trod enc P w base sp held fuel t cs=some x)
  (i:Nat) {f:Field} (hf:fs[i]? = some f) (hc:P.cellsOf f.type=1) (hlt:f.offset<P.cellsOf t):∃ c n y,cs[f.offset]? = some c/\DataW.trod enc P w base sp held n f.type [c]=some y:=by
 obtain ⟨xs,n,_,_,hl,hxl,hx⟩:=DataW.trod_struct ht h
 have h1:=hx i f hf
 have hlt':f.offset<cs.length:=by omega
 have hi:i<fs.size:=(Array.getElem?_eq_some_iff.1 hf).1
 rw [hc,List.drop_eq_getElem_cons hlt'] at h1
 refine ⟨cs[f.offset],n,xs[i]'(by omega),qge hlt', ?_⟩
 rw [qge (by omega)] at h1
 have e:(cs[f.offset] :: List.drop (f.offset+1) cs).take 1=[cs[f.offset]]:=rfl
 rw [e] at h1
 exact h1
def In64 (x:Int):Prop:=-9223372036854775808<=x/\x<=9223372036854775807
theorem i64_le {x:Int} (h:(Lit.int .i64 x).wf=true):In64 x:=by
 unfold In64
 simp [Lit.wf,IntKind.min,IntKind.max,IntKind.bits,IntKind.signed] at h;omega
theorem six_of {α:Type} {cs:List α} {a b c d e f:α} (hl:cs.length=6) (h0:cs[0]? = some a) (h1:cs[1]? = some b) (h2:cs[2]? = some c) (h3:cs[3]? = some d) (h4:cs[4]? = some e) (h5:cs[5]? = some f):cs=[a,b,c,d,e,f]:=by
 match cs,hl with
 | [_,_,_,_,_,_],_=>simp at h0 h1 h2 h3 h4 h5;simp [h0,h1,h2,h3,h4,h5]
theorem str_one {P:Program} {t:TypeId} {n:Nat} {c:Value} {y:DataW H×List MemPlace} (ht:P.underlying t=some .string) (h:DataW.trod enc P w base sp held n t [c]=some y):∃ s:ByteArray,c=.string s/\s.size<=maxLen:=by
 obtain ⟨s,e,_,hs⟩:=DataW.trod_string ht h
 simp at e
 exact ⟨s,e,hs⟩
theorem int_oneA {P:Program} {t:TypeId} {n:Nat} {c:Value} {y:DataW H×List MemPlace} (ht:P.underlying t=some (.int .i64)) (h:DataW.trod enc P w base sp held n t [c]=some y):∃ x:Int,c=.int .i64 x/\In64 x:=by
 obtain ⟨x,e,_,hs⟩:=DataW.trod_int ht h
 simp at e
 exact ⟨x,e,i64_le hs⟩
theorem bool_one_ {P:Program} {t:TypeId} {n:Nat} {c:Value} {y:DataW H×List MemPlace} (ht:P.underlying t=some .bool) (h:DataW.trod enc P w base sp held n t [c]=some y):∃ x:Bool,c=.bool x:=by
 obtain ⟨x,e,_⟩:=DataW.trod_bool ht h
 simp at e
 exact ⟨x,e⟩
theorem atom_cells {fuel:Nat} {cs:List Value} {x:DataW H×List MemPlace} (h:DataW.trod enc Tryz.prog w base sp held fuel 75 cs=some x) :
  ∃ (s f:ByteArray) (op ver slot:Int) (on:Bool),cs=[.string s,.int .i64 op,.int .i64 ver,.int .i64 slot,.string f,.bool on]/\s.size<=maxLen/\f.size<=maxLen/\In64 op /\
   In64 ver/\In64 slot:=by
 have hT:=Tryz.underlying75
 have hl:cs.length=6:=by
  obtain ⟨_,_,_,_,hl,_⟩:=DataW.trod_struct hT h
  rw [hl];kernel_rfl
 obtain ⟨c0,n0,y0,e0,k0⟩:=field_cell hT h 0 rfl (by kernel_rfl) (of_decide_eq_true (by kernel_rfl))
 obtain ⟨c1,n1,y1,e1,k1⟩:=field_cell hT h 1 rfl (by kernel_rfl) (of_decide_eq_true (by kernel_rfl))
 obtain ⟨c2,n2,y2,e2,k2⟩:=field_cell hT h 2 rfl (by kernel_rfl) (of_decide_eq_true (by kernel_rfl))
 obtain ⟨c3,n3,y3,e3,k3⟩:=field_cell hT h 3 rfl (by kernel_rfl) (of_decide_eq_true (by kernel_rfl))
 obtain ⟨c4,n4,y4,e4,k4⟩:=field_cell hT h 4 rfl (by kernel_rfl) (of_decide_eq_true (by kernel_rfl))
 obtain ⟨c5,n5,y5,e5,k5⟩:=field_cell hT h 5 rfl (by kernel_rfl) (of_decide_eq_true (by kernel_rfl))
 obtain ⟨s,rfl,hs⟩:=str_one Tryz.underlying9 k0
 obtain ⟨op,rfl,ho⟩:=int_oneA Tryz.underlying3 k1
 obtain ⟨ver,rfl,hv⟩:=int_oneA Tryz.underlying3 k2
 obtain ⟨slot,rfl,hsl⟩:=int_oneA Tryz.underlying3 k3
 obtain ⟨f,rfl,hf⟩:=str_one Tryz.underlying9 k4
 obtain ⟨on,rfl⟩:=bool_one_ Tryz.underlying4 k5
 exact ⟨s,f,op,ver,slot,on,six_of hl e0 e1 e2 e3 e4 e5,hs,hf,ho,hv,hsl⟩
end
theorem laid_at {P:Program} {w:World}:∀ {l:List (String×DataW Unit)} {k:Nat} {x:String×DataW Unit},laidMet P l w->l[k]? = some x->∃ r,laidMet P (x :: r) w
 | [],_,_,_,h=>by simp at h
 | y :: r,0,x,h,hk=>by
  simp only [qgz,Option.some.injEq] at hk
  subst hk
  exact ⟨r,h⟩
 | y :: r,k+1,x,h,hk=>laid_at h.tail (by simpa using hk)
theorem gPow : Tryz.prog.globalNamed "internal/strconv.uint64pow10" = some 1 := by kernel_rfl
theorem gRng : Tryz.prog.globalNamed "strconv.ErrRange" = some 3 := by kernel_rfl
theorem gSyn : Tryz.prog.globalNamed "strconv.ErrSyntax" = some 2 := by kernel_rfl
theorem tPow:(Tryz.prog.globals[1]?).map (·.type)=some 240:=by kernel_rfl
theorem tRng:(Tryz.prog.globals[3]?).map (·.type)=some 176:=by kernel_rfl
theorem tSyn:(Tryz.prog.globals[2]?).map (·.type)=some 176:=by kernel_rfl
theorem rowErr : ∀ u, Tryz.prog.typeName? 3 u = some "*errors.errorString" → u = 263 := fun _ h => typeName_ptr_named (nm := "errors.errorString") (by kernel_rfl) (by kernel_rfl) (by decide) _ h
theorem laidV_of {w : World} {l : List (String × DataW Unit)} (h : laidMet Tryz.prog l w) {i j k : Nat} (hi : l[i]? = some ("internal/strconv.uint64pow10", Rows.laid_internal_strconv_uint64pow10)) (hj : l[j]? = some ("strconv.ErrRange", Rows.laid_strconv_ErrRange)) (hk : l[k]? = some ("strconv.ErrSyntax", Rows.laid_strconv_ErrSyntax)) : LaidV w := by
 obtain ⟨_,h1⟩:=laid_at h hi
 obtain ⟨_,h2⟩:=laid_at h hj
 obtain ⟨_,h3⟩:=laid_at h hk
 obtain ⟨a2,s2,e2,_⟩:=laid_sentinel h2 gRng tRng Tryz.underlying176 rowErr Tryz.underlying263 Tryz.underlying265 rfl rfl Tryz.underlying9 (by kernel_rfl) (by kernel_rfl)
 obtain ⟨a3,s3,e3,_⟩:=laid_sentinel h3 gSyn tSyn Tryz.underlying176 rowErr Tryz.underlying263 Tryz.underlying265 rfl rfl Tryz.underlying9 (by kernel_rfl) (by kernel_rfl)
 exact ⟨⟨_,_,e3⟩,⟨_,_,e2⟩,Lib.tabIs_of_head gPow tPow Tryz.underlying240 Tryz.underlying213 (by kernel_rfl) (by kernel_rfl) h1⟩
end
section
open Go.ChangeShapes Go.WideShapes Go.ChangeAt Go.RowKit Qm
theorem flatK {K:Nat} {cs:List (List Value)} (h:∀ x∈cs,x.length=K):∀ {j:Nat} {x:List Value},cs[j]? = some x->∀ i,i<K->cs.flatten[j * K+i]? = x[i]?:=by
 induction cs with
 | nil=>intro j x hj;simp at hj
 | cons c r ih =>
  intro j x hj i hi
  have hc:=h c (List.mem_cons_self ..)
  rw [List.flatten_cons]
  cases j with
  | zero =>
   simp only [qgz,Option.some.injEq] at hj
   subst hj
   rw [List.getElem?_append_left (by omega)];congr 1;omega
  | succ j =>
   rw [qgs] at hj
   have he:(j+1) * K=j * K+K:=Nat.succ_mul j K
   rw [List.getElem?_append_right (by omega)]
   rw [<- ih (fun y hy=>h y (List.mem_cons_of_mem _ hy)) hj i hi]
   congr 1;omega
theorem flatK_len {K:Nat} {cs:List (List Value)} (h:∀ x∈cs,x.length=K):cs.flatten.length=cs.length * K:=by
 induction cs with
 | nil=>simp
 | cons c r ih =>
  have hc:=h c (List.mem_cons_self ..)
  have:=ih fun y hy=>h y (List.mem_cons_of_mem _ hy)
  simp only [List.flatten_cons,List.length_append,List.length_cons,Nat.succ_mul]
  omega
section
variable {H : Type} {enc : TypeId × Value → H} {P : Program} {w : World} {base : Nat} {sp : Nat → Bool} {held : Bool}
theorem slice_items {t e:TypeId} {K fuel:Nat} {v:Value} {x:DataW H×List MemPlace} (ht:P.underlying t=some (.slice e)) (hK:P.cellsOf e=K) (hK0:0<K) (h:DataW.trod enc P w base sp held fuel t [v]=some x) :
  ∃ (A:Option Addr) (n c:Nat) (cs:List (List Value)),v=.slice A n c/\n<=c/\c<=maxLen/\cs.length=n/\Row w (fun k=>k<w.heap.size) A (n * K) cs.flatten /\
   ∀ x∈cs,x.length=K/\∃ m y,m<fuel/\DataW.trod enc P w base sp held m e x=some y:=by
 rcases DataW.trod_slice ht h with ⟨hcs,_⟩ | ⟨a,len,cap,elems,rest,n,hfuel,hcs,_,hb,hl,hm,hlen,hel,_,_⟩
 ·simp at hcs
  exact ⟨none,0,0,[],hcs,qr _,Nat.zero_le _,rfl,by simpa using Row.nil_,fun x hx=>by cases hx⟩
 simp at hcs
 subst hcs hK
 have key:∀ i,i<len->∃ cs',w.cells? base (a.add (i * P.cellsOf e)) (P.cellsOf e)=some cs'/\∃ y,DataW.trod enc P w base sp held n e cs'=some y:=fun i hi=>by
  have h1:=hel i hi
  rw [qge (by omega)] at h1
  obtain ⟨cs',h2,h3⟩:=Option.bind_eq_some_iff.1 h1
  exact ⟨cs',h2,_,h3⟩
 have hget:∀ j,j<len->((List.range len).map fun i=>(w.cells? base (a.add (i * P.cellsOf e)) (P.cellsOf e)).getD [])[j]? = some ((w.cells? base (a.add (j * P.cellsOf e)) (P.cellsOf e)).getD []):=fun j hj=>by
  rw [qgm,List.getElem?_range hj];rfl
 have hmem:∀ x∈(List.range len).map fun i=>(w.cells? base (a.add (i * P.cellsOf e)) (P.cellsOf e)).getD [],x.length=P.cellsOf e/\∃ m y,m<fuel/\DataW.trod enc P w base sp held m e x=some y:=by
  intro x hx
  obtain ⟨i,hi,rfl⟩:=List.mem_map.1 hx
  rw [List.mem_range] at hi
  obtain ⟨cs',h1,y,h2⟩:=key i hi
  rw [h1]
  exact ⟨(World.cells?_some h1).2.1,n,y,by omega,h2⟩
 refine ⟨some a,len,cap,(List.range len).map fun i=>(w.cells? base (a.add (i * P.cellsOf e)) (P.cellsOf e)).getD [],rfl,hl,hm,by simp, ?_,hmem⟩
 refine row_of_cells (by rw [flatK_len fun x hx=>(hmem x hx).1];simp) fun p hp=>?_
 obtain ⟨i,r,hr,rfl⟩:∃ i r,r<P.cellsOf e/\p=i * P.cellsOf e+r:=⟨p / P.cellsOf e,p % P.cellsOf e,Nat.mod_lt _ hK0,by rw [Nat.mul_comm];exact (Nat.div_add_mod p _).symm⟩
 have hi:i<len:=by
  apply Classical.byContradiction
  intro hni
  have:len * P.cellsOf e<=i * P.cellsOf e:=Nat.mul_le_mul_right _ (by omega)
  omega
 rw [flatK (fun x hx=>(hmem x hx).1) (hget i hi) r hr]
 obtain ⟨cs',h1,_⟩:=key i hi
 rw [h1,<- Go.Deep.add_add]
 exact (World.cells?_some h1).2.2 r hr
end
section
variable {H : Type} {enc : TypeId × Value → H} {w : World} {base : Nat} {sp : Nat → Bool} {held : Bool}
theorem bs_list (s:ByteArray):s=⟨s.data.toList.toArray⟩:=by obtain ⟨⟨l⟩⟩:=s;rfl
theorem need_cells:∀ (fuel:Nat) (cs:List Value) (x:DataW H×List MemPlace),DataW.trod enc Tryz.prog w base sp held fuel 99 cs=some x ->
  ∃ y,RNd w (fun k=>k<w.heap.size) cs y:=by
 intro fuel
 induction fuel using Nat.strongRecOn with
 | _ fuel ih =>
  intro cs x h
  have hT:=Tryz.underlying99
  obtain ⟨xs,n,hfu,_,hlen,hxl,hx⟩:=DataW.trod_struct hT h
  have hl:cs.length=10:=by rw [hlen];kernel_rfl
  obtain ⟨c0,n0,y0,e0,k0⟩:=field_cell hT h 0 rfl (by kernel_rfl) (of_decide_eq_true (by kernel_rfl))
  obtain ⟨c7,n7,y7,e7,k7⟩:=field_cell hT h 2 rfl (by kernel_rfl) (of_decide_eq_true (by kernel_rfl))
  obtain ⟨c8,n8,y8,e8,k8⟩:=field_cell hT h 3 rfl (by kernel_rfl) (of_decide_eq_true (by kernel_rfl))
  have h1:=hx 1 _ rfl
  have h4:=hx 4 _ rfl
  have hxs:xs.length=5:=hxl
  rw [qge (by omega)] at h1 h4
  obtain ⟨k,rfl,_⟩:=int_oneA Tryz.underlying3 k0
  obtain ⟨f,rfl,hf⟩:=str_one Tryz.underlying9 k7
  obtain ⟨no,rfl⟩:=bool_one_ Tryz.underlying4 k8
  obtain ⟨s,g,op,ver,slot,on,ea,hs,hg,_,_,_⟩:=atom_cells h1
  match cs,hl with
  | [d0,d1,d2,d3,d4,d5,d6,d7,d8,d9],_ =>
   have h4':DataW.trod enc Tryz.prog w base sp held n 97 [d9]=some xs[4]:=h4
   obtain ⟨A,m,c,rows,rfl,hnc,hc,hrl,hrow,hit⟩:=slice_items Tryz.underlying97 (K:=10) (by kernel_rfl) (by decide) h4'
   have e0':d0=.int .i64 k:=by simpa using e0
   have e7':d7=.string f:=by simpa using e7
   have e8':d8=.bool no:=by simpa using e8
   have ea':[d1,d2,d3,d4,d5,d6]=[.string s,.int .i64 op,.int .i64 ver,.int .i64 slot,.string g,.bool on]:=ea
   simp only [List.cons.injEq,and_true] at ea'
   obtain ⟨rfl,rfl,rfl,rfl,rfl,rfl⟩:=ea'
   subst e0' e7' e8'
   have hkid:∀ x∈rows,∃ y,RNd w (fun k=>k<w.heap.size) x y:=fun x hx=>by
    obtain ⟨_,m,y,hm,hy⟩:=hit x hx
    exact ih m (by omega) x y hy
   obtain ⟨ks,hkl,hks⟩:∃ ks:List Nd,ks.length=rows.length/\∀ (j:Nat) (x:List Value) (y:Nd),rows[j]? = some x->ks[j]? = some y->RNd w (fun k=>k<w.heap.size) x y:=by
    clear hrow hit hrl
    induction rows with
    | nil=>exact ⟨[],rfl,fun j x y h=>by simp at h⟩
    | cons r rs ihr =>
     obtain ⟨y,hy⟩:=hkid r (List.mem_cons_self ..)
     obtain ⟨ks,h1,h2⟩:=ihr fun x hx=>hkid x (List.mem_cons_of_mem _ hx)
     refine ⟨y :: ks,by simp [h1],fun j x' y' h3 h4=>?_⟩
     cases j with
     | zero =>
      simp only [qgz,Option.some.injEq] at h3 h4
      subst h3 h4;exact hy
     | succ j=>rw [qgs] at h3 h4;exact h2 j x' y' h3 h4
   refine ⟨.mk k ⟨s.data.toList,op,ver,slot,g.data.toList,on⟩ f.data.toList no ks, ?_⟩
   have hr:=RNd.shut (w:=w) (S:=fun k=>k<w.heap.size) (k:=k) (a:=⟨s.data.toList,op,ver,slot,g.data.toList,on⟩) (f:=f.data.toList) (no:=no) (ks:=ks) hnc hc (by rw [<- Lib.size_eq];exact hs) (by rw [<- Lib.size_eq];exact hg) (by rw [<- Lib.size_eq];exact hf) ⟨rows,by omega,hrl,hrow,hks⟩
   unfold ndRow at hr
   simp only [] at hr
   rw [<- bs_list,<- bs_list,<- bs_list] at hr
   exact hr
end
end
end Go.Proofs.YtedbhlgjcnnknaaGreatDoor
