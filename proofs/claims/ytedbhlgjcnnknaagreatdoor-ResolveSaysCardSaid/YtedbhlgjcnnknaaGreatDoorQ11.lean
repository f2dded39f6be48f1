/- Parts. -/
import Derived.Test.YtedbhlgjcnnknaaGreatDoorQ10
set_option linter.unusedVariables false
set_option linter.unusedSimpArgs false
set_option linter.unusedSectionVars false
set_option maxRecDepth 100000
set_option maxHeartbeats 12800000
namespace Go.Proofs.YtedbhlgjcnnknaaGreatDoor
section
open Go.RowKit Qm
def Cut1 (w:World) (r:At×Int) (s6:Value) (wx:World):Prop:=∃ R f on,s6=.string R/\R.size<=20000/\f.size<=20000/\r=parseSlot R.data.toList f.data.toList on/\PS w 0 0 0 f on wx
def Cut2 (w:World) (r:At×Int) (s6:Value) (wx:World):Prop:=∃ R f on sl,s6=.string R/\R.size<=20000/\f.size<=20000/\r=parseOp R.data.toList f.data.toList on sl/\PS w 0 0 sl f on wx
def Cut3 (w:World) (r:At×Int) (s6:Value) (wx:World):Prop:=∃ R f on sl op ver,s6=.string R/\R.size<=20000/\f.size<=20000/\r=fin ⟨R.data.toList,op,ver,sl,f.data.toList,on⟩/\PS w op ver sl f on wx
theorem parse_any (s:ByteArray) (w:World) (hs:s.size<=maxLen) (hL:LaidV w) :
  Calls Tryz.prog 150 #[.string s] w fun e w'=>e=AtEnd (parseAt s.data.toList)/\Below w.heap.size w w':=by
 unfold maxLen at hs
 have HLV:=qh hL;clear hL
 have HSZ:=qh (Lib.size_eq s)
 obtain ⟨r,hr⟩:∃ r,r=parseAt s.data.toList:=⟨_,rfl⟩
 rw [<- hr]
 have HR:=qh hr;clear hr
 have P0:=qh (PS.new w)
 by_cases hbig:20000<s.size
 ·have h1:decide ((20000:Int)<(s.size:Int))=true:=by simp;omega
  go_enter Tryz.func150,Tryz.ntmps150
  go_wp2
  refine bodyPost_ret (v:=.tuple #[.agg #[_,_,_,_,_,_],.int .i64 _]) (by simp [results,Tryz.results150,go_sem];exact ⟨⟨rfl,rfl,rfl,rfl,rfl,rfl⟩,rfl⟩) rfl ?_
  refine ⟨?_,(qbr _ _).alloc (qr _) _⟩
  rw [HR.out]
  unfold parseAt
  rw [if_pos (by have:=HSZ.out;omega)]
  rfl
 have h1:decide ((20000:Int)<(s.size:Int))=false:=by simp;omega
 have hany:=fun wx=>indexAny_any s ⟨#[43,45]⟩ wx (by omega) (by decide) (by decide) (by decide)
 rw [show ((⟨#[43,45]⟩:ByteArray).data.toList)=[43,45] from rfl,cut_sign] at hany
 have hfew:r=parseFew s.data.toList:=by
  rw [HR.out];unfold parseAt;rw [if_neg (by have:=HSZ.out;omega)]
 unfold parseFew at hfew
 go_enter Tryz.func150,Tryz.ntmps150
 have HF:=qh hfew;clear hfew
 go_upto_if 28 with (first | (go_at_call 179;refine (hany _).mono ?_;rintro e w1 ⟨rfl,hb1⟩;refine Hid.out ?_))
 refine qh ?_
 have P1:=qh (P0.out.below hb1)
 clear P0 hb1 hany HR
 obtain ⟨c,hc⟩:∃ c,c=cutAt signB s.data.toList:=⟨_,rfl⟩
 rw [<- hc] at HF ⊢
 have HC:=qh hc;clear hc
 obtain ⟨z0,z1,z2,z3,z4,z5⟩:=ch6 P1.out.z.cell
 obtain ⟨y0,y1,y2,y3,y4,y5⟩:=ch6 P1.out.z.free
 obtain ⟨a0,a1,a2,a3,a4,a5⟩:=ch6 P1.out.a.cell
 obtain ⟨b0,b1,b2,b3,b4,b5⟩:=ch6 P1.out.a.free
 simp only [qgz,qgs] at z0 z1 z2 z3 z4 z5 a0 a1 a2 a3 a4 a5
 go_upto_if 28 with fail
 go_cut [6] (Cut1 w r)
 case first =>
  rcases c with _ | ⟨a,c,d⟩
  ·simp only [cutLen]
   go_wp2
   go_meet
   case rel=>exact ⟨s,⟨#[]⟩,false,rfl,by omega,by decide,HF.out,P1.out⟩
  have hl:=of_cutAt_some HC.out.symm
  have HLs:=qh hl;clear hl
  have hlen:a.length+1+d.length=s.size:=by
   rw [HSZ.out,HLs.out.1];simp;omega
  have hk1:(0:Int)<=(a.length:Int):=by omega
  have hk2:(a.length:Int)<(s.size:Int):=by omega
  have hw1:IntKind.i64.wrap ((a.length:Int)+1)=(a.length:Int)+1:=IntWalk.i64_in _ (by omega)
  have hw2:(0:Int)<=(a.length:Int)+1:=by omega
  have hw3:((a.length:Int)+1).toNat=a.length+1:=by omega
  have hlt:a.length<s.size:=by omega
  have hget:=bs_get s HLs.out.1 hlt
  simp only [cutLen]
  go_wp2
  go_region
  have HF1:=qh (bs_drop s HLs.out.1)
  have HR1:=qh (bs_take s HLs.out.1)
  have P2:=qh (((P1.out.on_ ((c.toNat:Int) == 43)).flag (s.extract (a.length+1) s.size)).drew)
  have hz1:(s.extract 0 a.length).size=a.length:=by rw [Lib.size_eq,HR1.out]
  have hz2:(s.extract (a.length+1) s.size).size=d.length:=by rw [Lib.size_eq,HF1.out]
  have HZ1:=qh hz1;have HZ2:=qh hz2
  clear hz1 hz2 hget hlt hw1 hw2 hw3 hk1 hk2 P1 a0 a1 a2 a3 a4 a5 b0 b1 b2 b3 b4 b5 z0 z1 z2 z3 z4 z5 y0 y1 y2 y3 y4 y5
  generalize World.drew _=wz at P2 ⊢
  generalize s.extract (a.length+1) s.size=F at P2 HF1 HZ2 ⊢
  generalize s.extract 0 a.length=R at HR1 HZ1 ⊢
  obtain ⟨z0,z1,z2,z3,z4,z5⟩:=ch6 P2.out.z.cell
  obtain ⟨y0,y1,y2,y3,y4,y5⟩:=ch6 P2.out.z.free
  obtain ⟨a0,a1,a2,a3,a4,a5⟩:=ch6 P2.out.a.cell
  obtain ⟨b0,b1,b2,b3,b4,b5⟩:=ch6 P2.out.a.free
  simp only [qgz,qgs] at z0 z1 z2 z3 z4 z5 a0 a1 a2 a3 a4 a5
  have HOn:Hid (((c.toNat:Int) == 43)=(c == 43)):=qh (by rw [beq_d,Bool.eq_iff_iff];simp;exact ⟨fun h=>UInt8.toNat_inj.1 (by show c.toNat=43;omega),fun h=>by subst h;rfl⟩)
  generalize ((c.toNat:Int) == 43)=on at *
  by_cases h0:d=[]
  ·obtain ⟨e1,e2⟩:=empty_spell (f:=F) (by rw [HF1.out];exact h0)
   have H0:=qh h0;clear h0
   go_wp2_with (first | (go_at_call 178;refine (fail_any _).mono ?_;rintro e w5 ⟨rfl,hb5⟩;refine Hid.out ?_))
   refine qh ?_
   have P5:=qh (P2.out.below hb5)
   clear hb5
   obtain ⟨z0,z1,z2,z3,z4,z5⟩:=ch6 P5.out.z.cell
   obtain ⟨y0,y1,y2,y3,y4,y5⟩:=ch6 P5.out.z.free
   obtain ⟨a0,a1,a2,a3,a4,a5⟩:=ch6 P5.out.a.cell
   obtain ⟨b0,b1,b2,b3,b4,b5⟩:=ch6 P5.out.a.free
   simp only [qgz,qgs] at z0 z1 z2 z3 z4 z5 a0 a1 a2 a3 a4 a5
   go_wp2
   have hW:=(((((P5.out.z.set_ 0 (.string ⟨#[]⟩)).set_ 1 (.int .i64 0)).set_ 2 (.int .i64 0)).set_ 3 (.int .i64 0)).set_ 4 (.string ⟨#[]⟩)).set_ 5 (.bool false)
   have hbz:=(((((P5.out.b.setCell (p:=⟨w.heap.size,0,none⟩) (qr _) (.string ⟨#[]⟩)).setCell (p:=⟨w.heap.size,1,none⟩) (qr _) (.int .i64 0)).setCell (p:=⟨w.heap.size,2,none⟩) (qr _) (.int .i64 0)).setCell (p:=⟨w.heap.size,3,none⟩) (qr _) (.int .i64 0)).setCell (p:=⟨w.heap.size,4,none⟩) (qr _) (.string ⟨#[]⟩)).setCell (p:=⟨w.heap.size,5,none⟩) (qr _) (.bool false)
   simp only [List.set_cons_succ,List.set_cons_zero] at hW
   generalize hwz:(World.setCell (World.setCell _ _ _) _ _)=wz at hW hbz ⊢
   obtain ⟨e0,e1,e2,e3,e4,e5⟩:=ch6 hW.cell
   simp only [qgz,qgs] at e0 e1 e2 e3 e4 e5
   refine bodyPost_ret (v:=.tuple #[.agg #[_,_,_,_,_,_],.int .i64 _]) (by simp [results,Tryz.results150,go_sem,e0,e1,e2,e3,e4,e5];exact ⟨⟨rfl,rfl,rfl,rfl,rfl,rfl⟩,rfl⟩) rfl ?_
   refine ⟨?_,hbz⟩
   rw [HF.out];show _=AtEnd (if d=[] then badAt else _);rw [if_pos H0.out];rfl
  obtain ⟨e1,e2⟩:=full_spell (f:=F) (by rw [HF1.out];exact h0)
  have H0:=qh h0;clear h0
  go_wp2
  go_meet
  case rel=>exact ⟨R,F,on,rfl,by have:=HZ1.out;omega,by have:=HZ2.out;omega,by rw [HF.out,HF1.out,HR1.out,HOn.out];show (if d=[] then badAt else _)=_;rw [if_neg H0.out],P2.out⟩
 case rest =>
  obtain ⟨R,F,on,rfl,hR,hF,hr,P2⟩:=hcut
  replace P2:=qh P2
  have HF2:=qh hr
  clear HF HC
  generalize cutLen c=z7
  clear hr P1 a0 a1 a2 a3 a4 a5 b0 b1 b2 b3 b4 b5 z0 z1 z2 z3 z4 z5 y0 y1 y2 y3 y4 y5
  unfold parseSlot at HF2
  have HSR:=qh (Lib.size_eq R)
  obtain ⟨c,hc⟩:∃ c,c=cutAt (· == 58) R.data.toList:=⟨_,rfl⟩
  have hib:=fun wx=>Tryz.strings_IndexByte R 58 wx
  rw [show ((58:Int).toNat.toUInt8)=58 from rfl,cut_colon,<- hc] at hib
  rw [<- hc] at HF2
  have HC:=qh hc;clear hc
  obtain ⟨z0,z1,z2,z3,z4,z5⟩:=ch6 P2.out.z.cell
  obtain ⟨y0,y1,y2,y3,y4,y5⟩:=ch6 P2.out.z.free
  obtain ⟨a0,a1,a2,a3,a4,a5⟩:=ch6 P2.out.a.cell
  obtain ⟨b0,b1,b2,b3,b4,b5⟩:=ch6 P2.out.a.free
  simp only [qgz,qgs] at z0 z1 z2 z3 z4 z5 a0 a1 a2 a3 a4 a5
  go_upto_if 52 with (first | (go_at_call 180;refine (hib _).mono ?_;rintro e w3 ⟨rfl,hw3⟩;subst w3))
  go_cut [6] (Cut2 w r)
  case first =>
   rcases c with _ | ⟨a,c,d⟩
   ·simp only [cutLen]
    go_wp2
    go_meet
    case rel=>exact ⟨R,F,on,0,rfl,hR,hF,HF2.out,P2.out⟩
   have hl:=of_cutAt_some HC.out.symm
   have HLs:=qh hl;clear hl
   have hlen:a.length+1+d.length=R.size:=by
    rw [HSR.out,HLs.out.1];simp;omega
   have hk1:(0:Int)<=(a.length:Int):=by omega
   have hk2:(a.length:Int)<(R.size:Int):=by omega
   have hw1:IntKind.i64.wrap ((a.length:Int)+1)=(a.length:Int)+1:=IntWalk.i64_in _ (by omega)
   have hw2:(0:Int)<=(a.length:Int)+1:=by omega
   have hw3:((a.length:Int)+1).toNat=a.length+1:=by omega
   have hlt:a.length<R.size:=by omega
   have HD1:=qh (bs_drop R HLs.out.1)
   have HR1:=qh (bs_take R HLs.out.1)
   have HZ1:Hid ((R.extract 0 a.length).size=a.length):=qh (by rw [Lib.size_eq,HR1.out])
   have HZ2:Hid ((R.extract (a.length+1) R.size).size=d.length):=qh (by rw [Lib.size_eq,HD1.out])
   have hnum:=number_any (R.extract (a.length+1) R.size) _ (by have:=HZ2.out;omega) (HLV.out.below P2.out.b)
   rw [HD1.out] at hnum
   have Hnum:=qh hnum;clear hnum hib
   simp only [cutLen]
   go_wp2_with (first | (go_at_call 181;refine Hnum.out.mono ?_;rintro e w4 ⟨n,rfl,hn,hb4⟩;refine Hid.out ?_))
   refine qh ?_
   have P3:=qh (P2.out.below hb4)
   have Hn:=qh hn
   clear hn hb4 P2 Hnum a0 a1 a2 a3 a4 a5 b0 b1 b2 b3 b4 b5 z0 z1 z2 z3 z4 z5 y0 y1 y2 y3 y4 y5 hw1 hw2 hw3
   obtain ⟨z0,z1,z2,z3,z4,z5⟩:=ch6 P3.out.z.cell
   obtain ⟨y0,y1,y2,y3,y4,y5⟩:=ch6 P3.out.z.free
   obtain ⟨a0,a1,a2,a3,a4,a5⟩:=ch6 P3.out.a.cell
   obtain ⟨b0,b1,b2,b3,b4,b5⟩:=ch6 P3.out.a.free
   simp only [qgz,qgs] at z0 z1 z2 z3 z4 z5 a0 a1 a2 a3 a4 a5
   obtain ⟨q,hq⟩:∃ q,number d=q:=⟨_,rfl⟩
   rw [hq] at Hn ⊢
   have HQ:=qh hq;clear hq
   rcases q with _ | v
   ·have HR2:Hid (r=badAt):=qh (by rw [HF2.out];simp only [HQ.out])
    simp only [Option.isSome_none]
    go_wp2_with (first | (go_at_call 178;refine (fail_any _).mono ?_;rintro e w5 ⟨rfl,hb5⟩;refine Hid.out ?_))
    refine qh ?_
    have P5:=qh (P3.out.below hb5)
    clear hb5
    obtain ⟨z0,z1,z2,z3,z4,z5⟩:=ch6 P5.out.z.cell
    obtain ⟨y0,y1,y2,y3,y4,y5⟩:=ch6 P5.out.z.free
    obtain ⟨a0,a1,a2,a3,a4,a5⟩:=ch6 P5.out.a.cell
    obtain ⟨b0,b1,b2,b3,b4,b5⟩:=ch6 P5.out.a.free
    simp only [qgz,qgs] at z0 z1 z2 z3 z4 z5 a0 a1 a2 a3 a4 a5
    go_wp2
    have hW:=(((((P5.out.z.set_ 0 (.string ⟨#[]⟩)).set_ 1 (.int .i64 0)).set_ 2 (.int .i64 0)).set_ 3 (.int .i64 0)).set_ 4 (.string ⟨#[]⟩)).set_ 5 (.bool false)
    have hbz:=(((((P5.out.b.setCell (p:=⟨w.heap.size,0,none⟩) (qr _) (.string ⟨#[]⟩)).setCell (p:=⟨w.heap.size,1,none⟩) (qr _) (.int .i64 0)).setCell (p:=⟨w.heap.size,2,none⟩) (qr _) (.int .i64 0)).setCell (p:=⟨w.heap.size,3,none⟩) (qr _) (.int .i64 0)).setCell (p:=⟨w.heap.size,4,none⟩) (qr _) (.string ⟨#[]⟩)).setCell (p:=⟨w.heap.size,5,none⟩) (qr _) (.bool false)
    simp only [List.set_cons_succ,List.set_cons_zero] at hW
    generalize hwz:(World.setCell (World.setCell _ _ _) _ _)=wz at hW hbz ⊢
    obtain ⟨e0,e1,e2,e3,e4,e5⟩:=ch6 hW.cell
    simp only [qgz,qgs] at e0 e1 e2 e3 e4 e5
    refine bodyPost_ret (v:=.tuple #[.agg #[_,_,_,_,_,_],.int .i64 _]) (by simp [results,Tryz.results150,go_sem,e0,e1,e2,e3,e4,e5];exact ⟨⟨rfl,rfl,rfl,rfl,rfl,rfl⟩,rfl⟩) rfl ?_
    refine ⟨?_,hbz⟩
    rw [HR2.out];rfl
   have hv:n=v:=Hn.out v rfl
   subst hv
   have HR2:Hid (r=if n=0 then badAt else parseOp a F.data.toList on n):=qh (by rw [HF2.out];simp only [HQ.out])
   simp only [Option.isSome_some]
   by_cases h0:n=0
   ·subst h0
    go_wp2_with (first | (go_at_call 178;refine (fail_any _).mono ?_;rintro e w5 ⟨rfl,hb5⟩;refine Hid.out ?_))
    refine qh ?_
    have P5:=qh (P3.out.below hb5)
    clear hb5
    obtain ⟨z0,z1,z2,z3,z4,z5⟩:=ch6 P5.out.z.cell
    obtain ⟨y0,y1,y2,y3,y4,y5⟩:=ch6 P5.out.z.free
    obtain ⟨a0,a1,a2,a3,a4,a5⟩:=ch6 P5.out.a.cell
    obtain ⟨b0,b1,b2,b3,b4,b5⟩:=ch6 P5.out.a.free
    simp only [qgz,qgs] at z0 z1 z2 z3 z4 z5 a0 a1 a2 a3 a4 a5
    go_wp2
    have hW:=(((((P5.out.z.set_ 0 (.string ⟨#[]⟩)).set_ 1 (.int .i64 0)).set_ 2 (.int .i64 0)).set_ 3 (.int .i64 0)).set_ 4 (.string ⟨#[]⟩)).set_ 5 (.bool false)
    have hbz:=(((((P5.out.b.setCell (p:=⟨w.heap.size,0,none⟩) (qr _) (.string ⟨#[]⟩)).setCell (p:=⟨w.heap.size,1,none⟩) (qr _) (.int .i64 0)).setCell (p:=⟨w.heap.size,2,none⟩) (qr _) (.int .i64 0)).setCell (p:=⟨w.heap.size,3,none⟩) (qr _) (.int .i64 0)).setCell (p:=⟨w.heap.size,4,none⟩) (qr _) (.string ⟨#[]⟩)).setCell (p:=⟨w.heap.size,5,none⟩) (qr _) (.bool false)
    simp only [List.set_cons_succ,List.set_cons_zero] at hW
    generalize hwz:(World.setCell (World.setCell _ _ _) _ _)=wz at hW hbz ⊢
    obtain ⟨e0,e1,e2,e3,e4,e5⟩:=ch6 hW.cell
    simp only [qgz,qgs] at e0 e1 e2 e3 e4 e5
    refine bodyPost_ret (v:=.tuple #[.agg #[_,_,_,_,_,_],.int .i64 _]) (by simp [results,Tryz.results150,go_sem,e0,e1,e2,e3,e4,e5];exact ⟨⟨rfl,rfl,rfl,rfl,rfl,rfl⟩,rfl⟩) rfl ?_
    refine ⟨?_,hbz⟩
    rw [HR2.out];rfl
   have h1:(n == 0)=false:=by simpa using h0
   have H0:=qh h0;clear h0
   go_wp2
   go_region
   have P4:=qh (P3.out.slot_ n).drew
   clear P3 a0 a1 a2 a3 a4 a5 b0 b1 b2 b3 b4 b5 z0 z1 z2 z3 z4 z5 y0 y1 y2 y3 y4 y5
   generalize World.drew _=wz at P4 ⊢
   go_wp2
   go_meet
   case rel=>exact ⟨_,F,on,n,rfl,by have:=HZ1.out;omega,hF,by rw [HR2.out,if_neg H0.out,HR1.out],P4.out⟩
  case rest =>
   generalize cutLen c=z8
   obtain ⟨R,F,on,sl,rfl,hR,hF,hr,P2⟩:=hcut
   replace P2:=qh P2
   have HF2:=qh hr
   clear HC hr hib a0 a1 a2 a3 a4 a5 b0 b1 b2 b3 b4 b5 z0 z1 z2 z3 z4 z5 y0 y1 y2 y3 y4 y5
   unfold parseOp at HF2
   have HSR:=qh (Lib.size_eq R)
   obtain ⟨c,hc⟩:∃ c,c=cutAt opB R.data.toList:=⟨_,rfl⟩
   have hany:=fun wx=>indexAny_any R ⟨#[61,60,62]⟩ wx (by omega) (by decide) (by decide) (by decide)
   rw [show ((⟨#[61,60,62]⟩:ByteArray).data.toList)=[61,60,62] from rfl,cut_op,<- hc] at hany
   rw [<- hc] at HF2
   have HC:=qh hc;clear hc
   go_upto_if 79 with (first | (go_at_call 179;refine (hany _).mono ?_;rintro e w4 ⟨rfl,hb4⟩;refine Hid.out ?_))
   refine qh ?_
   have P3:=qh (P2.out.below hb4)
   clear hb4 hany P2
   obtain ⟨z0,z1,z2,z3,z4,z5⟩:=ch6 P3.out.z.cell
   obtain ⟨y0,y1,y2,y3,y4,y5⟩:=ch6 P3.out.z.free
   obtain ⟨a0,a1,a2,a3,a4,a5⟩:=ch6 P3.out.a.cell
   obtain ⟨b0,b1,b2,b3,b4,b5⟩:=ch6 P3.out.a.free
   simp only [qgz,qgs] at z0 z1 z2 z3 z4 z5 a0 a1 a2 a3 a4 a5
   go_upto_if 79 with fail
   go_cut [6] (Cut3 w r)
   case first =>
    rcases c with _ | ⟨a,c,d⟩
    ·simp only [cutLen]
     go_wp2
     go_meet
     case rel=>exact ⟨R,F,on,sl,0,0,rfl,hR,hF,HF2.out,P3.out⟩
    have hl:=of_cutAt_some HC.out.symm
    have HLs:=qh hl;clear hl
    have hlen:a.length+1+d.length=R.size:=by
     rw [HSR.out,HLs.out.1];simp;omega
    have hk1:(0:Int)<=(a.length:Int):=by omega
    have hk2:(a.length:Int)<(R.size:Int):=by omega
    have hlt:a.length<R.size:=by omega
    have HO1:Hid ((R.extract a.length R.size).data.toList=c :: d):=qh (by rw [Lib.extract_to_end,HLs.out.1];simp)
    have HR1:=qh (bs_take R HLs.out.1)
    have HZ1:Hid ((R.extract 0 a.length).size=a.length):=qh (by rw [Lib.size_eq,HR1.out])
    have hcp:=fun (p:ByteArray) wx=>Tryz.strings_CutPrefix (R.extract a.length R.size) p wx
    rw [HO1.out] at hcp
    have Hcp:=qh hcp;clear hcp
    have HDL:Hid (d.length<=20000):=qh (by omega)
    clear a0 a1 a2 a3 a4 a5 b0 b1 b2 b3 b4 b5 z0 z1 z2 z3 z4 z5 y0 y1 y2 y3 y4 y5
    simp only [cutLen]
    go_wp2_with (first | (go_at_call 182;refine (ops_any' _).mono ?_;rintro e w5 ⟨rfl,hb5⟩;refine Hid.out ?_))
    refine qh ?_
    have P4:=qh (P3.out.below hb5)
    clear hb5 P3
    generalize R.extract a.length R.size=O at HO1 Hcp ⊢
    by_cases c1:c=61
    ·subst c1
     have HQ:Hid (r=match number d with | some v=>fin ⟨a,1,v,sl,F.data.toList,on⟩ | none=>badAt):=qh (by
      rw [HF2.out];simp only [opNum,if_true];cases number d <;> rfl)
     have hc0:=fun wx=>Hcp.out ⟨#[]⟩ wx
     have hc1:=fun wx=>Hcp.out ⟨#[61]⟩ wx
     rw [show Lib.hasPrefix (61 :: d) (⟨#[]⟩:ByteArray).data.toList=true from rfl] at hc0
     rw [show Lib.hasPrefix (61 :: d) (⟨#[61]⟩:ByteArray).data.toList=true from rfl,show Lib.trimPrefix (61 :: d) (⟨#[61]⟩:ByteArray).data.toList=d from rfl] at hc1
     generalize (⟨(Lib.trimPrefix (61 :: d) (⟨#[]⟩:ByteArray).data.toList).toArray⟩:ByteArray)=T0 at hc0
     have hc0:=qh hc0;have hc1:=qh hc1
     have hi0:=fun wx=>ops_at0 wx
     have hi1:=fun wx=>ops_at1 wx
     go_wp2_with fail
     refine wp_loop_rounds 5 ?_
     rw [rounds_succ]
     go_wp2_with (first | (go_at_call 149;with_reducible refine (hc0.out _).mono ?_;rintro e w6 ⟨rfl,hw6⟩;subst w6))
     rw [rounds_succ]
     go_wp2_with (first | (go_at_call 149;with_reducible refine (hc1.out _).mono ?_;rintro e w6 ⟨rfl,hw6⟩;subst w6))
     have hnum:=number_any ⟨d.toArray⟩ _ (by have h1:=bs_size d;have h2:=HDL.out;omega) (HLV.out.below P4.out.b)
     rw [show (⟨d.toArray⟩:ByteArray).data.toList=d from by simp] at hnum
     refine hnum.mono ?_
     rintro e w7 ⟨n,rfl,hn,hb7⟩
     have P5:=qh (P4.out.below hb7)
     have Hn:=qh hn
     clear hn hb7 P4 hnum
     obtain ⟨z0,z1,z2,z3,z4,z5⟩:=ch6 P5.out.z.cell
     obtain ⟨y0,y1,y2,y3,y4,y5⟩:=ch6 P5.out.z.free
     obtain ⟨a0,a1,a2,a3,a4,a5⟩:=ch6 P5.out.a.cell
     obtain ⟨b0,b1,b2,b3,b4,b5⟩:=ch6 P5.out.a.free
     simp only [qgz,qgs] at z0 z1 z2 z3 z4 z5 a0 a1 a2 a3 a4 a5
     obtain ⟨q,hq⟩:∃ q,number d=q:=⟨_,rfl⟩
     rw [hq] at Hn ⊢
     have HQ2:=qh hq;clear hq
     rcases q with _ | v
     ·have HR2:Hid (r=badAt):=qh (by rw [HQ.out,HQ2.out])
      simp only [Option.isSome_none]
      go_wp2_with (first | (go_at_call 178;refine (fail_any _).mono ?_;rintro e w5 ⟨rfl,hb5⟩;refine Hid.out ?_))
      refine qh ?_
      have P5:=qh (P5.out.below hb5)
      clear hb5
      obtain ⟨z0,z1,z2,z3,z4,z5⟩:=ch6 P5.out.z.cell
      obtain ⟨y0,y1,y2,y3,y4,y5⟩:=ch6 P5.out.z.free
      obtain ⟨a0,a1,a2,a3,a4,a5⟩:=ch6 P5.out.a.cell
      obtain ⟨b0,b1,b2,b3,b4,b5⟩:=ch6 P5.out.a.free
      simp only [qgz,qgs] at z0 z1 z2 z3 z4 z5 a0 a1 a2 a3 a4 a5
      go_wp2
      have hW:=(((((P5.out.z.set_ 0 (.string ⟨#[]⟩)).set_ 1 (.int .i64 0)).set_ 2 (.int .i64 0)).set_ 3 (.int .i64 0)).set_ 4 (.string ⟨#[]⟩)).set_ 5 (.bool false)
      have hbz:=(((((P5.out.b.setCell (p:=⟨w.heap.size,0,none⟩) (qr _) (.string ⟨#[]⟩)).setCell (p:=⟨w.heap.size,1,none⟩) (qr _) (.int .i64 0)).setCell (p:=⟨w.heap.size,2,none⟩) (qr _) (.int .i64 0)).setCell (p:=⟨w.heap.size,3,none⟩) (qr _) (.int .i64 0)).setCell (p:=⟨w.heap.size,4,none⟩) (qr _) (.string ⟨#[]⟩)).setCell (p:=⟨w.heap.size,5,none⟩) (qr _) (.bool false)
      simp only [List.set_cons_succ,List.set_cons_zero] at hW
      generalize hwz:(World.setCell (World.setCell _ _ _) _ _)=wz at hW hbz ⊢
      obtain ⟨e0,e1,e2,e3,e4,e5⟩:=ch6 hW.cell
      simp only [qgz,qgs] at e0 e1 e2 e3 e4 e5
      refine bodyPost_ret (v:=.tuple #[.agg #[_,_,_,_,_,_],.int .i64 _]) (by simp [results,Tryz.results150,go_sem,e0,e1,e2,e3,e4,e5];exact ⟨⟨rfl,rfl,rfl,rfl,rfl,rfl⟩,rfl⟩) rfl ?_
      refine ⟨?_,hbz⟩
      rw [HR2.out];rfl
     have hv:n=v:=Hn.out v rfl
     subst hv
     have HR2:Hid (r=fin ⟨a,1,n,sl,F.data.toList,on⟩):=qh (by rw [HQ.out,HQ2.out])
     simp only [Option.isSome_some]
     go_wp2
     have P6:=P5.out.op_ 1 n
     go_meet
     case rel=>exact ⟨_,F,on,sl,1,n,rfl,by have:=HZ1.out;omega,hF,by rw [HR2.out,HR1.out],P6⟩
    by_cases c2:c=60
    ·subst c2
     have HQ:Hid (r=match number d with | some v=>fin ⟨a,3,v,sl,F.data.toList,on⟩ | none=>badAt):=qh (by
      rw [HF2.out];simp only [opNum,if_true,if_neg c1];cases number d <;> rfl)
     have hc0:=fun wx=>Hcp.out ⟨#[]⟩ wx
     have hc1:=fun wx=>Hcp.out ⟨#[61]⟩ wx
     have hc2:=fun wx=>Hcp.out ⟨#[62,61]⟩ wx
     have hc3:=fun wx=>Hcp.out ⟨#[60]⟩ wx
     rw [show Lib.hasPrefix (60 :: d) (⟨#[]⟩:ByteArray).data.toList=true from rfl] at hc0
     rw [show Lib.hasPrefix (60 :: d) (⟨#[61]⟩:ByteArray).data.toList=false from rfl] at hc1
     rw [show Lib.hasPrefix (60 :: d) (⟨#[62,61]⟩:ByteArray).data.toList=false from rfl] at hc2
     rw [show Lib.hasPrefix (60 :: d) (⟨#[60]⟩:ByteArray).data.toList=true from rfl,show Lib.trimPrefix (60 :: d) (⟨#[60]⟩:ByteArray).data.toList=d from rfl] at hc3
     generalize (⟨(Lib.trimPrefix (60 :: d) (⟨#[]⟩:ByteArray).data.toList).toArray⟩:ByteArray)=T0 at hc0
     generalize (⟨(Lib.trimPrefix (60 :: d) (⟨#[61]⟩:ByteArray).data.toList).toArray⟩:ByteArray)=T1 at hc1
     generalize (⟨(Lib.trimPrefix (60 :: d) (⟨#[62,61]⟩:ByteArray).data.toList).toArray⟩:ByteArray)=T2 at hc2
     have hc0:=qh hc0;have hc1:=qh hc1;have hc2:=qh hc2;have hc3:=qh hc3
     have hi0:=fun wx=>ops_at0 wx
     have hi1:=fun wx=>ops_at1 wx
     have hi2:=fun wx=>ops_at2 wx
     have hi3:=fun wx=>ops_at3 wx
     go_wp2_with fail
     refine wp_loop_rounds 5 ?_
     rw [rounds_succ]
     go_wp2_with (first | (go_at_call 149;with_reducible refine (hc0.out _).mono ?_;rintro e w6 ⟨rfl,hw6⟩;subst w6))
     rw [rounds_succ]
     go_wp2_with (first | (go_at_call 149;with_reducible refine (hc1.out _).mono ?_;rintro e w6 ⟨rfl,hw6⟩;subst w6))
     rw [rounds_succ]
     go_wp2_with (first | (go_at_call 149;with_reducible refine (hc2.out _).mono ?_;rintro e w6 ⟨rfl,hw6⟩;subst w6))
     rw [rounds_succ]
     go_wp2_with (first | (go_at_call 149;with_reducible refine (hc3.out _).mono ?_;rintro e w6 ⟨rfl,hw6⟩;subst w6))
     have hnum:=number_any ⟨d.toArray⟩ _ (by have h1:=bs_size d;have h2:=HDL.out;omega) (HLV.out.below P4.out.b)
     rw [show (⟨d.toArray⟩:ByteArray).data.toList=d from by simp] at hnum
     refine hnum.mono ?_
     rintro e w7 ⟨n,rfl,hn,hb7⟩
     have P5:=qh (P4.out.below hb7)
     have Hn:=qh hn
     clear hn hb7 P4 hnum
     obtain ⟨z0,z1,z2,z3,z4,z5⟩:=ch6 P5.out.z.cell
     obtain ⟨y0,y1,y2,y3,y4,y5⟩:=ch6 P5.out.z.free
     obtain ⟨a0,a1,a2,a3,a4,a5⟩:=ch6 P5.out.a.cell
     obtain ⟨b0,b1,b2,b3,b4,b5⟩:=ch6 P5.out.a.free
     simp only [qgz,qgs] at z0 z1 z2 z3 z4 z5 a0 a1 a2 a3 a4 a5
     obtain ⟨q,hq⟩:∃ q,number d=q:=⟨_,rfl⟩
     rw [hq] at Hn ⊢
     have HQ2:=qh hq;clear hq
     rcases q with _ | v
     ·have HR2:Hid (r=badAt):=qh (by rw [HQ.out,HQ2.out])
      simp only [Option.isSome_none]
      go_wp2_with (first | (go_at_call 178;refine (fail_any _).mono ?_;rintro e w5 ⟨rfl,hb5⟩;refine Hid.out ?_))
      refine qh ?_
      have P5:=qh (P5.out.below hb5)
      clear hb5
      obtain ⟨z0,z1,z2,z3,z4,z5⟩:=ch6 P5.out.z.cell
      obtain ⟨y0,y1,y2,y3,y4,y5⟩:=ch6 P5.out.z.free
      obtain ⟨a0,a1,a2,a3,a4,a5⟩:=ch6 P5.out.a.cell
      obtain ⟨b0,b1,b2,b3,b4,b5⟩:=ch6 P5.out.a.free
      simp only [qgz,qgs] at z0 z1 z2 z3 z4 z5 a0 a1 a2 a3 a4 a5
      go_wp2
      have hW:=(((((P5.out.z.set_ 0 (.string ⟨#[]⟩)).set_ 1 (.int .i64 0)).set_ 2 (.int .i64 0)).set_ 3 (.int .i64 0)).set_ 4 (.string ⟨#[]⟩)).set_ 5 (.bool false)
      have hbz:=(((((P5.out.b.setCell (p:=⟨w.heap.size,0,none⟩) (qr _) (.string ⟨#[]⟩)).setCell (p:=⟨w.heap.size,1,none⟩) (qr _) (.int .i64 0)).setCell (p:=⟨w.heap.size,2,none⟩) (qr _) (.int .i64 0)).setCell (p:=⟨w.heap.size,3,none⟩) (qr _) (.int .i64 0)).setCell (p:=⟨w.heap.size,4,none⟩) (qr _) (.string ⟨#[]⟩)).setCell (p:=⟨w.heap.size,5,none⟩) (qr _) (.bool false)
      simp only [List.set_cons_succ,List.set_cons_zero] at hW
      generalize hwz:(World.setCell (World.setCell _ _ _) _ _)=wz at hW hbz ⊢
      obtain ⟨e0,e1,e2,e3,e4,e5⟩:=ch6 hW.cell
      simp only [qgz,qgs] at e0 e1 e2 e3 e4 e5
      refine bodyPost_ret (v:=.tuple #[.agg #[_,_,_,_,_,_],.int .i64 _]) (by simp [results,Tryz.results150,go_sem,e0,e1,e2,e3,e4,e5];exact ⟨⟨rfl,rfl,rfl,rfl,rfl,rfl⟩,rfl⟩) rfl ?_
      refine ⟨?_,hbz⟩
      rw [HR2.out];rfl
     have hv:n=v:=Hn.out v rfl
     subst hv
     have HR2:Hid (r=fin ⟨a,3,n,sl,F.data.toList,on⟩):=qh (by rw [HQ.out,HQ2.out])
     simp only [Option.isSome_some]
     go_wp2
     have P6:=P5.out.op_ 3 n
     go_meet
     case rel=>exact ⟨_,F,on,sl,3,n,rfl,by have:=HZ1.out;omega,hF,by rw [HR2.out,HR1.out],P6⟩
    have c3:c=62:=by
     have hp:=HLs.out.2.1
     rw [opB,beq_d,beq_d,beq_d,qdf c1,qdf c2] at hp
     simpa using hp
    subst c3
    have hc0:=fun wx=>Hcp.out ⟨#[]⟩ wx
    have hc1:=fun wx=>Hcp.out ⟨#[61]⟩ wx
    have hc2:=fun wx=>Hcp.out ⟨#[62,61]⟩ wx
    have hc3:=fun wx=>Hcp.out ⟨#[60]⟩ wx
    rw [show Lib.hasPrefix (62 :: d) (⟨#[]⟩:ByteArray).data.toList=true from rfl] at hc0
    rw [show Lib.hasPrefix (62 :: d) (⟨#[61]⟩:ByteArray).data.toList=false from rfl] at hc1
    rw [show Lib.hasPrefix (62 :: d) (⟨#[60]⟩:ByteArray).data.toList=false from rfl] at hc3
    generalize (⟨(Lib.trimPrefix (62 :: d) (⟨#[]⟩:ByteArray).data.toList).toArray⟩:ByteArray)=T0 at hc0
    generalize (⟨(Lib.trimPrefix (62 :: d) (⟨#[61]⟩:ByteArray).data.toList).toArray⟩:ByteArray)=T1 at hc1
    generalize (⟨(Lib.trimPrefix (62 :: d) (⟨#[60]⟩:ByteArray).data.toList).toArray⟩:ByteArray)=T3 at hc3
    have hi0:=fun wx=>ops_at0 wx
    have hi1:=fun wx=>ops_at1 wx
    have hi2:=fun wx=>ops_at2 wx
    have hi3:=fun wx=>ops_at3 wx
    have hd:(∃ d',d=61 :: d')\/(Lib.hasPrefix (62 :: d) [62,61]=false/\opNum 62 d=none):=by
     cases d with
     | nil=>exact .inr ⟨rfl,rfl⟩
     | cons x d' =>
      by_cases hx:x=61
      ·exact .inl ⟨d',by rw [hx]⟩
      refine .inr ⟨?_, ?_⟩
      ·have:(61 == x)=false:=by rw [beq_d];simp;exact fun h=>hx h.symm
       simp [Lib.hasPrefix,List.isPrefixOf,this]
      unfold opNum;rw [if_neg (by decide),if_neg (by decide)];simp only [if_neg hx]
    rcases hd with ⟨d',rfl⟩ | ⟨hd1,hd2⟩
    ·rw [show Lib.hasPrefix (62 :: 61 :: d') (⟨#[62,61]⟩:ByteArray).data.toList=true from rfl,show Lib.trimPrefix (62 :: 61 :: d') (⟨#[62,61]⟩:ByteArray).data.toList=d' from rfl] at hc2
     have HQ:Hid (r=match number d' with | some v=>fin ⟨a,2,v,sl,F.data.toList,on⟩ | none=>badAt):=qh (by
      rw [HF2.out];simp only [opNum,if_true,if_neg c1,if_neg c2];cases number d' <;> rfl)
     have HDL':Hid (d'.length<=20000):=qh (by have:=HDL.out;simp only [List.length_cons] at this;omega)
     clear HDL
     have HDL:=HDL'
     have hc0:=qh hc0;have hc1:=qh hc1;have hc2:=qh hc2;have hc3:=qh hc3
     go_wp2_with fail
     refine wp_loop_rounds 5 ?_
     rw [rounds_succ]
     go_wp2_with (first | (go_at_call 149;with_reducible refine (hc0.out _).mono ?_;rintro e w6 ⟨rfl,hw6⟩;subst w6))
     rw [rounds_succ]
     go_wp2_with (first | (go_at_call 149;with_reducible refine (hc1.out _).mono ?_;rintro e w6 ⟨rfl,hw6⟩;subst w6))
     rw [rounds_succ]
     go_wp2_with (first | (go_at_call 149;with_reducible refine (hc2.out _).mono ?_;rintro e w6 ⟨rfl,hw6⟩;subst w6))
     have hnum:=number_any ⟨d'.toArray⟩ _ (by have h1:=bs_size d';have h2:=HDL.out;omega) (HLV.out.below P4.out.b)
     rw [show (⟨d'.toArray⟩:ByteArray).data.toList=d' from by simp] at hnum
     refine hnum.mono ?_
     rintro e w7 ⟨n,rfl,hn,hb7⟩
     have P5:=qh (P4.out.below hb7)
     have Hn:=qh hn
     clear hn hb7 P4 hnum
     obtain ⟨z0,z1,z2,z3,z4,z5⟩:=ch6 P5.out.z.cell
     obtain ⟨y0,y1,y2,y3,y4,y5⟩:=ch6 P5.out.z.free
     obtain ⟨a0,a1,a2,a3,a4,a5⟩:=ch6 P5.out.a.cell
     obtain ⟨b0,b1,b2,b3,b4,b5⟩:=ch6 P5.out.a.free
     simp only [qgz,qgs] at z0 z1 z2 z3 z4 z5 a0 a1 a2 a3 a4 a5
     obtain ⟨q,hq⟩:∃ q,number d'=q:=⟨_,rfl⟩
     rw [hq] at Hn ⊢
     have HQ2:=qh hq;clear hq
     rcases q with _ | v
     ·have HR2:Hid (r=badAt):=qh (by rw [HQ.out,HQ2.out])
      simp only [Option.isSome_none]
      go_wp2_with (first | (go_at_call 178;refine (fail_any _).mono ?_;rintro e w5 ⟨rfl,hb5⟩;refine Hid.out ?_))
      refine qh ?_
      have P5:=qh (P5.out.below hb5)
      clear hb5
      obtain ⟨z0,z1,z2,z3,z4,z5⟩:=ch6 P5.out.z.cell
      obtain ⟨y0,y1,y2,y3,y4,y5⟩:=ch6 P5.out.z.free
      obtain ⟨a0,a1,a2,a3,a4,a5⟩:=ch6 P5.out.a.cell
      obtain ⟨b0,b1,b2,b3,b4,b5⟩:=ch6 P5.out.a.free
      simp only [qgz,qgs] at z0 z1 z2 z3 z4 z5 a0 a1 a2 a3 a4 a5
      go_wp2
      have hW:=(((((P5.out.z.set_ 0 (.string ⟨#[]⟩)).set_ 1 (.int .i64 0)).set_ 2 (.int .i64 0)).set_ 3 (.int .i64 0)).set_ 4 (.string ⟨#[]⟩)).set_ 5 (.bool false)
      have hbz:=(((((P5.out.b.setCell (p:=⟨w.heap.size,0,none⟩) (qr _) (.string ⟨#[]⟩)).setCell (p:=⟨w.heap.size,1,none⟩) (qr _) (.int .i64 0)).setCell (p:=⟨w.heap.size,2,none⟩) (qr _) (.int .i64 0)).setCell (p:=⟨w.heap.size,3,none⟩) (qr _) (.int .i64 0)).setCell (p:=⟨w.heap.size,4,none⟩) (qr _) (.string ⟨#[]⟩)).setCell (p:=⟨w.heap.size,5,none⟩) (qr _) (.bool false)
      simp only [List.set_cons_succ,List.set_cons_zero] at hW
      generalize hwz:(World.setCell (World.setCell _ _ _) _ _)=wz at hW hbz ⊢
      obtain ⟨e0,e1,e2,e3,e4,e5⟩:=ch6 hW.cell
      simp only [qgz,qgs] at e0 e1 e2 e3 e4 e5
      refine bodyPost_ret (v:=.tuple #[.agg #[_,_,_,_,_,_],.int .i64 _]) (by simp [results,Tryz.results150,go_sem,e0,e1,e2,e3,e4,e5];exact ⟨⟨rfl,rfl,rfl,rfl,rfl,rfl⟩,rfl⟩) rfl ?_
      refine ⟨?_,hbz⟩
      rw [HR2.out];rfl
     have hv:n=v:=Hn.out v rfl
     subst hv
     have HR2:Hid (r=fin ⟨a,2,n,sl,F.data.toList,on⟩):=qh (by rw [HQ.out,HQ2.out])
     simp only [Option.isSome_some]
     go_wp2
     have P6:=P5.out.op_ 2 n
     go_meet
     case rel=>exact ⟨_,F,on,sl,2,n,rfl,by have:=HZ1.out;omega,hF,by rw [HR2.out,HR1.out],P6⟩
    rw [show (⟨#[62,61]⟩:ByteArray).data.toList=[62,61] from rfl,hd1] at hc2
    generalize (⟨(Lib.trimPrefix (62 :: d) [62,61]).toArray⟩:ByteArray)=T2 at hc2
    have HR2:Hid (r=badAt):=qh (by rw [HF2.out];simp only [hd2])
    have hc0:=qh hc0;have hc1:=qh hc1;have hc2:=qh hc2;have hc3:=qh hc3
    clear hd1 hd2
    obtain ⟨z0,z1,z2,z3,z4,z5⟩:=ch6 P4.out.z.cell
    obtain ⟨y0,y1,y2,y3,y4,y5⟩:=ch6 P4.out.z.free
    obtain ⟨a0,a1,a2,a3,a4,a5⟩:=ch6 P4.out.a.cell
    obtain ⟨b0,b1,b2,b3,b4,b5⟩:=ch6 P4.out.a.free
    simp only [qgz,qgs] at z0 z1 z2 z3 z4 z5 a0 a1 a2 a3 a4 a5
    go_wp2_with fail
    refine wp_loop_rounds 5 ?_
    rw [rounds_succ]
    go_wp2_with (first | (go_at_call 149;with_reducible refine (hc0.out _).mono ?_;rintro e w6 ⟨rfl,hw6⟩;subst w6))
    rw [rounds_succ]
    go_wp2_with (first | (go_at_call 149;with_reducible refine (hc1.out _).mono ?_;rintro e w6 ⟨rfl,hw6⟩;subst w6))
    rw [rounds_succ]
    go_wp2_with (first | (go_at_call 149;with_reducible refine (hc2.out _).mono ?_;rintro e w6 ⟨rfl,hw6⟩;subst w6))
    rw [rounds_succ]
    go_wp2_with (first | (go_at_call 149;with_reducible refine (hc3.out _).mono ?_;rintro e w6 ⟨rfl,hw6⟩;subst w6))
    rw [rounds_succ]
    go_wp2_with (first | (go_at_call 178;refine (fail_any _).mono ?_;rintro e w5 ⟨rfl,hb5⟩;refine Hid.out ?_))
    refine qh ?_
    have P5:=qh (P4.out.below hb5)
    clear hb5
    obtain ⟨z0,z1,z2,z3,z4,z5⟩:=ch6 P5.out.z.cell
    obtain ⟨y0,y1,y2,y3,y4,y5⟩:=ch6 P5.out.z.free
    obtain ⟨a0,a1,a2,a3,a4,a5⟩:=ch6 P5.out.a.cell
    obtain ⟨b0,b1,b2,b3,b4,b5⟩:=ch6 P5.out.a.free
    simp only [qgz,qgs] at z0 z1 z2 z3 z4 z5 a0 a1 a2 a3 a4 a5
    go_wp2
    have hW:=(((((P5.out.z.set_ 0 (.string ⟨#[]⟩)).set_ 1 (.int .i64 0)).set_ 2 (.int .i64 0)).set_ 3 (.int .i64 0)).set_ 4 (.string ⟨#[]⟩)).set_ 5 (.bool false)
    have hbz:=(((((P5.out.b.setCell (p:=⟨w.heap.size,0,none⟩) (qr _) (.string ⟨#[]⟩)).setCell (p:=⟨w.heap.size,1,none⟩) (qr _) (.int .i64 0)).setCell (p:=⟨w.heap.size,2,none⟩) (qr _) (.int .i64 0)).setCell (p:=⟨w.heap.size,3,none⟩) (qr _) (.int .i64 0)).setCell (p:=⟨w.heap.size,4,none⟩) (qr _) (.string ⟨#[]⟩)).setCell (p:=⟨w.heap.size,5,none⟩) (qr _) (.bool false)
    simp only [List.set_cons_succ,List.set_cons_zero] at hW
    generalize hwz:(World.setCell (World.setCell _ _ _) _ _)=wz at hW hbz ⊢
    obtain ⟨e0,e1,e2,e3,e4,e5⟩:=ch6 hW.cell
    simp only [qgz,qgs] at e0 e1 e2 e3 e4 e5
    refine bodyPost_ret (v:=.tuple #[.agg #[_,_,_,_,_,_],.int .i64 _]) (by simp [results,Tryz.results150,go_sem,e0,e1,e2,e3,e4,e5];exact ⟨⟨rfl,rfl,rfl,rfl,rfl,rfl⟩,rfl⟩) rfl ?_
    refine ⟨?_,hbz⟩
    rw [HR2.out];rfl
   case rest =>
    obtain ⟨R,F,on,sl,op,ver,rfl,hR,hF,hr,P4⟩:=hcut
    clear HF2 HC P3 a0 a1 a2 a3 a4 a5 b0 b1 b2 b3 b4 b5 z0 z1 z2 z3 z4 z5 y0 y1 y2 y3 y4 y5
    generalize cutLen c=z11
    have P4:=qh P4
    have HR2:=qh (show r=fin (atOf R op ver sl F on) from hr);clear hr
    obtain ⟨z0,z1,z2,z3,z4,z5⟩:=ch6 P4.out.z.cell
    obtain ⟨y0,y1,y2,y3,y4,y5⟩:=ch6 P4.out.z.free
    obtain ⟨a0,a1,a2,a3,a4,a5⟩:=ch6 P4.out.a.cell
    obtain ⟨b0,b1,b2,b3,b4,b5⟩:=ch6 P4.out.a.free
    simp only [qgz,qgs] at z0 z1 z2 z3 z4 z5 a0 a1 a2 a3 a4 a5
    have hck:=fun wx=>check_any R F op ver sl on wx (by unfold maxLen;omega) (by unfold maxLen;omega)
    unfold atv at hck
    have Hck:=qh hck;clear hck
    go_wp2_with (first | (go_at_call 75;refine (Hck.out _).mono ?_;rintro e w7 ⟨rfl,hb7⟩;refine Hid.out ?_))
    refine qh ?_
    have hz7:=(P4.out.z.far (p:=⟨w.heap.size+1,0,none⟩) (by show w.heap.size≠w.heap.size+1;omega) (.string R)).below hb7 (by have:=P4.out.z.lt;simpa [World.setCell] using this)
    have ha7:=(P4.out.a.set_ 0 (.string R)).below hb7 (by have:=P4.out.a.lt;simpa [World.setCell] using this)
    have hB7:=(P4.out.b.setCell (p:=⟨w.heap.size+1,0,none⟩) (by show w.heap.size<=w.heap.size+1;omega) (.string R)).trans (hb7.mono (by have:=P4.out.b.size;simpa [World.setCell] using this))
    simp only [List.set_cons_zero] at ha7
    have HZ7:=qh hz7;have HA7:=qh ha7;have HB7:=qh hB7
    clear P4 Hck hz7 ha7 hB7 hb7 a0 a1 a2 a3 a4 a5 b0 b1 b2 b3 b4 b5 z0 z1 z2 z3 z4 z5 y0 y1 y2 y3 y4 y5
    obtain ⟨z0,z1,z2,z3,z4,z5⟩:=ch6 HZ7.out.cell
    obtain ⟨y0,y1,y2,y3,y4,y5⟩:=ch6 HZ7.out.free
    obtain ⟨a0,a1,a2,a3,a4,a5⟩:=ch6 HA7.out.cell
    simp only [qgz,qgs] at z0 z1 z2 z3 z4 z5 a0 a1 a2 a3 a4 a5
    obtain ⟨q,hq⟩:∃ q,ckAtom (atOf R op ver sl F on)=q:=⟨_,rfl⟩
    rw [hq]
    have HQ:=qh hq;clear hq
    by_cases h0:q=0
    ·subst h0
     have HR3:Hid (r=(atOf R op ver sl F on,0)):=qh (by rw [HR2.out];unfold fin;rw [if_pos HQ.out])
     go_wp2
     have hW:=(((((HZ7.out.set_ 0 (.string R)).set_ 1 (.int .i64 op)).set_ 2 (.int .i64 ver)).set_ 3 (.int .i64 sl)).set_ 4 (.string F)).set_ 5 (.bool on)
     have hbz:=(((((HB7.out.setCell (p:=⟨w.heap.size,0,none⟩) (qr _) (.string R)).setCell (p:=⟨w.heap.size,1,none⟩) (qr _) (.int .i64 op)).setCell (p:=⟨w.heap.size,2,none⟩) (qr _) (.int .i64 ver)).setCell (p:=⟨w.heap.size,3,none⟩) (qr _) (.int .i64 sl)).setCell (p:=⟨w.heap.size,4,none⟩) (qr _) (.string F)).setCell (p:=⟨w.heap.size,5,none⟩) (qr _) (.bool on)
     simp only [List.set_cons_succ,List.set_cons_zero] at hW
     generalize hwz:(World.setCell (World.setCell _ _ _) _ _)=wz at hW hbz ⊢
     obtain ⟨e0,e1,e2,e3,e4,e5⟩:=ch6 hW.cell
     simp only [qgz,qgs] at e0 e1 e2 e3 e4 e5
     refine bodyPost_ret (v:=.tuple #[.agg #[_,_,_,_,_,_],.int .i64 _]) (by simp [results,Tryz.results150,go_sem,e0,e1,e2,e3,e4,e5];exact ⟨⟨rfl,rfl,rfl,rfl,rfl,rfl⟩,rfl⟩) rfl ?_
     refine ⟨?_,hbz⟩
     rw [HR3.out]
     simp only [AtEnd,atOf]
    have h1:(q != 0)=true:=by simpa using h0
    have HR3:Hid (r=(At.zero,q)):=qh (by rw [HR2.out];unfold fin;rw [if_neg (by rw [HQ.out];exact h0),HQ.out])
    go_wp2
    have hW:=(((((HZ7.out.set_ 0 (.string ⟨#[]⟩)).set_ 1 (.int .i64 0)).set_ 2 (.int .i64 0)).set_ 3 (.int .i64 0)).set_ 4 (.string ⟨#[]⟩)).set_ 5 (.bool false)
    have hbz:=(((((HB7.out.setCell (p:=⟨w.heap.size,0,none⟩) (qr _) (.string ⟨#[]⟩)).setCell (p:=⟨w.heap.size,1,none⟩) (qr _) (.int .i64 0)).setCell (p:=⟨w.heap.size,2,none⟩) (qr _) (.int .i64 0)).setCell (p:=⟨w.heap.size,3,none⟩) (qr _) (.int .i64 0)).setCell (p:=⟨w.heap.size,4,none⟩) (qr _) (.string ⟨#[]⟩)).setCell (p:=⟨w.heap.size,5,none⟩) (qr _) (.bool false)
    simp only [List.set_cons_succ,List.set_cons_zero] at hW
    generalize hwz:(World.setCell (World.setCell _ _ _) _ _)=wz at hW hbz ⊢
    obtain ⟨e0,e1,e2,e3,e4,e5⟩:=ch6 hW.cell
    simp only [qgz,qgs] at e0 e1 e2 e3 e4 e5
    refine bodyPost_ret (v:=.tuple #[.agg #[_,_,_,_,_,_],.int .i64 _]) (by simp [results,Tryz.results150,go_sem,e0,e1,e2,e3,e4,e5];exact ⟨⟨rfl,rfl,rfl,rfl,rfl,rfl⟩,rfl⟩) rfl ?_
    refine ⟨?_,hbz⟩
    rw [HR3.out];rfl
end
section
open Go.RowKit Qm
theorem need_info:(Tryz.prog.info? 99).map (fun i=>(i.zero,i.size,i.bytes))=some (some (.agg #[.int .i64 0,.string ⟨#[]⟩,.int .i64 0,.int .i64 0,.int .i64 0,.string ⟨#[]⟩,.bool false,.string ⟨#[]⟩,.bool false,.slice none 0 0]),10,120):=by kernel_rfl
theorem set_len {w:World} {b i:Nat} {u:Value}:(w.setCell ⟨b,i,none⟩ u).heap.size=w.heap.size:=by simp [World.setCell]
theorem store10 {w:World} {b:Nat} {t:TypeId} {xs:List Value} (h:Whole w b t xs) (hl:xs.length=10) (v0 v1 v2 v3 v4 v5 v6 v7 v8 v9:Value) :
  ∃ wz,(((((((((((w.setCell ⟨b,0,none⟩ v0).setCell ⟨b,1,none⟩ v1).setCell ⟨b,2,none⟩ v2).setCell ⟨b,3,none⟩ v3).setCell ⟨b,4,none⟩ v4).setCell ⟨b,5,none⟩ v5).setCell ⟨b,6,none⟩ v6).setCell ⟨b,7,none⟩ v7).setCell ⟨b,8,none⟩ v8).setCell ⟨b,9,none⟩ v9))=wz /\
   Whole wz b t [v0,v1,v2,v3,v4,v5,v6,v7,v8,v9]/\Far (fun i=>i=b) w wz/\wz.heap.size=w.heap.size:=by
 refine ⟨_,rfl, ?_, ?_, ?_⟩
 ·match xs,hl,h with
  | [y0,y1,y2,y3,y4,y5,y6,y7,y8,y9],_,h =>
   exact (((((((((h.set_ 0 v0).set_ 1 v1).set_ 2 v2).set_ 3 v3).set_ 4 v4).set_ 5 v5).set_ 6 v6).set_ 7 v7).set_ 8 v8).set_ 9 v9
 ·have st:∀ (wx:World) (i:Nat) (u:Value),Far (fun i=>i=b) wx (wx.setCell ⟨b,i,none⟩ u):=fun wx i u=>Far.set_ (D:=fun i=>i=b) rfl i u
  refine (st w 0 v0).trans ((st _ 1 v1).trans ((st _ 2 v2).trans ((st _ 3 v3).trans ((st _ 4 v4).trans ((st _ 5 v5).trans ((st _ 6 v6).trans ((st _ 7 v7).trans ((st _ 8 v8).trans (st _ 9 v9) ?_) ?_) ?_) ?_) ?_) ?_) ?_) ?_) ?_ <;> exact fun _ _ h=>h
 simp only [set_len]
def NeedPost (w:World) (R:Nat) (S:Nat->Prop) (d:Nat) (ws:List Qm.W) (e:Ending) (w':World):Prop:=
 ∃ k a f no A n c,e=.returned (.tuple #[.agg (ndRow k a f no A n c).toArray,.bool (readN d ws).isSome])/\Far (fun i=>i=R) w w' /\
  ∀ y ws',readN d ws=some (y,ws')->RNd w' (fun i=>w.heap.size<=i/\i<w'.heap.size) (ndRow k a f no A n c) y/\RdSt w' R S ws'
def prepK (ys:List Nd):Option (List Nd×List Qm.W)->Option (List Nd×List Qm.W)
 | none=>none
 | some (ks,r)=>some (ys++ks,r)
structure Kd (w:World) (R:Nat) (S:Nat->Prop) (z:List Value) (k:Int) (f:Qm.W) (no:Bool) (A:Option Addr) (c:Nat) (cs:List (List Value)) (ys:List Nd) (us:List Qm.W) (wx:World):Prop where
 rd:RdSt wx R S us
 z:Whole wx w.heap.size 99 z
 n:Whole wx (w.heap.size+1) 99 (ndRow k At.zero f no A ys.length c)
 far:Far (fun i=>i=R) w wx
 len:cs.length=ys.length
 own:wx.ownsRow (w.heap.size+2) 99 10 (.slice A ys.length c) ys.length cs.flatten
 kid:∀ (j:Nat) (x:List Value) (y:Nd),cs[j]? = some x->ys[j]? = some y->RNd wx (fun i=>w.heap.size+2<=i/\i<wx.heap.size/\(Value.slice A ys.length c).ownBlock≠some i) x y
section
variable {w wx wy : World} {R : Nat} {S : Nat → Prop} {z : List Value} {k : Int} {f : Qm.W} {no : Bool} {A : Option Addr} {c : Nat} {cs : List (List Value)} {ys : List Nd} {us us' : List Qm.W}
theorem Kd.size (h:Kd w R S z k f no A c cs ys us wx):w.heap.size+2<=wx.heap.size:=h.n.lt
theorem Kd.move (h:Kd w R S z k f no A c cs ys us wx) (hR:R<w.heap.size) (hf:Far (fun i=>i=R) wx wy) (hr:RdSt wy R S us'):Kd w R S z k f no A c cs ys us' wy where
 rd:=hr
 z:=hf.whole h.z (by omega)
 n:=hf.whole h.n (by omega)
 far:=h.far.trans hf fun _ _ h=>h
 len:=h.len
 own:=hf.own h.own fun g hg=>by have:=(h.own.lt g hg).1;omega
 kid:=fun j x y h1 h2=>((h.kid j x y h1 h2).far hf fun i hi=>⟨hi.2.1,by omega⟩).more fun i hi=>⟨hi.1,ql hi.2.1 hf.size,hi.2.2⟩
theorem Kd.alloc (h:Kd w R S z k f no A c cs ys us wx) (hR:R<w.heap.size) (hS:∀ k,S k->k<w.heap.size) (o:Obj):Kd w R S z k f no A c cs ys us (wx.alloc o):=
 h.move hR (Far.of_below _ ((qbr _ _).alloc (qr _) o)) (h.rd.far (D:=fun _=>False) (Far.of_below _ ((qbr _ _).alloc (qr _) o)) (fun h=>h) fun q hq=>⟨by have:=hS q hq;have:=h.size;omega,fun h=>h⟩)
theorem Kd.drew (h:Kd w R S z k f no A c cs ys us wx):Kd w R S z k f no A c cs ys us wx.drew:=
 ⟨h.rd,h.z,h.n,h.far.drew,h.len,h.own,fun j x y h1 h2=>RNd.keep (w:=wx) (w':=wx.drew) (fun _ _=>rfl) (h.kid j x y h1 h2)⟩
theorem flat_snoc (cs:List (List Value)) (x:List Value):(cs++[x]).flatten=cs.flatten++x:=by simp
theorem Kd.push (h:Kd w R S z k f no A c cs ys us wx) (hR:R<w.heap.size) (hS:∀ k,S k->k<w.heap.size) {x:List Value} {y:Nd} {A':Option Addr} {c':Nat}
  (hx:RNd wx (fun i=>w.heap.size+2<=i/\i<wx.heap.size/\(Value.slice A ys.length c).ownBlock≠some i) x y)
  (hown:wy.ownsRow (w.heap.size+2) 99 10 (.slice A' (ys.length+1) c') (ys.length+1) (cs.flatten++x)) (hg:wx.grownBy wy (Value.slice A ys.length c).ownBlock)
  (hv:(Value.slice A' (ys.length+1) c').ownBlock=(Value.slice A ys.length c).ownBlock\/(Value.slice A' (ys.length+1) c').ownBlock=some wx.heap.size) :
  Kd w R S z k f no A' c' (cs++[x]) (ys++[y]) us (wy.setCell ⟨w.heap.size+1,9,none⟩ (.slice A' (ys.length+1) c')):=by
 have hD:∀ i,some i=(Value.slice A ys.length c).ownBlock->w.heap.size+2<=i:=fun i hi=>(h.own.lt i hi.symm).1
 have f1:Far (fun i=>w.heap.size+2<=i/\some i=(Value.slice A ys.length c).ownBlock) wx wy:=Far.of_grown hg fun i hi=>⟨hD i hi,hi⟩
 have f2:Far (fun i=>i=w.heap.size+1) wy (wy.setCell ⟨w.heap.size+1,9,none⟩ (.slice A' (ys.length+1) c')):=Far.set_ (D:=fun i=>i=w.heap.size+1) rfl 9 _
 have hlen:(ys++[y]).length=ys.length+1:=by simp
 have hsz:=f1.size
 have hsz2:=h.size
 have kk:∀ (j:Nat) (x:List Value) (y:Nd),cs[j]? = some x->ys[j]? = some y->RNd wy (fun i=>w.heap.size+2<=i/\i<wx.heap.size/\(Value.slice A ys.length c).ownBlock≠some i) x y:=fun j x y h1 h2=>(h.kid j x y h1 h2).far f1 fun i hi=>⟨hi.2.1,fun e=>hi.2.2 e.2.symm⟩
 have kx:=hx.far f1 fun i hi=>⟨hi.2.1,fun e=>hi.2.2 e.2.symm⟩
 have fin:∀ {x2:List Value} {y2:Nd},RNd wy (fun i=>w.heap.size+2<=i/\i<wx.heap.size/\(Value.slice A ys.length c).ownBlock≠some i) x2 y2 ->
   RNd (wy.setCell ⟨w.heap.size+1,9,none⟩ (.slice A' (ys.length+1) c')) (fun i=>w.heap.size+2<=i/\i<(wy.setCell ⟨w.heap.size+1,9,none⟩ (.slice A' (ys.length+1) c')).heap.size/\(Value.slice A' (ys++[y]).length c').ownBlock≠some i) x2 y2:=fun hh=>by
  refine (hh.far f2 fun i hi=>⟨by omega,by omega⟩).more fun i hi=>⟨hi.1,by rw [set_len];omega, ?_⟩
  rw [hlen]
  rcases hv with e | e
  ·rw [e];exact hi.2.2
  rw [e];intro e';injection e' with e';omega
 exact {
  rd:=(h.rd.far f1 (fun e=>by omega) fun q hq=>⟨by have:=hS q hq;omega,fun e=>by have:=hS q hq;omega⟩).far f2 (by omega) fun q hq=>⟨by have:=hS q hq;omega,by have:=hS q hq;omega⟩
  z:=f2.whole (f1.whole h.z (fun e=>by omega)) (by omega)
  n:=by rw [hlen];exact (f1.whole h.n (fun e=>by omega)).set_ 9 _
  far:=⟨h.far.base.trans (f1.base.trans f2.base),fun i hi hn=>(f2.block i (by omega) (by omega)).trans ((f1.block i (by omega) (fun e=>by omega)).trans (h.far.block i hi hn))⟩
  len:=by simp [h.len]
  own:=by
   rw [hlen,flat_snoc]
   exact f2.own hown fun g hg=>by have:=(hown.lt g hg).1;omega
  kid:=fun j x' y' h1 h2=>by
   have hl:=h.len
   by_cases hj:j<cs.length
   ·rw [List.getElem?_append_left hj] at h1
    rw [List.getElem?_append_left (by omega)] at h2
    have:=kk j x' y' h1 h2
    exact fin this
   have hj':j=cs.length:=by have:=(List.getElem?_eq_some_iff.1 h1).1;simp at this;omega
   subst hj'
   rw [List.getElem?_append_right (qr _),Nat.sub_self] at h1
   rw [hl,List.getElem?_append_right (qr _),Nat.sub_self] at h2
   simp only [qgz,Option.some.injEq] at h1 h2
   subst h1 h2
   exact fin kx }
theorem Kd.kids (h:Kd w R S z k f no A c cs ys us wx):RKids wx (fun i=>w.heap.size+2<=i/\i<wx.heap.size) A ys.length ys:=by
 obtain ⟨A',c',he,h1,h2,hr⟩:=own_formK h.own
 injection he with e1 _ e2
 subst e1 e2
 exact ⟨cs,rfl,h.len,hr.more fun i hi=>by have:=h.own.lt i hi;omega,fun j x y h1 h2=>(h.kid j x y h1 h2).more fun i hi=>by omega⟩
theorem Kd.cap (h:Kd w R S z k f no A c cs ys us wx):ys.length<=c/\c<=maxLen:=by
 obtain ⟨A',c',he,h1,h2,hr⟩:=own_formK h.own
 injection he with e1 _ e2
 subst e1 e2
 exact ⟨h1,h2⟩
end
end
end Go.Proofs.YtedbhlgjcnnknaaGreatDoor
