/- Parts. -/
import Derived.Test.YtedbhlgjcnnknaaGreatDoorQ18
set_option linter.unusedVariables false
set_option linter.unusedSimpArgs false
set_option linter.unusedSectionVars false
set_option maxRecDepth 100000
set_option maxHeartbeats 12800000
namespace Go.Proofs.YtedbhlgjcnnknaaGreatDoor
section
open Go.RowKit Qm
structure Eb (w:World) (A:Option Addr) (n c:Nat) (wv:List Value) (wx:World):Prop where
 t:Whole wx w.heap.size 24 [.slice A n c]
 wi:Whole wx (w.heap.size+1) 30 wv
 r:Whole wx (w.heap.size+1+1) 33 [.int .i64 0,.slice none 0 0]
 bel:Below w.heap.size w wx
section
variable {w : World} {A : Option Addr} {n c : Nat} {wv : List Value} {wx wy : World}
theorem Eb.below {B:Nat} (h:Eb w A n c wv wx) (hb:Below B wx wy) (hB:w.heap.size+1+1<B):Eb w A n c wv wy:=
 ⟨h.t.below hb (by omega),h.wi.below hb (by omega),h.r.below hb hB,h.bel.trans (hb.mono (by omega))⟩
theorem Eb.move (h:Eb w A n c wv wx) (hb:Below wx.heap.size wx wy):Eb w A n c wv wy:=h.below hb h.r.lt
theorem Eb.new (w:World) (A:Option Addr) (n c:Nat) (wv:List Value):Eb w A n c wv (((w.alloc (.cells #[.slice A n c] 24)).alloc (.cells wv.toArray 30)).alloc (.cells #[.int .i64 0,.slice none 0 0] 33)):=
 ⟨((Whole.new w _ _ [_] rfl).alloc _).alloc _,(Whole.new (w.alloc (.cells #[.slice A n c] 24)) (w.heap.size+1) _ wv (by simp)).alloc _,Whole.new ((w.alloc (.cells #[.slice A n c] 24)).alloc (.cells wv.toArray 30)) (w.heap.size+1+1) _ [_,_] (by simp),
  (((qbr _ w).alloc (qr _) _).alloc (by simp) _).alloc (by simp;omega) _⟩
end
theorem Desk.pA {q:Dp} {E:Nat->Prop} {mp:Nat} {d:Dk} {w:World} (h:Desk q E mp d w) (hn:0<q.n):∃ b o,q.pA=some ⟨b,o,none⟩:=by
 obtain ⟨b,o,h1,_⟩:=h.st.pick.at_ hn;exact ⟨b,o,h1⟩
theorem Desk.pk {q:Dp} {E:Nat->Prop} {mp:Nat} {d:Dk} {w:World} {b o i:Nat} (h:Desk q E mp d w) (hp:q.pA=some ⟨b,o,none⟩) (hi:i<q.n) :
  w.cell? ⟨q.b,1,none⟩=some (.slice (some ⟨b,o,none⟩) q.n q.pc)/\w.cell? ⟨b,o+i,none⟩=some (.int .i64 (q.X.pick i))/\b<w.heap.size/\q.b<w.heap.size:=by
 have hl:=h.len
 obtain ⟨b2,o2,h1,hb,hc⟩:=h.st.pick.at_ hi
 rw [hp] at h1
 injection h1 with h1;injection h1 with h1 h2
 subst h1 h2
 have hx:(picksX q.X q.ps).getD i 0=q.X.pick i:=by
  unfold picksX
  rw [qgd,qgm,List.getElem?_range (by omega)];rfl
 rw [hx] at hc
 have hs:=h.s1 _ hb
 obtain ⟨P,hs',h⟩:=h
 have c1:=h.blk.cell 1
 simp only [qgz,qgs] at c1
 rw [hp] at c1
 exact ⟨c1,hc,hs,h.blk.lt⟩
theorem dadd_new (q:Dp) (E:Nat->Prop) (mp:Nat) (d:Dk) (xs:List Int) (m:Nat) (w:World) (hD:Desk q E mp d w) (hm:xs.length=m) (hm2:m<=100) (hcl:d.cls.length<=100000) :
  Calls Tryz.prog 45 #[.pointer (some ⟨q.b,0,none⟩),.slice (some ⟨w.heap.size,0,none⟩) m m] (w.alloc (.cells (xs.map (Value.int .i64)).toArray 3)) fun e w'=>e=.returned (.tuple #[])/\Desk q E mp (addD d xs) w'/\Fd q E w w':=by
 have hal:Below w.heap.size w (w.alloc (.cells (xs.map (Value.int .i64)).toArray 3)):=(qbr _ _).alloc (qr _) _
 refine (dadd_any q E (fun j=>j=w.heap.size) mp d (some ⟨w.heap.size,0,none⟩) m m xs _ ((hD.aside hal).mono fun j hj=>hj.imp id fun hj=>by subst hj;simp) (Whole.ints (S:=fun j=>j=w.heap.size) (Whole.new w w.heap.size 3 _ rfl) rfl hm) ⟨qr _,by unfold maxLen;omega⟩ (fun j hj he=>by subst hj;have:=(hD.e _ he).2;omega) hcl).mono ?_
 rintro e w' ⟨rfl,h1,h2⟩
 exact ⟨rfl,h1,(Fd.of_below q E hal).trans h2 fun _ _ h=>.inl h⟩
def encN (ps:List Pk) (v:Ws):Nat:=if ckWish ps v=0 then (encW ps v).vars else 0
def encC (ps:List Pk) (v:Ws):List (List Int):=if ckWish ps v=0 then (encW ps v).cls else []
def EncodeP (ps:List Pk) (v:Ws) (w:World) (e:Ending) (w':World):Prop:=
 ∃ F cF,e=.returned (.tuple #[.agg #[.int .i64 (encN ps v:Int),.slice F (encC ps v).length cF],.int .i64 (ckWish ps v)])/\RClauses w' (fun k=>w.heap.size<=k/\k<w'.heap.size) F (encC ps v).length (encC ps v)/\(encC ps v).length<=cF/\cF<=maxLen/\Below w.heap.size w w'
theorem encode_any (ps:List Pk) (v:Ws) (S:Nat->Prop) (A:Option Addr) (n c:Nat) (A1 A2 A3 A4:Option Addr) (n1 c1 n2 c2 n3 c3 n4 c4:Nat) (w:World) (hT:RTree w S A n ps) (hnc:n<=c) (hc:c<=maxLen) (hV:WsAt w S A1 n1 c1 A2 n2 c2 A3 n3 c3 A4 n4 c4 v) (hS:∀ k,S k->k<w.heap.size) :
  Calls Tryz.prog 12 #[.agg #[.slice A n c],.agg #[.slice A1 n1 c1,.slice A2 n2 c2,.slice A3 n3 c3,.slice A4 n4 c4]] w (EncodeP ps v w):=by
 have X0:=qh (Eb.new w A n c [.slice A1 n1 c1,.slice A2 n2 c2,.slice A3 n3 c3,.slice A4 n4 c4])
 have HT:=qh hT;have HS:=qh hS;have HW:=qh hV
 have HCC:=qh (And.intro hnc hc)
 have Hlt:=qh (fun (wx:World) (hb:Below w.heap.size w wx) k hk=>ql (HS.out k hk) hb.size)
 have Hcw:=qh (cwish_any ps v S A n c A1 A2 A3 A4 n1 c1 n2 c2 n3 c3 n4 c4 _ (HT.out.under X0.out.bel HS.out) hnc hc (HW.out.under X0.out.bel HS.out) (Hlt.out _ X0.out.bel))
 have Hch:=qh (fun (wx:World) (hb:Below w.heap.size w wx)=>choices_any ps v S A n c A1 n1 c1 A2 n2 c2 A3 n3 c3 A4 n4 c4 wx (HT.out.under hb HS.out) hnc hc (HW.out.under hb HS.out) (Hlt.out _ hb))
 unfold maxLen at hc
 clear hT hV hS
 obtain ⟨z,hz⟩:∃ z,z=ckWish ps v:=⟨_,rfl⟩
 rw [<- hz] at Hcw
 have HZ:=qh hz
 clear hz
 go_enter Tryz.func12,Tryz.ntmps12
 by_cases h0:z=0
 ·subst h0
  go_wp2_with (first | (go_at_call 34;refine Hcw.out.mono ?_;rintro e w2 ⟨rfl,hb2⟩;refine Hid.out ?_))
  refine qh ?_
  have X2:=qh (X0.out.move hb2)
  have HC2:=qh (Hch.out _ X2.out.bel HZ.out.symm)
  have t0:=X2.out.t.cell 0
  obtain ⟨v0,v1,v2,v3⟩:=ch4 X2.out.wi.cell
  have rlt:=X2.out.r.lt
  have wlt:=X2.out.wi.lt
  have tlt:=X2.out.t.lt
  simp only [qgz,qgs] at t0 v0 v1 v2 v3
  clear hb2 Hcw Hch X0
  go_wp2_with (first | (go_at_call 44;refine HC2.out.mono ?_;rintro e w3 ⟨q,hq1,hq2,hq3,hq4,hq5,hq6,hq7,rfl,hd3,hb3⟩;refine Hid.out ?_))
  refine qh ?_
  subst hq3 hq5
  have HA0:=qh hq2;have HX:=qh hq6;have HS0:=qh hq7;have HBS:=qh hq1
  have X3:=qh (X2.out.move hb3)
  have HD3:=qh hd3
  have HLen:=qh hd3.len
  have WP:=qh (wish_parts HZ.out.symm)
  have EO:=encW_ok HZ.out.symm
  obtain ⟨D0,hD0⟩:∃ x:Dk,x=⟨manyC q.ps,[],fun _ _=>0⟩:=⟨_,rfl⟩
  have henc:encW q.ps v=tgtsD q.X q.ps v.ts (pksD q.X q.ps (masksD q.X v.ms D0) q.n):=by
   unfold encW encD
   rw [hD0,hq6,<- hd3.len]
  have HFV:Hid ((tgtsD q.X q.ps v.ts (pksD q.X q.ps (masksD q.X v.ms D0) q.n)).vars<=400):=qh (by rw [<- henc];exact EO.n400)
  have HFC:Hid ((tgtsD q.X q.ps v.ts (pksD q.X q.ps (masksD q.X v.ms D0) q.n)).cls.length<=4000):=qh (by rw [<- henc];exact EO.len)
  have HIN0:Hid (DIn q.X q.ps D0):=qh (by rw [hD0,hq6];exact DIn.start WP.out.ok)
  have h8:q.n<=8:=by rw [<- HLen.out];exact (tree_parts WP.out.tree).1
  have HENC:=qh henc
  rw [<- hD0] at HD3
  have h3q:w.heap.size+1+1<q.base:=by have:=X2.out.r.lt;omega
  have HMK:=qh (ckMask_in WP.out.ms)
  have HN3:Hid (v.ms.length=n3):=qh HW.out.ms.len
  have hn8:n3<=100:=by have:=ckMask_short WP.out.ms;have:=HN3.out;have:=HLen.out;omega
  have hb3s:=hb3.size
  have v2:=X3.out.wi.cell 2
  have wlt:=X3.out.wi.lt
  simp only [qgz,qgs] at v2
  clear EO henc hD0 hd3 hb3 hq1 hq2 hq6 hq7 HC2 t0 v0 v1 v3 rlt tlt X2
  go_wp2
  go_loopg [29] n3 (fun g iv wr=>∃ j:Nat,Hid (j+g=n3)/\iv=.int .i64 j/\Hid (Desk q (fun _=>False) 0 (masksD q.X (v.ms.take j) D0) wr)/\Hid (Fd q (fun _=>False) w3 wr))
  case atStart=>exact ⟨0,qh (Nat.zero_add _),rfl,HD3,qh (Fd.refl _ _ _)⟩
  case round =>
   obtain ⟨j,Hj,rfl,HD,HF⟩:=hrel
   have hq3s:=HD3.out.base_
   clear v2
   have X4:=qh (X3.out.below (HF.out.below hq3s) h3q)
   by_cases hj:j<n3
   ·obtain ⟨b2,o2,rfl,hbS,hcell⟩:=(HW.out.ms.below X4.out.bel HS.out).at_ hj
    have hjl:j<v.ms.length:=by rw [HN3.out];exact hj
    have hget:v.ms[j]? = some (v.ms.getD j 0):=by rw [qgd,qge hjl];rfl
    have hkin:=HMK.out _ (List.mem_of_getElem? hget)
    have hst:=masksD_take (X:=q.X) (d:=D0) hget
    have hpre:=masksD_pre (X:=q.X) (d:=D0) (ms:=v.ms) (j+1)
    obtain ⟨k,hk⟩:∃ k,k=v.ms.getD j 0:=⟨_,rfl⟩
    rw [<- hk] at hcell hkin hst
    obtain ⟨p,rfl⟩:∃ p:Nat,k=p:=⟨k.toNat,by omega⟩
    rw [Int.toNat_natCast] at hst
    have hpn:p<q.n:=by have:=HLen.out;omega
    obtain ⟨b3,o3,hpA⟩:=HD.out.pA (by omega)
    obtain ⟨p1,p2,p3,p4⟩:=HD.out.pk hpA hpn
    have hpb:=HIN0.out.pick p (by rw [HLen.out];exact hpn)
    have hD0v:D0.vars<=400:=qlt (((masksD_le q.X v.ms D0).trans (pksD_pre (X:=q.X) (ps:=q.ps) (d:=masksD q.X v.ms D0) (j:=0) (n:=q.n) (Nat.zero_le _))).trans (tgtsD_le q.X q.ps v.ts _)).1 HFV.out
    have hcl:(masksD q.X (v.ms.take j) D0).cls.length<=100000:=by
     have h1:=(masksD_pre (X:=q.X) (d:=D0) (ms:=v.ms) j).2
     have h2:=(pksD_pre (X:=q.X) (ps:=q.ps) (d:=masksD q.X v.ms D0) (j:=0) (n:=q.n) (Nat.zero_le _)).2
     have h3:=(tgtsD_le q.X q.ps v.ts (pksD q.X q.ps (masksD q.X v.ms D0) q.n)).2
     have:=HFC.out
     rw [pksD] at h2
     omega
    obtain ⟨x,hx⟩:∃ x,x=q.X.pick p:=⟨_,rfl⟩
    rw [<- hx] at p2 hst hpb
    have hxb : -200000<=x/\x<=200000:=by omega
    have HST:=qh hst
    have HA:=qh (dadd_new q (fun _=>False) 0 _ [-x] 1 wr HD.out rfl (by omega) hcl)
    have hb2l:b2<wr.heap.size:=ql (HS.out _ hbS) X4.out.bel.size
    have hpn1:(p:Int)<q.n:=by omega
    have hp0:(0:Int)<=(p:Int):=by omega
    clear hjl hget hkin hst hpre hpA hpb hD0v hcl hx hk hbS
    go_wp2_with (first | (go_at_call 45;refine HA.out.mono ?_;rintro e w5 ⟨rfl,hd5,hf5⟩;refine Hid.out ?_))
    refine qh ?_
    have HD5:=qh hd5
    have HF5:=qh (HF.out.trans hf5 fun _ _ h=>h)
    clear hd5 hf5 HA p1 p2 p3 p4
    go_wp2
    go_roundg (gk - 1)
    case measure=>have:=Hj.out;omega
    case rel=>exact ⟨j+1,qh (by have:=Hj.out;omega),by go_num,qh (by rw [HST.out];exact HD5.out),HF5⟩
   obtain rfl:n3=j:=by have:=Hj.out;omega
   have hfull:v.ms.take n3=v.ms:=List.take_of_length_le (by rw [HN3.out];exact qr _)
   rw [hfull] at HD
   obtain ⟨D1,hD1⟩:∃ x,x=masksD q.X v.ms D0:=⟨_,rfl⟩
   have HIN1:Hid (DIn q.X q.ps D1):=qh (by rw [hD1];exact masksD_in _ _ HIN0.out)
   rw [<- hD1] at HD HFV HFC HENC
   obtain ⟨w4,hw4⟩:∃ x,x=wr:=⟨_,rfl⟩
   rw [<- hw4] at HD HF X4 ⊢
   have t0:=X4.out.t.cell 0
   have tlt:=X4.out.t.lt
   simp only [qgz] at t0
   clear hfull hD1 hw4 HIN0
   go_wp2
   go_loopg [48] q.n (fun g iv wr=>∃ (i mp:Nat),Hid (i+g=q.n)/\iv=.int .i64 i/\Hid (mp<=160 * i)/\Hid (Desk q (fun _=>False) mp (pksD q.X q.ps D1 i) wr)/\Hid (Fd q (fun _=>False) w3 wr))
   case atStart=>exact ⟨0,0,qh (Nat.zero_add _),rfl,qh (qr _),HD,HF⟩
   case round =>
    obtain ⟨g3,rfl⟩:∃ x:Nat,x=gk:=⟨_,rfl⟩
    obtain ⟨i,mp,Hi,rfl,HMP,HDr,HFr⟩:=hrel
    clear HD HF X4 t0 tlt
    have X5:=qh (X3.out.below (HFr.out.below hq3s) h3q)
    by_cases hi:i<q.n
    ·obtain ⟨b2,o2,p,F,fn,fc,kd,pa,pf,pno,G,gq,gd,rfl,hbS2,hp,hP,hcell⟩:=(HT.out.under X5.out.bel HS.out).at_ hi
     have hpk:pkOf q.ps (i:Int)=p:=pkOf_at hp
     obtain ⟨g0,g1,g2,g3,g4,g5,g6,g7,g8,g9,g10,g11,g12,g13⟩:=cb14 hcell (by decide)
     unfold pkRow ndRow at g0 g1 g2 g3 g4 g5 g6 g7 g8 g9 g10 g11 g12 g13
     simp only [qgz,qgs,Nat.add_zero] at g0 g1 g2 g3 g4 g5 g6 g7 g8 g9 g10 g11 g12 g13
     have hal:Below wr.heap.size wr (wr.alloc (.cells #[.string ⟨p.nm.toArray⟩,.int .i64 p.ver,.int .i64 p.slot,.slice F fn fc,.int .i64 kd,.string ⟨pa.nm.toArray⟩,.int .i64 pa.op,.int .i64 pa.ver,.int .i64 pa.slot,.string ⟨pa.fl.toArray⟩,.bool pa.on,.string ⟨pf.toArray⟩,.bool pno,.slice G gq gd] 101)):=(qbr _ wr).alloc (qr _) _
     have HDE:Hid (Desk q (fun j=>j=wr.heap.size) mp (confTo q.X q.ps i (pksD q.X q.ps D1 i) 0) (wr.alloc (.cells #[.string ⟨p.nm.toArray⟩,.int .i64 p.ver,.int .i64 p.slot,.slice F fn fc,.int .i64 kd,.string ⟨pa.nm.toArray⟩,.int .i64 pa.op,.int .i64 pa.ver,.int .i64 pa.slot,.string ⟨pa.fl.toArray⟩,.bool pa.on,.string ⟨pf.toArray⟩,.bool pno,.slice G gq gd] 101))):=qh ((HDr.out.aside hal).mono fun j hj=>by subst hj;exact .inr ⟨qr _,by simp⟩)
     have HB5:=qh (Whole.new wr wr.heap.size 101 [.string ⟨p.nm.toArray⟩,.int .i64 p.ver,.int .i64 p.slot,.slice F fn fc,.int .i64 kd,.string ⟨pa.nm.toArray⟩,.int .i64 pa.op,.int .i64 pa.ver,.int .i64 pa.slot,.string ⟨pa.fl.toArray⟩,.bool pa.on,.string ⟨pf.toArray⟩,.bool pno,.slice G gq gd] rfl)
     have HF5:=qh (HFr.out.trans (Fd.of_below q (fun _=>False) hal) fun _ _ h=>h)
     have X6:=qh (X5.out.move hal)
     have HP:=qh hP
     have HPK:=qh hpk
     have hbl2:b2<wr.heap.size:=ql (HS.out _ hbS2) X5.out.bel.size
     have t0:=X6.out.t.cell 0
     have tlt:=X6.out.t.lt
     have hsB:wr.heap.size<(wr.alloc (.cells #[.string ⟨p.nm.toArray⟩,.int .i64 p.ver,.int .i64 p.slot,.slice F fn fc,.int .i64 kd,.string ⟨pa.nm.toArray⟩,.int .i64 pa.op,.int .i64 pa.ver,.int .i64 pa.slot,.string ⟨pa.fl.toArray⟩,.bool pa.on,.string ⟨pf.toArray⟩,.bool pno,.slice G gq gd] 101)).heap.size:=by simp
     have hin1:(i:Int)<=c:=by have:=HCC.out.1;omega
     have hi1:(i:Int)<q.n:=by omega
     have hi0:(0:Int)<=(i:Int):=by omega
     have hic:i<=c:=by have:=HCC.out.1;omega
     simp only [qgz] at t0
     have hdi:=pksD_in HIN1.out i (by rw [HLen.out];omega)
     have HIi:=qh hdi
     have hpp:=pksD_pre (X:=q.X) (ps:=q.ps) (d:=D1) (j:=i+1) (n:=q.n) (by omega)
     have htt:=tgtsD_le q.X q.ps v.ts (pksD q.X q.ps D1 q.n)
     have hpd:pksD q.X q.ps D1 (i+1)=pkD q.X q.ps i (pksD q.X q.ps D1 i):=rfl
     rw [hpd] at hpp
     have HPD:=qh hpd
     obtain ⟨Di,hDi⟩:∃ x,x=pksD q.X q.ps D1 i:=⟨_,rfl⟩
     rw [<- hDi] at HDE HIi hpp HPD
     have HLE:Hid (DLe (pkD q.X q.ps i Di) (tgtsD q.X q.ps v.ts (pksD q.X q.ps D1 q.n))):=qh (hpp.trans htt)
     obtain ⟨pb,hpb⟩:∃ x,x=wr.heap.size:=⟨_,rfl⟩
     rw [<- hpb] at HDE HB5 hsB
     have HPBE:=qh hpb
     have HPB:Hid (q.base<=pb):=qh (by rw [hpb];exact qlt hq3s HFr.out.size)
     clear hcell hp hP hpk hbS2 hal hpp htt hpd hDi hdi HDr
     go_wp2
     generalize wr.alloc (.cells #[.string ⟨p.nm.toArray⟩,.int .i64 p.ver,.int .i64 p.slot,.slice F fn fc,.int .i64 kd,.string ⟨pa.nm.toArray⟩,.int .i64 pa.op,.int .i64 pa.ver,.int .i64 pa.slot,.string ⟨pa.fl.toArray⟩,.bool pa.on,.string ⟨pf.toArray⟩,.bool pno,.slice G gq gd] 101)=w5 at HDE HB5 HF5 X6 hsB ⊢
     clear g0 g1 g2 g3 g4 g5 g6 g7 g8 g9 g10 g11 g12 g13 t0 tlt hbl2 X5
     rw [<- HPBE.out]
     clear hpb
     obtain ⟨pA,pO,hpA⟩:=HDE.out.pA (by omega)
     have HPA:=qh hpA
     clear hpA
     go_loopg [58] i (fun g iv wr=>∃ k:Nat,Hid (k+g=i)/\iv=.int .i64 k/\Hid (Desk q (fun j=>j=pb) mp (confTo q.X q.ps i Di k) wr)/\Hid (Whole wr pb 101 [.string ⟨p.nm.toArray⟩,.int .i64 p.ver,.int .i64 p.slot,.slice F fn fc,.int .i64 kd,.string ⟨pa.nm.toArray⟩,.int .i64 pa.op,.int .i64 pa.ver,.int .i64 pa.slot,.string ⟨pa.fl.toArray⟩,.bool pa.on,.string ⟨pf.toArray⟩,.bool pno,.slice G gq gd])/\Hid (Fd q (fun _=>False) w3 wr))
     case atStart=>exact ⟨0,qh (Nat.zero_add _),rfl,HDE,HB5,HF5⟩
     case round =>
      obtain ⟨k,Hk,rfl,HDk,HBk,HFk⟩:=hrel
      clear HDE HB5 HF5 X6 hsB
      have X7:=qh (X3.out.below (HFk.out.below hq3s) h3q)
      by_cases hk:k<i
      ·obtain ⟨b9,o9,r,F2,fn2,fc2,kd2,pa2,pf2,pno2,G2,gq2,gd2,hA9,hbS2,hp,hP2,hcell⟩:=(HT.out.under X7.out.bel HS.out).at_ (j:=k) (by omega)
       obtain ⟨rfl,rfl⟩:b2=b9/\o2=o9:=by injection hA9 with h;injection h with h1 h2;exact ⟨h1,h2⟩
       have hpk2:pkOf q.ps (k:Int)=r:=pkOf_at hp
       obtain ⟨e0,e1,e2,e3,e4,e5,e6,e7,e8,e9,e10,e11,e12,e13⟩:=cb14 hcell (by decide)
       unfold pkRow ndRow at e0 e1 e2 e3 e4 e5 e6 e7 e8 e9 e10 e11 e12 e13
       simp only [qgz,qgs,Nat.add_zero] at e0 e1 e2 e3 e4 e5 e6 e7 e8 e9 e10 e11 e12 e13
       have hal:Below wr.heap.size wr (wr.alloc (.cells #[.string ⟨r.nm.toArray⟩,.int .i64 r.ver,.int .i64 r.slot,.slice F2 fn2 fc2,.int .i64 kd2,.string ⟨pa2.nm.toArray⟩,.int .i64 pa2.op,.int .i64 pa2.ver,.int .i64 pa2.slot,.string ⟨pa2.fl.toArray⟩,.bool pa2.on,.string ⟨pf2.toArray⟩,.bool pno2,.slice G2 gq2 gd2] 101)):=(qbr _ wr).alloc (qr _) _
       have HD6:=qh (HDk.out.move hal)
       have HB6:=qh (HBk.out.below hal HBk.out.lt)
       have HF6:=qh (HFk.out.trans (Fd.of_below q (fun _=>False) hal) fun _ _ h=>h)
       have HR6:=qh (Whole.new wr wr.heap.size 101 [.string ⟨r.nm.toArray⟩,.int .i64 r.ver,.int .i64 r.slot,.slice F2 fn2 fc2,.int .i64 kd2,.string ⟨pa2.nm.toArray⟩,.int .i64 pa2.op,.int .i64 pa2.ver,.int .i64 pa2.slot,.string ⟨pa2.fl.toArray⟩,.bool pa2.on,.string ⟨pf2.toArray⟩,.bool pno2,.slice G2 gq2 gd2] rfl)
       have hbl2:b2<wr.heap.size:=ql (HS.out _ hbS2) X7.out.bel.size
       have hpb1:=HBk.out.lt
       have p0:=HBk.out.cell 0;have p2:=HBk.out.cell 2
       have r0:=HR6.out.cell 0;have r2:=HR6.out.cell 2
       simp only [qgz,qgs] at p0 p2 r0 r2
       have hki:(k:Int)<i:=by omega
       have hk0:(0:Int)<=(k:Int):=by omega
       have hst:confTo q.X q.ps i Di (k+1)=if sameB q.ps i k=true then addD (confTo q.X q.ps i Di k) [-q.X.pick i,-q.X.pick k] else confTo q.X q.ps i Di k:=rfl
       have hsb:sameB q.ps i k=(decide (p.nm=r.nm) && decide (p.slot=r.slot)):=by unfold sameB;rw [HPK.out,hpk2]
       have HST:=qh hst;have HSB:=qh hsb
       clear hcell hp hP2 hpk2 hbS2 hal hA9 hst hsb
       by_cases hnm:p.nm=r.nm
       ·have hnm2:(p.nm == r.nm)=true:=by simpa using hnm
        by_cases hsl:p.slot=r.slot
        ·have hsl2:(p.slot == r.slot)=true:=by simpa using hsl
         have HN:Hid (confTo q.X q.ps i Di (k+1)=addD (confTo q.X q.ps i Di k) [-q.X.pick i,-q.X.pick k]):=qh (by rw [HST.out,if_pos (by rw [HSB.out,qdt hnm,qdt hsl];rfl)])
         obtain ⟨c1,c2,c3,c4⟩:=HD6.out.pk HPA.out hi
         obtain ⟨_,c5,_,_⟩:=HD6.out.pk HPA.out (i:=k) (by omega)
         have hxb:=HIi.out.pick i (by rw [HLen.out];omega)
         have hyb:=HIi.out.pick k (by rw [HLen.out];omega)
         have hdv:Di.vars<=400:=qlt ((pkD_le q.X q.ps i Di).trans HLE.out).1 HFV.out
         have hcl:(confTo q.X q.ps i Di k).cls.length<=100000:=by
          have h1:=(confTo_pre (X:=q.X) (ps:=q.ps) (d:=Di) (i:=i) (j:=k) (n:=i) (by omega)).2
          have h2:=(needD_le q.X q.ps i (pkOf q.ps i).nd (confTo q.X q.ps i Di i)).2
          have h3:=(addD_le (needD q.X q.ps i (pkOf q.ps i).nd (confTo q.X q.ps i Di i)).1 [-q.X.pick i,(needD q.X q.ps i (pkOf q.ps i).nd (confTo q.X q.ps i Di i)).2]).2
          have h4:=HLE.out.2
          have:=HFC.out
          unfold pkD at h4
          omega
         obtain ⟨x,hx⟩:∃ x,x=q.X.pick i:=⟨_,rfl⟩
         obtain ⟨y,hy⟩:∃ y,y=q.X.pick k:=⟨_,rfl⟩
         rw [<- hx] at c2 hxb HN
         rw [<- hy] at c5 hyb HN
         have hxb2 : -200000<=x/\x<=200000:=by omega
         have hyb2 : -200000<=y/\y<=200000:=by omega
         have hwx:IntKind.i64.wrap (-x) = -x:=IntWalk.i64_in _ (by omega)
         have hwy:IntKind.i64.wrap (-y) = -y:=IntWalk.i64_in _ (by omega)
         have HCL:=qh hcl
         have Hnm:=qh hnm;have Hsl:=qh hsl
         have hkq:(k:Int)<q.n:=by omega
         have HXI:=qh hx;have HYK:=qh hy
         clear hxb hyb hdv hx hy hcl hnm hsl
         go_upto_region 17 with fail
         generalize wr.alloc (.cells #[.string ⟨r.nm.toArray⟩,.int .i64 r.ver,.int .i64 r.slot,.slice F2 fn2 fc2,.int .i64 kd2,.string ⟨pa2.nm.toArray⟩,.int .i64 pa2.op,.int .i64 pa2.ver,.int .i64 pa2.slot,.string ⟨pa2.fl.toArray⟩,.bool pa2.on,.string ⟨pf2.toArray⟩,.bool pno2,.slice G2 gq2 gd2] 101)=w6 at HD6 HB6 HF6 c1 c2 c3 c4 c5 p0 p2 r0 r2 ⊢
         have HD7:=qh (HD6.out.move (below_drewN (qbr _ w6) 1))
         have HA:=qh (dadd_new q (fun j=>j=pb) mp _ [-x,-y] 2 w6.drew HD7.out rfl (by omega) HCL.out)
         refine wp_region_held_drew (S:=(fun w'=>w'.cell? ⟨q.b,1,none⟩=some (.slice (some ⟨pA,pO,none⟩) q.n q.pc)/\w'.cell? ⟨pA,pO+i,none⟩=some (.int .i64 x)/\w'.cell? ⟨pA,pO+k,none⟩=some (.int .i64 y))) (by kernel_rfl) (⟨c1,c2,c5⟩) (fun hHeld=>?_)
         first|(refine tkA (v:=?_) held_at0 ?_ ?_;rotate_left;focus (intro _ h;(try dsimp only at h);go_simp;(try with_reducible rfl);done))|refine tkB held_at0 ?_
         (try simp only [Act.put,qsa,qsz,qss])
         first|(refine tkA (v:=?_) held_at1 ?_ ?_;rotate_left;focus (intro _ h;(try dsimp only at h);go_simp;(try with_reducible rfl);done))|refine tkB held_at1 ?_
         (try simp only [Act.put,qsa,qsz,qss])
         first|(refine tkA (v:=?_) held_at2 ?_ ?_;rotate_left;focus (intro _ h;(try dsimp only at h);go_simp;(try with_reducible rfl);done))|refine tkB held_at2 ?_
         (try simp only [Act.put,qsa,qsz,qss])
         first|(refine tkA (v:=?_) held_at3 ?_ ?_;rotate_left;focus (intro _ h;(try dsimp only at h);go_simp;(try with_reducible rfl);done))|refine tkB held_at3 ?_
         (try simp only [Act.put,qsa,qsz,qss])
         first|(refine tkA (v:=?_) held_at4 ?_ ?_;rotate_left;focus (intro _ h;(try dsimp only at h);go_simp;(try with_reducible rfl);done))|refine tkB held_at4 ?_
         (try simp only [Act.put,qsa,qsz,qss])
         first|(refine tkA (v:=?_) held_at5 ?_ ?_;rotate_left;focus (intro _ h;(try dsimp only at h);go_simp;(try with_reducible rfl);done))|refine tkB held_at5 ?_
         (try simp only [Act.put,qsa,qsz,qss])
         first|(refine tkA (v:=?_) held_at6 ?_ ?_;rotate_left;focus (intro _ h;(try dsimp only at h);go_simp;(try with_reducible rfl);done))|refine tkB held_at6 ?_
         (try simp only [Act.put,qsa,qsz,qss])
         first|(refine tkA (v:=?_) held_at7 ?_ ?_;rotate_left;focus (intro _ h;(try dsimp only at h);go_simp;(try with_reducible rfl);done))|refine tkB held_at7 ?_
         (try simp only [Act.put,qsa,qsz,qss])
         first|(refine tkA (v:=?_) held_at8 ?_ ?_;rotate_left;focus (intro _ h;(try dsimp only at h);go_simp;(try with_reducible rfl);done))|refine tkB held_at8 ?_
         (try simp only [Act.put,qsa,qsz,qss])
         first|(refine tkA (v:=?_) held_at9 ?_ ?_;rotate_left;focus (intro _ h;(try dsimp only at h);go_simp;(try with_reducible rfl);done))|refine tkB held_at9 ?_
         (try simp only [Act.put,qsa,qsz,qss])
         first|(refine tkA (v:=?_) held_at10 ?_ ?_;rotate_left;focus (intro _ h;(try dsimp only at h);go_simp;(try with_reducible rfl);done))|refine tkB held_at10 ?_
         (try simp only [Act.put,qsa,qsz,qss])
         first|(refine tkA (v:=?_) held_at11 ?_ ?_;rotate_left;focus (intro _ h;(try dsimp only at h);go_simp;(try with_reducible rfl);done))|refine tkB held_at11 ?_
         (try simp only [Act.put,qsa,qsz,qss])
         first|(refine tkA (v:=?_) held_at12 ?_ ?_;rotate_left;focus (intro _ h;(try dsimp only at h);go_simp;(try with_reducible rfl);done))|refine tkB held_at12 ?_
         (try simp only [Act.put,qsa,qsz,qss])
         first|(refine tkA (v:=?_) held_at13 ?_ ?_;rotate_left;focus (intro _ h;(try dsimp only at h);go_simp;(try with_reducible rfl);done))|refine tkB held_at13 ?_
         (try simp only [Act.put,qsa,qsz,qss])
         first|(refine tkA (v:=?_) held_at14 ?_ ?_;rotate_left;focus (intro _ h;(try dsimp only at h);go_simp;(try with_reducible rfl);done))|refine tkB held_at14 ?_
         (try simp only [Act.put,qsa,qsz,qss])
         first|(refine tkA (v:=?_) held_at15 ?_ ?_;rotate_left;focus (intro _ h;(try dsimp only at h);go_simp;(try with_reducible rfl);done))|refine tkB held_at15 ?_
         (try simp only [Act.put,qsa,qsz,qss])
         first|(refine tkA (v:=?_) held_at16 ?_ ?_;rotate_left;focus (intro _ h;(try dsimp only at h);go_simp;(try with_reducible rfl);done))|refine tkB held_at16 ?_
         (try simp only [Act.put,qsa,qsz,qss])
         refine wpAnyH_ready (rs:=[17]) (by kernel_rfl) (by simp) ?_
         refine AllReadyH.cons held_at17 (fun K hK=>?_) AllReadyH.nil
         (try simp only [qsa,qsz,qss])
         go_simp
         have hal7:Below w6.drew.heap.size w6.drew (w6.drew.alloc (.cells #[.int .i64 (-x),.int .i64 (-y)] 3)):=(qbr _ _).alloc (qr _) _
         have HD8:=qh (HD7.out.move hal7)
         refine hK.out _ _ ⟨(HD8.out.pk HPA.out hi).1,(hal7.cell (p:=⟨pA,pO+i,none⟩) c3).trans c2,(hal7.cell (p:=⟨pA,pO+k,none⟩) c3).trans c5⟩ (fun hHeld=>?_)
         clear hK K
         (try simp only [Act.put,qsa,qsz,qss])
         refine wpAnyH_ready (rs:=[18]) (by kernel_rfl) (by simp) ?_
         refine AllReadyH.cons held_at18 (fun K hK=>?_) AllReadyH.nil
         (try simp only [qsa,qsz,qss])
         go_simp
         go_at_call 45
         refine HA.out.mono ?_
         rintro e w9 ⟨rfl,hd9,hf9⟩
         have HD9:=qh hd9
         have HB9:=qh (hf9.whole HB6.out.drew rfl)
         have HF9:Hid (Fd q (fun _=>False) w3 w9):=qh (Fd.trans (Far.drew HF6.out) (Fd.mono (E':=fun _=>False) hf9 fun _ h=>h.elim) fun _ _ h=>h)
         have q9:=HD9.out.pk HPA.out hi
         have q9':=HD9.out.pk HPA.out (i:=k) (by omega)
         clear hd9 hf9 HA hal7 HD8
         refine hK.out _ _ ⟨q9.1,q9.2.1.trans (by rw [<- HXI.out]),q9'.2.1.trans (by rw [<- HYK.out])⟩ (fun hHeld=>?_)
         clear hK K q9 q9'
         (try simp only [Act.put,qsa,qsz,qss])
         refine wpAnyH_done (by kernel_rfl) ?_ _
         clear c1 c2 c3 c4 c5 p0 p2 r0 r2
         go_wp2
         go_roundg (gk - 1)
         case measure=>have:=Hk.out;omega
         case rel=>exact ⟨k+1,qh (by have:=Hk.out;omega),by go_num,qh (by rw [HN.out];exact HD9.out),HB9,HF9⟩
        have hsl2:(p.slot == r.slot)=false:=by simpa using hsl
        have HN:Hid (confTo q.X q.ps i Di (k+1)=confTo q.X q.ps i Di k):=qh (by rw [HST.out,if_neg (by rw [HSB.out,qdf hsl,Bool.and_false];decide)])
        clear hnm hsl
        go_wp2
        go_roundg (gk - 1)
        case measure=>have:=Hk.out;omega
        case rel=>exact ⟨k+1,qh (by have:=Hk.out;omega),by go_num,qh (by rw [HN.out];exact HD6.out),HB6,HF6⟩
       have hnm2:(p.nm == r.nm)=false:=by simpa using hnm
       have HN:Hid (confTo q.X q.ps i Di (k+1)=confTo q.X q.ps i Di k):=qh (by rw [HST.out,if_neg (by rw [HSB.out,qdf hnm,Bool.false_and];decide)])
       clear hnm
       go_wp2
       go_roundg (gk - 1)
       case measure=>have:=Hk.out;omega
       case rel=>exact ⟨k+1,qh (by have:=Hk.out;omega),by go_num,qh (by rw [HN.out];exact HD6.out),HB6,HF6⟩
      obtain rfl:i=k:=by have:=Hk.out;omega
      have b4:=HBk.out.cell 4;have b5:=HBk.out.cell 5;have b6:=HBk.out.cell 6;have b7:=HBk.out.cell 7;have b8:=HBk.out.cell 8;have b9:=HBk.out.cell 9;have b10:=HBk.out.cell 10;have b11:=HBk.out.cell 11;have b12:=HBk.out.cell 12;have b13:=HBk.out.cell 13
      simp only [qgz,qgs] at b4 b5 b6 b7 b8 b9 b10 b11 b12 b13
      have hpb1:=HBk.out.lt
      obtain ⟨c1,c2,c3,c4⟩:=HDk.out.pk HPA.out hi
      have hnd:=(tree_parts WP.out.tree).2.2 i (by rw [HLen.out];exact hi)
      have hxb:=HIi.out.pick i (by rw [HLen.out];omega)
      have hdv:Di.vars<=400:=qlt ((pkD_le q.X q.ps i Di).trans HLE.out).1 HFV.out
      have hle:=HLE.out
      unfold pkD at hle
      have hle2:=(addD_le (needD q.X q.ps i (pkOf q.ps i).nd (confTo q.X q.ps i Di i)).1 [-q.X.pick i,(needD q.X q.ps i (pkOf q.ps i).nd (confTo q.X q.ps i Di i)).2]).trans hle
      have hdin:=confTo_in HIi.out i i
      have hzi:=(needD_in (i:=i) (by rw [HLen.out];exact hi) (pkOf q.ps i).nd _ hdin).2
      have hrnd:RNd wr.drew q.S0 (ndRow kd pa pf pno G gq gd) (pkOf q.ps i).nd:=by
       rw [HS0.out,HPK.out]
       exact RNd.keep (w':=wr.drew) (hw:=fun pp hpp=>(HFk.out.old (Nat.lt_trans (HS.out _ hpp) (by omega)) hq3s).trans (HFr.out.old (Nat.lt_trans (HS.out _ hpp) (by omega)) hq3s).symm) (h:=HP.out.nd)
      have HD6:=qh (HDk.out.move (below_drewN (qbr _ wr) 1))
      have HND:=qh (dneed_any q i hi h8 (pkOf q.ps i).nd (fun j=>j=pb) mp (confTo q.X q.ps i Di i) (ndRow kd pa pf pno G gq gd) wr.drew HD6.out hdin hrnd hnd.2 hnd.1 (by have:=HMP.out;have:=hnd.1;omega) (qlt hle2.1 (qlt HFV.out (by omega))) (qlt hle2.2 (qlt HFC.out (by omega))))
      have HZV:Hid ((needD q.X q.ps i (pkOf q.ps i).nd (confTo q.X q.ps i Di i)).2.natAbs<=400):=qh (qlt hzi (qlt hle2.1 HFV.out))
      have HCV:Hid ((needD q.X q.ps i (pkOf q.ps i).nd (confTo q.X q.ps i Di i)).1.cls.length<=100000):=qh (qlt hle2.2 (qlt HFC.out (by omega)))
      have HN20:=qh hnd.1
      have HPDE:Hid (pksD q.X q.ps D1 (i+1)=addD (needD q.X q.ps i (pkOf q.ps i).nd (confTo q.X q.ps i Di i)).1 [-q.X.pick i,(needD q.X q.ps i (pkOf q.ps i).nd (confTo q.X q.ps i Di i)).2]):=qh HPD.out
      generalize (pkOf q.ps i).nd.nodes=nn at HND HN20
      generalize needD q.X q.ps i (pkOf q.ps i).nd (confTo q.X q.ps i Di i)=nr at HND HZV HCV HPDE
      obtain ⟨nd1,z⟩:=nr
      dsimp only at HZV HCV HPDE
      obtain ⟨x,hx⟩:∃ x,x=q.X.pick i:=⟨_,rfl⟩
      rw [<- hx] at c2 hxb HPDE
      have HXI:=qh hx
      have hxb2 : -200000<=x/\x<=200000:=by omega
      have hzb2 : -200000<=z/\z<=200000:=by have:=HZV.out;omega
      have hwx:IntKind.i64.wrap (-x) = -x:=IntWalk.i64_in _ (by omega)
      unfold ndRow at HND
      clear hnd hxb hdv hle hle2 hdin hzi hrnd hx
      go_upto_region 19 with fail
      refine wp_region_held_drew (S:=(fun w'=>w'.cell? ⟨q.b,1,none⟩=some (.slice (some ⟨pA,pO,none⟩) q.n q.pc)/\w'.cell? ⟨pA,pO+i,none⟩=some (.int .i64 x)/\w'.cell? ⟨pb,4,none⟩=some (.int .i64 kd)/\w'.cell? ⟨pb,5,none⟩=some (.string ⟨pa.nm.toArray⟩)/\w'.cell? ⟨pb,6,none⟩=some (.int .i64 pa.op)/\w'.cell? ⟨pb,7,none⟩=some (.int .i64 pa.ver)/\w'.cell? ⟨pb,8,none⟩=some (.int .i64 pa.slot)/\w'.cell? ⟨pb,9,none⟩=some (.string ⟨pa.fl.toArray⟩)/\w'.cell? ⟨pb,10,none⟩=some (.bool pa.on)/\w'.cell? ⟨pb,11,none⟩=some (.string ⟨pf.toArray⟩)/\w'.cell? ⟨pb,12,none⟩=some (.bool pno)/\w'.cell? ⟨pb,13,none⟩=some (.slice G gq gd))) (by kernel_rfl) (⟨c1,c2,b4,b5,b6,b7,b8,b9,b10,b11,b12,b13⟩) (fun hHeld=>?_)
      first|(refine tkA (v:=?_) held_at0 ?_ ?_;rotate_left;focus (intro _ h;(try dsimp only at h);go_simp;(try with_reducible rfl);done))|refine tkB held_at0 ?_
      (try simp only [Act.put,qsa,qsz,qss])
      first|(refine tkA (v:=?_) held_at1 ?_ ?_;rotate_left;focus (intro _ h;(try dsimp only at h);go_simp;(try with_reducible rfl);done))|refine tkB held_at1 ?_
      (try simp only [Act.put,qsa,qsz,qss])
      first|(refine tkA (v:=?_) held_at2 ?_ ?_;rotate_left;focus (intro _ h;(try dsimp only at h);go_simp;(try with_reducible rfl);done))|refine tkB held_at2 ?_
      (try simp only [Act.put,qsa,qsz,qss])
      first|(refine tkA (v:=?_) held_at3 ?_ ?_;rotate_left;focus (intro _ h;(try dsimp only at h);go_simp;(try with_reducible rfl);done))|refine tkB held_at3 ?_
      (try simp only [Act.put,qsa,qsz,qss])
      first|(refine tkA (v:=?_) held_at4 ?_ ?_;rotate_left;focus (intro _ h;(try dsimp only at h);go_simp;(try with_reducible rfl);done))|refine tkB held_at4 ?_
      (try simp only [Act.put,qsa,qsz,qss])
      first|(refine tkA (v:=?_) held_at5 ?_ ?_;rotate_left;focus (intro _ h;(try dsimp only at h);go_simp;(try with_reducible rfl);done))|refine tkB held_at5 ?_
      (try simp only [Act.put,qsa,qsz,qss])
      first|(refine tkA (v:=?_) held_at6 ?_ ?_;rotate_left;focus (intro _ h;(try dsimp only at h);go_simp;(try with_reducible rfl);done))|refine tkB held_at6 ?_
      (try simp only [Act.put,qsa,qsz,qss])
      first|(refine tkA (v:=?_) held_at7 ?_ ?_;rotate_left;focus (intro _ h;(try dsimp only at h);go_simp;(try with_reducible rfl);done))|refine tkB held_at7 ?_
      (try simp only [Act.put,qsa,qsz,qss])
      first|(refine tkA (v:=?_) held_at8 ?_ ?_;rotate_left;focus (intro _ h;(try dsimp only at h);go_simp;(try with_reducible rfl);done))|refine tkB held_at8 ?_
      (try simp only [Act.put,qsa,qsz,qss])
      first|(refine tkA (v:=?_) held_at9 ?_ ?_;rotate_left;focus (intro _ h;(try dsimp only at h);go_simp;(try with_reducible rfl);done))|refine tkB held_at9 ?_
      (try simp only [Act.put,qsa,qsz,qss])
      first|(refine tkA (v:=?_) held_at10 ?_ ?_;rotate_left;focus (intro _ h;(try dsimp only at h);go_simp;(try with_reducible rfl);done))|refine tkB held_at10 ?_
      (try simp only [Act.put,qsa,qsz,qss])
      first|(refine tkA (v:=?_) held_at11 ?_ ?_;rotate_left;focus (intro _ h;(try dsimp only at h);go_simp;(try with_reducible rfl);done))|refine tkB held_at11 ?_
      (try simp only [Act.put,qsa,qsz,qss])
      first|(refine tkA (v:=?_) held_at12 ?_ ?_;rotate_left;focus (intro _ h;(try dsimp only at h);go_simp;(try with_reducible rfl);done))|refine tkB held_at12 ?_
      (try simp only [Act.put,qsa,qsz,qss])
      refine wpAnyH_ready (rs:=[13]) (by kernel_rfl) (by simp) ?_
      refine AllReadyH.cons held_at13 (fun K hK=>?_) AllReadyH.nil
      (try simp only [qsa,qsz,qss])
      go_simp
      go_at_call 46
      refine HND.out.mono ?_
      rintro e w7 ⟨rfl,mp7,hd7,hf7,hp7⟩
      have HD7:=qh hd7
      have HB7:=qh (hf7.whole HBk.out.drew rfl)
      have HF7:Hid (Fd q (fun _=>False) w3 w7):=qh (Fd.trans (Far.drew HFk.out) (Fd.mono (E':=fun _=>False) hf7 fun _ h=>h.elim) fun _ _ h=>h)
      have HP7:=qh hp7
      have q7:=HD7.out.pk HPA.out hi
      have d4:=HB7.out.cell 4;have d5:=HB7.out.cell 5;have d6:=HB7.out.cell 6;have d7:=HB7.out.cell 7;have d8:=HB7.out.cell 8;have d9:=HB7.out.cell 9;have d10:=HB7.out.cell 10;have d11:=HB7.out.cell 11;have d12:=HB7.out.cell 12;have d13:=HB7.out.cell 13
      simp only [qgz,qgs] at d4 d5 d6 d7 d8 d9 d10 d11 d12 d13
      clear hd7 hf7 hp7 HND
      refine hK.out _ _ ⟨q7.1,q7.2.1.trans (by rw [<- HXI.out]),d4,d5,d6,d7,d8,d9,d10,d11,d12,d13⟩ (fun hHeld=>?_)
      clear hK K q7 d4 d5 d6 d7 d8 d9 d10 d11 d12 d13 b4 b5 b6 b7 b8 b9 b10 b11 b12 b13 c1 c2 c3 c4
      (try simp only [Act.put,qsa,qsz,qss])
      refine wpAnyH_ready (rs:=[14]) (by kernel_rfl) (by simp) ?_
      refine AllReadyH.cons held_at14 (fun K hK=>?_) AllReadyH.nil
      (try simp only [qsa,qsz,qss])
      go_simp
      have hal7:Below w7.heap.size w7 (w7.alloc (.cells #[.int .i64 (-x),.int .i64 z] 3)):=(qbr _ _).alloc (qr _) _
      have HD8:=qh (HD7.out.move hal7)
      have HB8:=qh (HB7.out.below hal7 HB7.out.lt)
      have HA:=qh (dadd_new q (fun j=>j=pb) mp7 nd1 [-x,z] 2 w7 HD7.out rfl (by omega) HCV.out)
      have q7:=HD8.out.pk HPA.out hi
      have d4:=HB8.out.cell 4;have d5:=HB8.out.cell 5;have d6:=HB8.out.cell 6;have d7:=HB8.out.cell 7;have d8:=HB8.out.cell 8;have d9:=HB8.out.cell 9;have d10:=HB8.out.cell 10;have d11:=HB8.out.cell 11;have d12:=HB8.out.cell 12;have d13:=HB8.out.cell 13
      simp only [qgz,qgs] at d4 d5 d6 d7 d8 d9 d10 d11 d12 d13
      refine hK.out _ _ ⟨q7.1,q7.2.1.trans (by rw [<- HXI.out]),d4,d5,d6,d7,d8,d9,d10,d11,d12,d13⟩ (fun hHeld=>?_)
      clear hK K q7 d4 d5 d6 d7 d8 d9 d10 d11 d12 d13 hal7 HD8 HB8
      (try simp only [Act.put,qsa,qsz,qss])
      refine wpAnyH_ready (rs:=[15]) (by kernel_rfl) (by simp) ?_
      refine AllReadyH.cons held_at15 (fun K hK=>?_) AllReadyH.nil
      (try simp only [qsa,qsz,qss])
      go_simp
      go_at_call 45
      refine HA.out.mono ?_
      rintro e w9 ⟨rfl,hd9,hf9⟩
      have HD9:=qh hd9
      have HB9:=qh (hf9.whole HB7.out rfl)
      have HF9:Hid (Fd q (fun _=>False) w3 w9):=qh (HF7.out.trans (Fd.mono (E':=fun _=>False) hf9 fun _ h=>h.elim) fun _ _ h=>h)
      have q7:=HD9.out.pk HPA.out hi
      have d4:=HB9.out.cell 4;have d5:=HB9.out.cell 5;have d6:=HB9.out.cell 6;have d7:=HB9.out.cell 7;have d8:=HB9.out.cell 8;have d9:=HB9.out.cell 9;have d10:=HB9.out.cell 10;have d11:=HB9.out.cell 11;have d12:=HB9.out.cell 12;have d13:=HB9.out.cell 13
      simp only [qgz,qgs] at d4 d5 d6 d7 d8 d9 d10 d11 d12 d13
      refine hK.out _ _ ⟨q7.1,q7.2.1.trans (by rw [<- HXI.out]),d4,d5,d6,d7,d8,d9,d10,d11,d12,d13⟩ (fun hHeld=>?_)
      clear hK K q7 d4 d5 d6 d7 d8 d9 d10 d11 d12 d13 hd9 hf9 HA
      (try simp only [Act.put,qsa,qsz,qss])
      refine wpAnyH_done (by kernel_rfl) ?_ _
      go_wp2
      go_roundg (g3 - 1)
      case measure=>have:=Hi.out;omega
      case rel=>exact ⟨i+1,mp7,qh (by have:=Hi.out;omega),by go_num,qh (by have:=HP7.out;have:=HMP.out;have:=HN20.out;omega),qh (by rw [HPDE.out];exact HD9.out.mono fun _ h=>h.elim),HF9⟩
    obtain rfl:i=q.n:=by have:=Hi.out;omega
    obtain ⟨D2,hD2⟩:∃ x,x=pksD q.X q.ps D1 q.n:=⟨_,rfl⟩
    have HIN2:Hid (DIn q.X q.ps D2):=qh (by rw [hD2];exact pksD_in HIN1.out _ (by rw [HLen.out];exact qr _))
    rw [<- hD2] at HDr HFV HFC HENC
    obtain ⟨w4,hw4⟩:∃ x,x=wr:=⟨_,rfl⟩
    rw [<- hw4] at HDr HFr X5 ⊢
    have v0:=X5.out.wi.cell 0
    have wlt2:=X5.out.wi.lt
    have HN1:Hid (v.ts.length=n1):=qh (RSeq.len HW.out.ts)
    have hn16:n1<=6:=by have:=WP.out.ts;have:=HN1.out;omega
    simp only [qgz] at v0
    clear hD2 hw4 HIN1
    go_wp2
    go_loopg [115] n1 (fun g iv wr=>∃ (j mp:Nat),Hid (j+g=n1)/\iv=.int .i64 j/\Hid (mp<=160 * q.n+8 * j)/\Hid (Desk q (fun _=>False) mp (tgtsD q.X q.ps (v.ts.take j) D2) wr)/\Hid (Fd q (fun _=>False) w3 wr))
    case atStart=>exact ⟨0,mp,qh (Nat.zero_add _),rfl,qh (by have:=HMP.out;omega),HDr,HFr⟩
    case round =>
     obtain ⟨j,mp2,Hj,rfl,HMP2,HDj,HFj⟩:=hrel
     clear HDr HFr X5 v0 wlt2
     have X7:=qh (X3.out.below (HFj.out.below hq3s) h3q)
     by_cases hj:j<n1
     ·obtain ⟨b2,o2,xs,a,rfl,hbS2,ha,hxa,_,hcell⟩:=(RSeq.keep HW.out.ts (w':=wr) (fun p hp=>X7.out.bel.cell (HS.out _ hp)) fun _ _ h=>h).at_ hj (by decide)
      obtain ⟨rfl,_,_⟩:=hxa
      have g0:=hcell 0 (by omega);have g1:=hcell 1 (by omega);have g2:=hcell 2 (by omega);have g3':=hcell 3 (by omega);have g4:=hcell 4 (by omega);have g5:=hcell 5 (by omega)
      unfold atRow at g0 g1 g2 g3' g4 g5
      simp only [qgz,qgs,Nat.add_zero] at g0 g1 g2 g3' g4 g5
      have hal:Below wr.heap.size wr (wr.alloc (.cells #[.string ⟨a.nm.toArray⟩,.int .i64 a.op,.int .i64 a.ver,.int .i64 a.slot,.string ⟨a.fl.toArray⟩,.bool a.on] 75)):=(qbr _ wr).alloc (qr _) _
      have HD6:=qh (HDj.out.move hal)
      have hst:=tgtsD_take (X:=q.X) (ps:=q.ps) (d:=D2) ha
      have hpre:=(tgtsD_pre (X:=q.X) (ps:=q.ps) (d:=D2) (ts:=v.ts) (j+1))
      rw [hst] at hpre
      have hdin:=tgtsD_in (v.ts.take j) D2 HIN2.out
      have hadd:=(addD_le (meansD q.X q.ps a (-1) (tgtsD q.X q.ps (v.ts.take j) D2)).1 (meansD q.X q.ps a (-1) (tgtsD q.X q.ps (v.ts.take j) D2)).2).trans hpre
      have HM:=qh (dmeans_any q (fun _=>False) mp2 (tgtsD q.X q.ps (v.ts.take j) D2) a (-1) _ HD6.out hdin h8 (by have:=HMP2.out;omega) (qlt hadd.1 (qlt HFV.out (by omega))) (qlt hadd.2 (qlt HFC.out (by omega))))
      have HCV:Hid ((meansD q.X q.ps a (-1) (tgtsD q.X q.ps (v.ts.take j) D2)).1.cls.length<=100000):=qh (qlt hadd.2 (qlt HFC.out (by omega)))
      have HST:=qh hst
      generalize meansD q.X q.ps a (-1) (tgtsD q.X q.ps (v.ts.take j) D2)=md at HM HCV HST
      obtain ⟨md1,ml⟩:=md
      dsimp only at HCV HST
      have hbl2:b2<wr.heap.size:=ql (HS.out _ hbS2) X7.out.bel.size
      have HB6:=qh (Whole.new wr wr.heap.size 75 [.string ⟨a.nm.toArray⟩,.int .i64 a.op,.int .i64 a.ver,.int .i64 a.slot,.string ⟨a.fl.toArray⟩,.bool a.on] rfl)
      obtain ⟨x0,x1,x2,x3,x4,x5⟩:=ch6 HB6.out.cell
      simp only [qgz,qgs] at x0 x1 x2 x3 x4 x5
      have HF6:=qh (HFj.out.trans (Fd.of_below q (fun _=>False) hal) fun _ _ h=>h)
      clear hcell ha hst hpre hdin hadd hbS2 hal
      go_wp2_with (first | (go_at_call 47;refine HM.out.mono ?_;rintro e w7 ⟨A7,c7,mp7,rfl,hc7,hm7,hr7,hd7,hf7,hn7,hp7⟩;refine Hid.out ?_))
      refine qh ?_
      (try dsimp only at hc7 hm7 hr7 hd7 hf7 hn7)
      have HF7:=qh (HF6.out.trans hf7 fun _ _ h=>h)
      have HP7:=qh hp7
      have HA:=qh (dadd_any q (fun _=>False) (Cv (.slice A7 ml.length c7)) mp7 md1 A7 ml.length c7 ml w7 hd7 hr7 ⟨hc7,hm7⟩ (fun _ _ h=>h) HCV.out)
      clear hc7 hm7 hr7 hd7 hf7 hn7 hp7 HM g0 g1 g2 g3' g4 g5 x0 x1 x2 x3 x4 x5
      generalize ml.length=LL at HA ⊢
      go_wp2_with (first | (go_at_call 45;refine HA.out.mono ?_;rintro e w9 ⟨rfl,hd9,hf9⟩;refine Hid.out ?_))
      refine qh ?_
      have HD9:=qh hd9
      have HF9:Hid (Fd q (fun _=>False) w3 w9):=qh (HF7.out.trans (Fd.mono (E':=fun _=>False) hf9 fun _ h=>h.elim) fun _ _ h=>h)
      clear hd9 hf9 HA
      go_wp2
      go_roundg (gk - 1)
      case measure=>have:=Hj.out;omega
      case rel=>exact ⟨j+1,mp7,qh (by have:=Hj.out;omega),by go_num,qh (by have:=HP7.out;have:=HMP2.out;omega),qh (by rw [HST.out];exact HD9.out),HF9⟩
     obtain rfl:n1=j:=by have:=Hj.out;omega
     have hfull:v.ts.take n1=v.ts:=List.take_of_length_le (by rw [HN1.out];exact qr _)
     rw [hfull,<- HENC.out] at HDj
     have hN:encN q.ps v=(encW q.ps v).vars:=if_pos HZ.out.symm
     have hC:encC q.ps v=(encW q.ps v).cls:=if_pos HZ.out.symm
     obtain ⟨P,hs,HK⟩:=HDj.out
     obtain ⟨FA,fC,rfl,hf1,hf2,hfrow⟩:=own_formK HK.own
     rw [Nat.mul_one] at hfrow
     have d3:=HK.blk.cell 3;have d4:=HK.blk.cell 4
     have dlt:=HK.blk.lt
     have rf0:=X7.out.r.free 0;have rf1:=X7.out.r.free 1
     have z0:=X7.out.r.cell 0;have z1:=X7.out.r.cell 1
     have rlt:=X7.out.r.lt
     simp only [qgz,qgs] at d3 d4 z0 z1
     obtain ⟨NV,hNV⟩:∃ x,x=(encW q.ps v).vars:=⟨_,rfl⟩
     obtain ⟨NC,hNC⟩:∃ x,x=(encW q.ps v).cls.length:=⟨_,rfl⟩
     have hrcl:RClauses wr (fun k=>w.heap.size<=k/\k<wr.heap.size/\k≠w.heap.size+1+1) FA (encW q.ps v).cls.length (encW q.ps v).cls:=by
      refine RClauses.of_ (hfrow.more fun k hk=>?_) (HK.heads.more fun k hk=>⟨by have:=hk.1;omega,hk.2.1,by have:=hk.1;omega⟩)
      have:=HK.own.lt k hk
      exact ⟨by omega,this.2,by omega⟩
     rw [<- hNV] at d3
     rw [<- hNC] at d4
     have HRC:=qh hrcl
     have HCAP:=qh (And.intro hf1 hf2)
     have HNV:=qh (hN.trans hNV.symm)
     have HCC2:=qh hC
     have HNC2:=qh hNC
     have HBL:=qh X7.out.bel
     have hW:=qh ((X7.out.r.set_ 0 (.int .i64 (NV:Int))).set_ 1 (.slice FA NC fC))
     clear hrcl hf1 hf2 hfrow hN hC hNV hNC HK hfull
     go_wp2
     clear z0 z1
     have z0:=hW.out.cell 0;have z1:=hW.out.cell 1
     simp only [List.set_cons_succ,List.set_cons_zero,qgz,qgs] at z0 z1
     refine bodyPost_ret (v:=.tuple #[.agg #[_,_],.int .i64 _]) (by simp [results,Tryz.results12,go_sem,z0,z1];exact ⟨⟨rfl,rfl⟩,rfl⟩) rfl ?_
     have F2:Far (fun i=>i=w.heap.size+1+1) wr ((wr.setCell ⟨w.heap.size+1+1,0,none⟩ (.int .i64 (NV:Int))).setCell ⟨w.heap.size+1+1,1,none⟩ (.slice FA NC fC)):=(Far.set_ (D:=fun i=>i=w.heap.size+1+1) rfl 0 _).trans (Far.set_ (D:=fun i=>i=w.heap.size+1+1) rfl 1 _) fun _ _ h=>h
     have hrc2:=(F2.clauses HRC.out fun k hk=>⟨hk.2.1,hk.2.2⟩).more (S':=fun k=>w.heap.size<=k/\k<((wr.setCell ⟨w.heap.size+1+1,0,none⟩ (.int .i64 (NV:Int))).setCell ⟨w.heap.size+1+1,1,none⟩ (.slice FA NC fC)).heap.size) fun k hk=>⟨hk.1,ql hk.2.1 F2.size⟩
     refine ⟨FA,fC, ?_,by rw [HCC2.out];exact hrc2,by rw [HCC2.out];exact HCAP.out.1,HCAP.out.2,HBL.out.trans (F2.below HBL.out.size fun i e=>by omega)⟩
     rw [HNV.out,HCC2.out,<- HNC2.out,<- HZ.out]
     try rfl
 have h0b:(z == 0)=false:=by simpa using h0
 have h0c:(z != 0)=true:=by simpa using h0
 go_wp2_with (first | (go_at_call 34;refine Hcw.out.mono ?_;rintro e w2 ⟨rfl,hb2⟩;refine Hid.out ?_))
 refine qh ?_
 have X2:=qh (X0.out.move hb2)
 have rlt:=X2.out.r.lt
 have z0:=X2.out.r.cell 0;have z1:=X2.out.r.cell 1
 have f0:=X2.out.r.free 0;have f1:=X2.out.r.free 1
 simp only [qgz,qgs] at z0 z1
 clear hb2
 go_wp2
 have hW:=qh ((X2.out.r.set_ 0 (.int .i64 0)).set_ 1 (.slice none 0 0))
 have hbz:=qh ((X2.out.bel.setCell (p:=⟨w.heap.size+1+1,0,none⟩) (by show w.heap.size<=w.heap.size+1+1;omega) (.int .i64 0)).setCell (p:=⟨w.heap.size+1+1,1,none⟩) (by show w.heap.size<=w.heap.size+1+1;omega) (.slice none 0 0))
 clear z0 z1 f0 f1
 have z0:=hW.out.cell 0;have z1:=hW.out.cell 1
 simp only [List.set_cons_succ,List.set_cons_zero,qgz,qgs] at z0 z1
 refine bodyPost_ret (v:=.tuple #[.agg #[_,_],.int .i64 _]) (by simp [results,Tryz.results12,go_sem,z0,z1];exact ⟨⟨rfl,rfl⟩,rfl⟩) rfl ?_
 have hN:encN ps v=0:=if_neg (by rw [<- HZ.out];exact h0)
 have hC:encC ps v=[]:=if_neg (by rw [<- HZ.out];exact h0)
 exact ⟨none,0,by rw [hN,hC,<- HZ.out];rfl,by rw [hC];exact RClauses.nil_,by rw [hC];exact qr _,Nat.zero_le _,hbz.out⟩
end
section
open Go.RowKit
theorem step_append_ownE {P:Program} {ops:Array Oper} {o:Oper} {a:Act} {w:World} {K:Act->World->Prop} {Q:Exit->Act->World->Prop} {E:Prop} (hgd:o.guard=none) (s x:Operand) (t:TypeId)
  (ho:o.op=.call { callee:=.builtin .append,args:=#[s,x],argTypes:=#[t,t] })
  (base:Nat) (e:TypeId) (i:TypeInfo) (z:Value) (size bytes:Nat) (ht:P.underlying t=some (.slice e)) (hi:P.info? e=some i) (hz:i.zero=some z)
  (hsize:i.size=size) (hby:i.bytes=bytes) (hzs:z.cells.size=size) (hsz:0<size)
  (v:Value) (n:Nat) (xs:List Value) (hs:a.eval s=v) (hown:w.ownsRow base e size v n xs)
  (ad:Addr) (m c:Nat) (news:List Value) (hx:a.eval x=.slice (some ad) m c) (hl:news.length=m * size) (hnews:∀ j u,news[j]? = some u->w.cell? (ad.add j)=some u) (h1:∀ u∈news,u.oneCell'=true)
  (h63:n+m<=maxLen) (hbytes:(n+m) * bytes<=140737488355328) (hbase:base<=w.heap.size)
  (h:∀ v' w',w'.ownsRow base e size v' (n+m) (xs++news)->w.grownBy w' v.ownBlock->(v'=.slice none 0 0↔v=.slice none 0 0/\m=0)->(v'.ownBlock=v.ownBlock\/v'.ownBlock=some w.heap.size)->K (a.put o.dst v') w') :
  if Region.wanted o (yielded ops a.tmps)=true then Oper.wp P o a w K Q else E:=by
 have hw:Region.wanted o (yielded ops a.tmps)=true:=by simp [Region.wanted,hgd]
 rw [if_pos hw]
 obtain ⟨v',w',hr,h2,h3,h4,h5⟩:=run_append_own_at (P:=P) w base t o.type e i z size bytes ht hi hz hsize hby hzs hsz v n xs hown ad m c news hl hnews h1 h63 hbytes hbase
 unfold Oper.wp execOp
 simp only [ho,resolve,invoke,builtin,Sem.run_bind,Sem.run_pure,Result.andThen_ok,List.map_toArray,List.map_cons,List.map_nil,hs,hx,hr]
 exact h v' w' h2 h3 h4 h5
end
section
open Go.RowKit Qm
structure Mg (B:Nat) (v:Value) (cs:List (List Value)) (ms:List Mem) (wr:World):Prop where
 own:wr.ownsRow B 85 2 v ms.length cs.flatten
 len:cs.length=ms.length
 two:∀ x∈cs,x.length=2
 row:∀ (j:Nat) (x:List Value) (a:Mem),cs[j]? = some x->ms[j]? = some a->RMem wr (fun k=>B<=k/\k<wr.heap.size/\v.ownBlock≠some k) x a
 le:B<=wr.heap.size
section
variable {B : Nat} {v v8 : Value} {cs : List (List Value)} {ms : List Mem} {wr wy w8 : World} {x : List Value} {a : Mem}
theorem Mg.move (h:Mg B v cs ms wr) (hb:Below wr.heap.size wr wy):Mg B v cs ms wy:=
 ⟨(Far.of_below (fun _=>False) hb).own h.own fun _ _ h=>h,h.len,h.two,fun j x a h1 h2=>((h.row j x a h1 h2).keep fun p hp=>hb.cell hp.2.1).more fun k hk=>⟨hk.1,ql hk.2.1 hb.size,hk.2.2⟩,qlt h.le hb.size⟩
theorem Mg.nil_ {w:World}:Mg w.heap.size (.slice none 0 0) [] [] w:=⟨World.ownsRow_nil _ _ _ _,rfl,fun x hx=>(by cases hx),fun j x a h1 _=>(by simp at h1),qr _⟩
theorem Mg.push (h:Mg B v cs ms wr) (hx:RMem wr (fun k=>B<=k/\k<wr.heap.size/\v.ownBlock≠some k) x a) (h4:x.length=2) {o:Obj} (hown:w8.ownsRow B 85 2 v8 (ms.length+1) (cs.flatten++x)) (hg:(wr.alloc o).grownBy w8 v.ownBlock)
  (hv:v8.ownBlock=v.ownBlock\/v8.ownBlock=some (wr.alloc o).heap.size):Mg B v8 (cs++[x]) (ms++[a]) w8/\Far (fun i=>v.ownBlock=some i) wr w8:=by
 have hal:Below wr.heap.size wr (wr.alloc o):=(qbr _ wr).alloc (qr _) _
 have far:Far (fun i=>v.ownBlock=some i) wr w8:=(Far.of_below _ hal).trans (Far.of_grown hg fun i h=>h.symm) fun _ _ h=>h
 have hS:∀ k,(B<=k/\k<wr.heap.size/\v.ownBlock≠some k)->(B<=k/\k<w8.heap.size/\v8.ownBlock≠some k):=fun k hk=>⟨hk.1,ql hk.2.1 far.size,by
  rcases hv with e | e
  ·rw [e];exact hk.2.2
  rw [e];intro e2;injection e2 with e2;simp at e2;omega⟩
 refine ⟨⟨by rw [List.length_append,List.flatten_append];simpa using hown,by simp [h.len],fun y hy=>?_,fun j y b h1 h2=>?_,qlt h.le far.size⟩,far⟩
 ·rcases List.mem_append.1 hy with hy | hy
  ·exact h.two y hy
  rw [List.mem_singleton.1 hy];exact h4
 have hold:RMem wr (fun k=>B<=k/\k<wr.heap.size/\v.ownBlock≠some k) y b:=by
  by_cases hj:j<cs.length
  ·rw [List.getElem?_append_left hj] at h1
   rw [List.getElem?_append_left (by rw [<- h.len];exact hj)] at h2
   exact h.row j y b h1 h2
  rw [List.getElem?_append_right (by omega)] at h1
  rw [List.getElem?_append_right (by rw [<- h.len];omega),<- h.len] at h2
  obtain ⟨e1,e2⟩:y=x/\b=a:=by
   cases hk:j - cs.length with
   | zero=>rw [hk] at h1 h2;simp at h1 h2;exact ⟨h1.symm,h2.symm⟩
   | succ i=>rw [hk] at h1;simp at h1
  subst e1 e2;exact hx
 exact (hold.keep fun p hp=>far.cell hp.2.1 fun e=>hp.2.2 e).more hS
end
theorem Mg.set {B:Nat} {A:Option Addr} {n c:Nat} {cs:List (List Value)} {ms:List Mem} {wr:World} (h:Mg B (.slice A n c) cs ms wr) (hn:n=ms.length):RSet wr (fun k=>B<=k/\k<wr.heap.size) A n ms/\n<=c/\c<=maxLen:=by
 subst hn
 obtain ⟨A2,c2,e,h1,h2,hr⟩:=own_formK h.own
 obtain ⟨rfl,rfl⟩:A=A2/\c=c2:=by injection e with e1 e2 e3;exact ⟨e1,e3⟩
 refine ⟨⟨cs,rfl,h.len,hr.more fun k hk=>h.own.lt k hk,h.two,fun j x y h1 h2=>(h.row j x y h1 h2).more fun k hk=>⟨hk.1,hk.2.1⟩⟩,h1,h2⟩
theorem setHolds_any (x:Int) (mb:Nat) (MA:Option Addr) (mn mc:Nat) (m:List Bool) (Sm:Nat->Prop) (w:World) (hm:w.cell? ⟨mb,0,none⟩=some (.slice MA mn mc)) (hr:RBools w Sm MA mn m) (hx:x≠0) (hx2:x.natAbs<=mn) (hx3:x.natAbs<=100000) :
  Calls Tryz.prog 52 #[.int .i64 x,.pointer (some ⟨mb,0,none⟩)] w fun e w'=>e=.returned (.bool (litHolds m x))/\w'=w:=by
 obtain ⟨b,o,rfl,hb,hc⟩:=RBools.at_ (w:=w) (xs:=m) hr (k:=x.natAbs - 1) (by omega)
 have HL:Hid (litHolds m x=(m.getD (x.natAbs - 1) false == decide (0<x))):=qh rfl
 generalize m.getD (x.natAbs - 1) false=bv at hc HL
 have hxb : -200000<=x/\x<=200000:=by omega
 clear hr hb
 by_cases hp:0<x
 ·have hmx:max x (-x)=x:=by omega
  have hd:decide ((0:Int)<x)=true:=qdt hp
  have hHd:Hid (litHolds m x=(bv == true)):=qh (by rw [HL.out,hd])
  obtain ⟨k,rfl⟩:∃ k:Nat,x=k+1:=⟨x.toNat - 1,by omega⟩
  have e1:((k:Int)+1).natAbs - 1=k:=by omega
  rw [e1] at hc
  have hkn:(k:Int)<mn:=by omega
  have hk0:(0:Int)<=(k:Int):=by omega
  have hkk:(k:Int)+1 - 1=k:=by omega
  clear HL e1 hx hx2 hx3
  go_enter Tryz.func52,Tryz.ntmps52
  go_wp2
  go_ret
  exact ⟨ret_bool (by rw [hHd.out];cases bv <;> rfl),rfl⟩
 have hHd:Hid (litHolds m x=(bv == false)):=qh (by rw [HL.out,qdf hp])
 obtain ⟨k,rfl⟩:∃ k:Nat,x = -((k:Int)+1):=⟨(-x).toNat - 1,by omega⟩
 have hmx:max (-((k:Int)+1)) ((k:Int)+1)=(k:Int)+1:=by omega
 have e1:(-((k:Int)+1)).natAbs - 1=k:=by omega
 rw [e1] at hc
 have hkn:(k:Int)<mn:=by omega
 have hk0:(0:Int)<=(k:Int):=by omega
 have hkk:(k:Int)+1 - 1=k:=by omega
 have hd:decide ((0:Int) < -((k:Int)+1))=false:=qdf (by omega)
 clear HL e1 hx hx2 hx3 hp
 go_enter Tryz.func52,Tryz.ntmps52
 go_wp2
 go_ret
 exact ⟨ret_bool (by rw [hHd.out];cases bv <;> rfl),rfl⟩
end
end Go.Proofs.YtedbhlgjcnnknaaGreatDoor
